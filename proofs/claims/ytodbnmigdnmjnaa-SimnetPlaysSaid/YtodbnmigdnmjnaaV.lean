/- the reference's net: what it holds, and its small methods -/
import Derived.Test.YtodbnmigdnmjnaaU
namespace Go.Proofs.Ytodbnmigdnmjnaa
open Go.RowKit

structure RN (w : World) (R : Nat → Prop) (g : Nat) (room : Int) (q : Bool → Value) (cut : Bool) (sent bytes : Int) (vs : Bool → List Value) (ms : Bool → List (List Int)) : Prop where
  net : w.heap[g]? = some (.cells (netCells room q cut sent bytes) 47 (0, 0))
  gR : R g
  row : ∀ e, Row w 28 1 (q e) (vs e)
  qR : ∀ e k, (q e).ownBlock = some k → R k
  len : ∀ e, (vs e).length = (ms e).length
  msg : ∀ (e : Bool) (i : Nat) (v : Value) (m : List Int), (vs e)[i]? = some v → (ms e)[i]? = some m → Row w 5 1 v (nums m)
  mR : ∀ (e : Bool) (i : Nat) (v : Value) (k : Nat), (vs e)[i]? = some v → v.ownBlock = some k → R k

def ext (R : Nat → Prop) (w w' : World) : Nat → Prop := fun k => R k ∨ (w.heap.size ≤ k ∧ k < w'.heap.size)

theorem RN.some_msg {w : World} {R : Nat → Prop} {g : Nat} {room : Int} {q : Bool → Value} {cut : Bool} {sent bytes : Int} {vs : Bool → List Value} {ms : Bool → List (List Int)} (h : RN w R g room q cut sent bytes vs ms) {e : Bool} {i : Nat} {v : Value} (hv : (vs e)[i]? = some v) : ∃ m, (ms e)[i]? = some m ∧ Row w 5 1 v (nums m) := by
  have hi : i < (vs e).length := (List.getElem?_eq_some_iff.1 hv).1
  have hm : i < (ms e).length := by rw [← h.len]; exact hi
  exact ⟨(ms e)[i], by simp [hm], h.msg e i v _ hv (by simp [hm])⟩

/-- its data elsewhere stays: the net's own block may have turned -/
theorem RN.data {w w' : World} {R R' : Nat → Prop} {g : Nat} {room room' : Int} {q : Bool → Value} {cut cut' : Bool} {sent bytes sent' bytes' : Int} {vs : Bool → List Value} {ms : Bool → List (List Int)} (h : RN w R g room q cut sent bytes vs ms)
    (hk : ∀ k, k < w.heap.size → R k → k ≠ g → w'.heap[k]? = w.heap[k]?) (hR : ∀ k, R k → R' k) (hn : w'.heap[g]? = some (.cells (netCells room' q cut' sent' bytes') 47 (0, 0))) : RN w' R' g room' q cut' sent' bytes' vs ms := by
  refine ⟨hn, hR _ h.gR, fun e => (h.row e).keep fun k hk' => hk k ((h.row e).lt k hk') (h.qR e k hk') ?_, fun e k hk' => hR _ (h.qR e k hk'), h.len, fun e i v m hv hm => (h.msg e i v m hv hm).keep fun k hk' => hk k ((h.msg e i v m hv hm).lt k hk') (h.mR e i v k hv hk') ?_, fun e i v k hv hk' => hR _ (h.mR e i v k hv hk')⟩
  · rintro rfl; exact (h.row e).ne h.net (by decide) hk'
  · rintro rfl; exact (h.msg e i v m hv hm).ne h.net (by decide) hk'

theorem RN.keepR {w w' : World} {R R' : Nat → Prop} {g : Nat} {room : Int} {q : Bool → Value} {cut : Bool} {sent bytes : Int} {vs : Bool → List Value} {ms : Bool → List (List Int)} (h : RN w R g room q cut sent bytes vs ms) (hk : Keep R w w') (hR : ∀ k, R k → R' k) : RN w' R' g room q cut sent bytes vs ms :=
  h.data (fun k hk' hr _ => hk.block k hk' hr) hR ((hk.block g (blkLt h.net) h.gR).trans h.net)

/-- a queue is made anew: each of its messages is an old one, or a new one -/
theorem RN.queue {w w2 : World} {R : Nat → Prop} {g : Nat} {room : Int} {q : Bool → Value} {cut : Bool} {sent bytes : Int} {vs : Bool → List Value} {ms : Bool → List (List Int)} (h : RN w R g room q cut sent bytes vs ms) (t : Bool) {q' : Value} {vs' : List Value} {ms' : List (List Int)} {w' : World} (hw : w' = w2.setCell ⟨g, 1 + (endI t).toNat, none⟩ q')
    (hb : Below w.heap.size w w2) (hq' : Row w2 28 1 q' vs') (hqR : ∀ k, q'.ownBlock = some k → R k ∨ w.heap.size ≤ k) (hl : vs'.length = ms'.length)
    (hm : ∀ (i : Nat) (v : Value) (m : List Int), vs'[i]? = some v → ms'[i]? = some m → Row w2 5 1 v (nums m)) (hmR : ∀ (i : Nat) (v : Value) (k : Nat), vs'[i]? = some v → v.ownBlock = some k → R k ∨ w.heap.size ≤ k) :
    RN w' (ext R w w') g room (upd q t q') cut sent bytes (upd vs t vs') (upd ms t ms') ∧ Keep (· ≠ g) w w' := by
  subst hw
  have hg2 := (hb.block g (blkLt h.net)).trans h.net
  have hsz : (w2.setCell ⟨g, 1 + (endI t).toNat, none⟩ q').heap.size = w2.heap.size := by simp [World.setCell]
  have hset : ∀ {e : TypeId} {v : Value} {xs : List Value}, Row w2 e 1 v xs → e ≠ 47 → Row (w2.setCell ⟨g, 1 + (endI t).toNat, none⟩ q') e 1 v xs := fun hr he => hr.keep fun k hk => Below.heap_setCell _ _ _ _ (by
    rintro rfl; exact hr.ne hg2 he hk)
  have hext : ∀ {e : TypeId} {v : Value} {xs : List Value} {k : Nat}, Row w2 e 1 v xs → v.ownBlock = some k → R k ∨ w.heap.size ≤ k → ext R w (w2.setCell ⟨g, 1 + (endI t).toNat, none⟩ q') k := fun hr hk ho => by
    rcases ho with ho | ho
    · exact .inl ho
    · exact .inr ⟨ho, by rw [hsz]; exact hr.lt _ hk⟩
  refine ⟨⟨?_, .inl h.gR, fun e => ?_, fun e k hk => ?_, fun e => ?_, fun e i v m hv hm' => ?_, fun e i v k hv hk => ?_⟩, ?_⟩
  · have := blkSet hg2 (1 + (endI t).toNat) q'
    rw [netCells_set] at this; exact this
  · by_cases he : e = t
    · subst he; rw [upd_same, upd_same]; exact hset hq' (by decide)
    · rw [upd_other _ _ _ _ he, upd_other _ _ _ _ he]; exact hset ((h.row e).below hb) (by decide)
  · by_cases he : e = t
    · subst he; rw [upd_same] at hk; exact hext hq' hk (hqR k hk)
    · rw [upd_other _ _ _ _ he] at hk; exact .inl (h.qR e k hk)
  · by_cases he : e = t
    · subst he; rw [upd_same, upd_same]; exact hl
    · rw [upd_other _ _ _ _ he, upd_other _ _ _ _ he]; exact h.len e
  · by_cases he : e = t
    · subst he; rw [upd_same] at hv hm'; exact hset (hm i v m hv hm') (by decide)
    · rw [upd_other _ _ _ _ he] at hv hm'; exact hset ((h.msg e i v m hv hm').below hb) (by decide)
  · by_cases he : e = t
    · subst he; rw [upd_same] at hv
      have hi : i < ms'.length := by rw [← hl]; exact (List.getElem?_eq_some_iff.1 hv).1
      exact hext (hm i v ms'[i] hv (by simp [hi])) hk (hmR i v k hv hk)
    · rw [upd_other _ _ _ _ he] at hv; exact .inl (h.mR e i v k hv hk)
  · exact (Keep.ofBelow hb fun k hk _ => hk).setCell (p := ⟨g, _, none⟩) (.inl (by simp)) _

theorem RN.q_at {w : World} {R : Nat → Prop} {g : Nat} {room : Int} {q : Bool → Value} {cut : Bool} {sent bytes : Int} {vs : Bool → List Value} {ms : Bool → List (List Int)} (h : RN w R g room q cut sent bytes vs ms) (t : Bool) :
    ∃ A c, q t = .slice A (ms t).length c ∧ w.cell? ⟨g, 1 + (endI t).toNat, none⟩ = some (.slice A (ms t).length c) ∧ Row w 28 1 (.slice A (ms t).length c) (vs t) := by
  obtain ⟨A, n, c, hqt, hlv, _⟩ := id (h.row t)
  have hlm := h.len t
  obtain rfl : n = (ms t).length := by omega
  have hr := h.row t
  rw [hqt] at hr
  exact ⟨A, c, hqt, (blkCell h.net _).trans ((netCells_q _ _ _ _ _ t).trans (by rw [hqt])), hr⟩
theorem RN.msg_at {w : World} {R : Nat → Prop} {g : Nat} {room : Int} {q : Bool → Value} {cut : Bool} {sent bytes : Int} {vs : Bool → List Value} {ms : Bool → List (List Int)} (h : RN w R g room q cut sent bytes vs ms) (t : Bool) {i : Nat} (hi : i < (ms t).length) :
    ∃ vA vc, (vs t)[i]? = some (.slice vA (ms t)[i].length vc) ∧ Row w 5 1 (.slice vA (ms t)[i].length vc) (nums (ms t)[i]) := by
  have hlv := h.len t
  obtain ⟨v, hv⟩ : ∃ v, (vs t)[i]? = some v := ⟨(vs t)[i]'(by omega), by simp⟩
  have hrv := h.msg t i v _ hv (by simp [hi] : (ms t)[i]? = some (ms t)[i])
  obtain ⟨vA, vn, vc, rfl, _⟩ := id hrv
  obtain rfl := hrv.src.len
  exact ⟨vA, vc, hv, hrv⟩
theorem RN.slices {w : World} {R : Nat → Prop} {g : Nat} {room : Int} {q : Bool → Value} {cut : Bool} {sent bytes : Int} {vs : Bool → List Value} {ms : Bool → List (List Int)} (h : RN w R g room q cut sent bytes vs ms) (t : Bool) : ∀ v ∈ vs t, ∃ A n c, v = .slice A n c := by
  intro v hv
  obtain ⟨i, hi, rfl⟩ := List.getElem_of_mem hv
  obtain ⟨m, _, hr⟩ := h.some_msg (e := t) (i := i) (v := (vs t)[i]) (by simp [hi])
  obtain ⟨A, n, c, hv', _⟩ := hr
  exact ⟨A, n, c, hv'⟩

set_option maxHeartbeats 400000 in
theorem rnew_bad (n : Int) (w : World) (h : decide (n < 1) = true ∨ (decide (n < 1) = false ∧ decide (n > 1000) = true)) :
    Calls Try.prog 16 #[.int .i64 n] w fun e w' => e = .returned (.tuple #[.pointer none, .int .i64 1]) ∧ w = w' := by
  rcases h with h | ⟨h, h2⟩
  · go_enter Try.func16, Try.ntmps16
    go_wp2
    go_ret2
    exact ⟨rfl, rfl⟩
  · go_enter Try.func16, Try.ntmps16
    go_wp2
    go_ret2
    exact ⟨rfl, rfl⟩

set_option maxHeartbeats 400000 in
theorem rnew_ok (n : Int) (w : World) (h1 : 1 ≤ n) (h2 : n ≤ 1000) :
    Calls Try.prog 16 #[.int .i64 n] w fun e w' => e = .returned (.tuple #[.pointer (some ⟨w.heap.size, 0, none⟩), .int .i64 0]) ∧
      w' = w.alloc (.cells #[.int .i64 n, .slice none 0 0, .slice none 0 0, .bool false, .int .i64 0, .int .i64 0] 47 (0, 0)) := by
  go_enter Try.func16, Try.ntmps16
  go_wp2
  go_ret2
  exact ⟨rfl, rfl⟩

set_option maxHeartbeats 400000 in
theorem rend_in (t : Bool) (w : World) : Calls Try.prog 47 #[.int .i64 (endI t)] w fun e w' => e = .returned (.bool true) ∧ w = w' := by
  cases t
  all_goals
    simp only [show endI false = 0 from rfl, show endI true = 1 from rfl]
    go_enter Try.func47, Try.ntmps47
    go_wp2
    go_ret
    exact ⟨rfl, rfl⟩

set_option maxHeartbeats 400000 in
theorem rend_off (e : Int) (w : World) (h : offEnd e) : Calls Try.prog 47 #[.int .i64 e] w fun e w' => e = .returned (.bool false) ∧ w = w' := by
  have h0 : (e == 0) = false := by
    rcases h with h | ⟨h, h2⟩ <;> simp at * <;> omega
  have h1 : (e == 1) = false := by
    rcases h with h | ⟨h, h2⟩ <;> simp at * <;> omega
  clear h
  go_enter Try.func47, Try.ntmps47
  go_wp2
  go_ret
  exact ⟨rfl, rfl⟩

theorem rhas_off (a : Addr) (e i : Int) (w : World) (h : offEnd e) : Calls Try.prog 49 #[.pointer (some a), .int .i64 e, .int .i64 i] w fun e w' => e = .returned (.bool false) ∧ w = w' := by
  have H := hid (rend_off e w h)
  clear h
  go_enter Try.func49, Try.ntmps49
  go_wp2_with (go_at_call 47; refine H.out.mono ?_; rintro e w' ⟨rfl, rfl⟩)
  go_ret
  exact ⟨rfl, rfl⟩

set_option maxHeartbeats 400000 in
theorem rhas_in (g : Nat) (t : Bool) (i : Int) (A : Option Addr) (n c : Nat) (w : World) (hq : w.cell? ⟨g, 1 + (endI t).toNat, none⟩ = some (.slice A n c)) :
    Calls Try.prog 49 #[.pointer (some ⟨g, 0, none⟩), .int .i64 (endI t), .int .i64 i] w fun e w' => e = .returned (.bool (decide (0 ≤ i ∧ i < n))) ∧ w = w' := by
  have H := hid (rend_in t w)
  have ⟨e0, e1⟩ := endI_range t
  have g2 : 0 ≤ endI t := e0
  by_cases h0 : 0 ≤ i
  · have g1 : decide (i ≥ 0) = true := by simpa using h0
    by_cases h1 : i < n
    · have g3 : decide (i < (n : Int)) = true := by simpa using h1
      go_enter Try.func49, Try.ntmps49
      go_wp2_with (go_at_call 47; refine H.out.mono ?_; rintro e w' ⟨rfl, rfl⟩)
      go_ret
      exact ⟨by simp [h0, h1], rfl⟩
    · have g3 : decide (i < (n : Int)) = false := by simpa using h1
      go_enter Try.func49, Try.ntmps49
      go_wp2_with (go_at_call 47; refine H.out.mono ?_; rintro e w' ⟨rfl, rfl⟩)
      go_ret
      exact ⟨by simp [h0, h1], rfl⟩
  · have g1 : decide (i ≥ 0) = false := by simpa using h0
    go_enter Try.func49, Try.ntmps49
    go_wp2_with (go_at_call 47; refine H.out.mono ?_; rintro e w' ⟨rfl, rfl⟩)
    go_ret
    exact ⟨by rw [decide_eq_false (show ¬ (0 ≤ i ∧ i < (n : Int)) by omega)]; rfl, rfl⟩

end Go.Proofs.Ytodbnmigdnmjnaa
