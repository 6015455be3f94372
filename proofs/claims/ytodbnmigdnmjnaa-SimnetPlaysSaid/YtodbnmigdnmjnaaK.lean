/- SimnetOnce: the parts of its walk -/
import Derived.Test.YtodbnmigdnmjnaaI
import Derived.Test.YtodbnmigdnmjnaaJ
namespace Go.Proofs.Ytodbnmigdnmjnaa
open Go.RowKit

/-- a slice of slices of bytes -/
def Rows2 (w : World) (v : Value) (zs : List (List Int)) : Prop :=
  ∃ vals, Src w 1 v vals ∧ vals.length = zs.length ∧ ∀ (i : Nat) (u : Value) (z : List Int), vals[i]? = some u → zs[i]? = some z → Src w 1 u (nums z)
theorem Rows2.len {w : World} {A : Option Addr} {n c : Nat} {zs : List (List Int)} (h : Rows2 w (.slice A n c) zs) : n = zs.length := by
  obtain ⟨vals, ⟨_, _, _, hv, hl, _⟩, hlen, _⟩ := h
  cases hv
  omega
theorem Rows2.at_ {w w' : World} {A : Option Addr} {n c : Nat} {zs : List (List Int)} (h : Rows2 w (.slice A n c) zs) (hk : Keep (· < w.heap.size) w w') {i : Nat} (hi : i < n) :
    ∃ a A' z c', A = some a ∧ w'.cell? (a.add i) = some (.slice A' z.length c') ∧ Src w' 1 (.slice A' z.length c') (nums z) ∧ HidP (zs[i]? = some z) := by
  have hl := h.len
  obtain ⟨vals, hs, hlen, hall⟩ := h
  have hb := Below.ofKeep hk (Nat.le_refl _)
  obtain ⟨_, _, _, hv, _, _, _, hh⟩ := hs.below hb
  cases hv
  have hi1 : i < vals.length := by omega
  have hi2 : i < zs.length := by omega
  obtain ⟨a, rfl, hc⟩ := hh i vals[i] (by simp [hi1])
  have hsrc := hall i vals[i] zs[i] (by simp [hi1]) (by simp [hi2])
  obtain ⟨A', n', c', hv, _⟩ := id hsrc
  rw [hv] at hc hsrc
  obtain rfl := hsrc.len
  exact ⟨a, A', zs[i], c', rfl, hc, hsrc.below hb, hid (by simp [hi2])⟩

theorem Row.setByte {w : World} {b off n c : Nat} {xs : List Int} (h : Row w 5 1 (.slice (some ⟨b, off, none⟩) n c) (nums xs)) {i : Nat} (y : Int) (_hi : i < n) :
    Row (w.setCell ⟨b, off + i, none⟩ (.int .u8 y)) 5 1 (.slice (some ⟨b, off, none⟩) n c) (nums (xs.set i y)) := by
  obtain ⟨A, n', c', hv, hl, hnc, hc, h⟩ := h
  cases hv
  rcases h with ⟨hh, _⟩ | ⟨b', off', cs, hh, hb, hs, ht⟩
  · cases hh
  · cases hh
    refine ⟨_, n, c, rfl, by simpa [nums] using hl, hnc, hc, .inr ⟨b, off, _, rfl, blkSet hb _ _, by simpa using hs, ?_⟩⟩
    rw [Array.toList_setIfInBounds, List.drop_set, if_neg (by omega), show off + i - off = i by omega, List.take_set, ht]
    simp [nums, List.map_set]

theorem Core.more {w w' : World} {R R' : Nat → Prop} {q : Bool → Value} {vs : Bool → List Value} {ms : Bool → List (List Int)} (h : Core w R q vs ms) (hb : Below w.heap.size w w') (hR : ∀ k, R' k → R k ∨ w.heap.size ≤ k) : Core w' R' q vs ms := by
  have h1 : Core w' R q vs ms := h.keep fun k hk _ _ => hb.block k hk
  have hq : ∀ e k, (q e).ownBlock = some k → ¬ R' k := fun e k hk hr => by
    rcases hR k hr with h' | h'
    · exact h.qR e k hk h'
    · have := (h.row e).lt k hk; omega
  have hm : ∀ (e : Bool) (i : Nat) (v : Value) (k : Nat), (vs e)[i]? = some v → v.ownBlock = some k → ¬ R' k := fun e i v k hv hk hr => by
    rcases hR k hr with h' | h'
    · exact h.mR e i v k hv hk h'
    · obtain ⟨m, _, hrow⟩ := h.some_msg hv
      have := hrow.lt k hk; omega
  exact ⟨h1.row, hq, h1.qq, h1.len, h1.msg, hm, h1.mm⟩
theorem Core.less {w : World} {R R' : Nat → Prop} {q : Bool → Value} {vs : Bool → List Value} {ms : Bool → List (List Int)} (h : Core w R q vs ms) (hR : ∀ k, R' k → R k) : Core w R' q vs ms :=
  ⟨h.row, fun e k hk hr => h.qR e k hk (hR k hr), h.qq, h.len, h.msg, fun e i v k hv hk hr => h.mR e i v k hv hk (hR k hr), h.mm⟩

set_option maxHeartbeats 400000 in
theorem recv_off (a : Addr) (i : Int) (w : World) (h : offEnd i) :
    Calls Try.prog 12 #[.pointer (some a), .int .i64 i] w fun e w' => e = .returned (.tuple #[.slice none 0 0, .bool false]) ∧ w.alloc (.cells #[.slice none 0 0] 28 (0, 0)) = w' := by
  have hmf := mkf
  go_enter Try.func12, Try.ntmps12
  go_wp2_with (go_at_call 28; refine (do_off _ _ _ _ _ h).mono ?_; rintro e w' ⟨rfl, rfl⟩)
  exact bodyPost_ret (v := .tuple #[.slice none 0 0, .bool false]) (by simp [results, Try.results12, go_sem]) rfl ⟨rfl, rfl⟩

theorem PN.alloc {w : World} {R : Nat → Prop} {g : Nat} {room : Int} {q : Bool → Value} {cut : Bool} {sent bytes : Int} {vs : Bool → List Value} {ms : Bool → List (List Int)} (h : PN w R g room q cut sent bytes vs ms) (o : Obj) : PN (w.alloc o) R g room q cut sent bytes vs ms :=
  ⟨(Below.heap_alloc w o _ (blkLt h.net)).trans h.net, h.gR, fun k hk => by have := h.Rlt k hk; simp; omega, h.core.keep fun k hk _ _ => Below.heap_alloc w o k hk⟩

/-- of a net that is cut, or empty: nothing comes -/
theorem recv_none {w : World} {R : Nat → Prop} {g : Nat} {room : Int} {q : Bool → Value} {cut : Bool} {sent bytes : Int} {vs : Bool → List Value} {ms : Bool → List (List Int)} (h : PN w R g room q cut sent bytes vs ms) (i : Int)
    (hi : offEnd i ∨ ∃ t, i = endI t ∧ ms t = []) :
    Calls Try.prog 12 #[.pointer (some ⟨g, 0, none⟩), .int .i64 i] w fun e w' => e = .returned (.tuple #[.slice none 0 0, .bool false]) ∧ w.alloc (.cells #[.slice none 0 0] 28 (0, 0)) = w' := by
  rcases hi with hi | ⟨t, rfl, ht⟩
  · exact recv_off _ _ _ hi
  · obtain ⟨A, n, c, hqt, hlv, _⟩ := id (h.core.row t)
    have hlm := h.core.len t
    rw [ht, List.length_nil] at hlm
    obtain rfl : n = 0 := by omega
    have ⟨e0, e1⟩ := endI_range t
    exact recv_empty g (endI t) A c w e0 e1 ((blkCell h.net _).trans ((netCells_q _ _ _ _ _ t).trans (by rw [hqt])))

/-- how many bytes the first j have -/
def total (zs : List (List Int)) : Int := (zs.map fun z => (z.length : Int)).sum
theorem total_snoc (zs : List (List Int)) (j : Nat) (z : List Int) (h : zs[j]? = some z) : total (zs.take (j + 1)) = total (zs.take j) + z.length := by
  rw [List.take_add_one, h]; simp [total]
theorem total_le (zs : List (List Int)) (B : Nat) (h : ∀ z ∈ zs, z.length ≤ B) : 0 ≤ total zs ∧ total zs ≤ zs.length * B := by
  induction zs with
  | nil => simp [total]
  | cons z r ih =>
    have h1 := ih fun x hx => h x (List.mem_cons_of_mem _ hx)
    have h2 := h z List.mem_cons_self
    simp only [total, List.map_cons, List.sum_cons, List.length_cons, Int.natCast_add, Int.cast_ofNat_Int, Int.add_mul] at h1 ⊢
    omega

def Rb (w : World) (v : Value) : Nat → Prop := fun k => k < w.heap.size ∨ v.ownBlock = some k

/-- The loop's world: what was sent so far waits at the other end. -/
def Sent (w : World) (g : Nat) (t : Bool) (zs : List (List Int)) (j : Nat) (wr : World) : Prop :=
  (∀ z ∈ zs.take j, z.length ≤ 200) ∧ Keep (· < w.heap.size) w wr ∧ ∃ q vs, PN wr (· < w.heap.size) g 100 q false j (total (zs.take j)) vs (upd (fun _ => []) t (zs.take j))

theorem send_cut_lit (e1 : Int) (t : Bool) (he : e1 = endI t) (g : Nat) (b : Value) (w : World) (hcut : w.cell? ⟨g, 3, none⟩ = some (.bool true)) :
    Calls Try.prog 8 #[.pointer (some ⟨g, 0, none⟩), .int .i64 e1, b] w fun e w' => e = .returned (.int .i64 15) ∧ w = w' := by
  subst he; exact send_cut g t b w hcut

theorem upd_nil {α : Type} (t : Bool) : upd (fun _ => ([] : List α)) t [] = fun _ => [] := by funext e; simp [upd]

theorem send_lit (e1 : Int) (t : Bool) (he : e1 = endI (!t)) {w : World} {R : Nat → Prop} {g : Nat} {room : Int} {q : Bool → Value} {sent bytes : Int} {vs : Bool → List Value} {ms : Bool → List (List Int)} (h : PN w R g room q false sent bytes vs ms) (b : Value) (bs : List Int)
    (hb : Src w 1 b (nums bs)) (hbl : bs.length ≤ 60000) (hn : ((ms t).length : Int) < room) (hr1 : room ≤ 1000) (hs0 : 0 ≤ sent) (hs1 : sent ≤ 1000000000) (hy0 : 0 ≤ bytes) (hy1 : bytes ≤ 1000000000) :
    Calls Try.prog 8 #[.pointer (some ⟨g, 0, none⟩), .int .i64 e1, b] w fun e w' => e = .returned (.int .i64 0) ∧
      ∃ q' vs', PN w' R g room q' false (sent + 1) (bytes + bs.length) vs' (upd ms t (ms t ++ [bs])) ∧ Keep R w w' := by
  subst he; exact send_ok h t b bs hb hbl hn hr1 hs0 hs1 hy0 hy1
theorem recv_lit (e1 : Int) (t : Bool) (he : e1 = endI t) {w : World} {R : Nat → Prop} {g : Nat} {room : Int} {q : Bool → Value} {cut : Bool} {sent bytes : Int} {vs : Bool → List Value} {ms : Bool → List (List Int)} (h : PN w R g room q cut sent bytes vs ms) (m : List Int) (r : List (List Int))
    (hm : ms t = m :: r) :
    Calls Try.prog 12 #[.pointer (some ⟨g, 0, none⟩), .int .i64 e1] w fun e w' => ∃ vA vn vc, e = .returned (.tuple #[.slice vA vn vc, .bool true]) ∧ Row w' 5 1 (.slice vA vn vc) (nums m) ∧ (∀ k, (Value.slice vA vn vc).ownBlock = some k → ¬ R k) ∧
      ∃ q' vs', PN w' R g room q' cut sent bytes vs' (upd ms t r) ∧ Keep R w w' := by
  subst he
  refine (recv_ok h t m r hm).mono ?_
  rintro e w' ⟨vA, vn, vc, he, h1, h2, q', vs', h3, h4, _⟩
  exact ⟨vA, vn, vc, he, h1, h2, q', vs', h3, h4⟩

/-- one more is sent -/
theorem Sent.step {w : World} {g : Nat} {t : Bool} {zs : List (List Int)} {j : Nat} {w1 w2 : World} {z : List Int} {R : Nat → Prop} (h : Sent w g t zs j w1) (hz : zs[j]? = some z) (hz2 : z.length ≤ 200) (hR : ∀ k, k < w.heap.size → R k) (hk : Keep R w1 w2)
    {q' : Bool → Value} {vs' : Bool → List Value} (hp : PN w2 R g 100 q' false (j + 1) (total (zs.take j) + z.length) vs' (upd (upd (fun _ => []) t (zs.take j)) t (upd (fun _ => []) t (zs.take j) t ++ [z]))) : Sent w g t zs (j + 1) w2 := by
  obtain ⟨h1, h2, _⟩ := h
  have ht : zs.take (j + 1) = zs.take j ++ [z] := by rw [List.take_add_one, hz]; rfl
  refine ⟨fun x hx => ?_, h2.trans (hk.mono fun k _ hr => hR k hr), q', vs', ?_⟩
  · rw [ht] at hx
    rcases List.mem_append.1 hx with hx | hx
    · exact h1 x hx
    · rw [List.mem_singleton.1 hx]; exact hz2
  · rw [total_snoc zs j z hz, ht]
    have e1 : upd (upd (fun _ => ([] : List (List Int))) t (zs.take j)) t (upd (fun _ => []) t (zs.take j) t ++ [z]) = upd (fun _ => []) t (zs.take j ++ [z]) := by
      funext e; simp [upd]; split <;> rfl
    rw [e1] at hp
    exact ⟨hp.net, fun hg => hp.gR (hR _ hg), fun k hk' => hp.Rlt k (hR k hk'), hp.core.less fun k hk' => hR k hk'⟩

theorem Sent.ready {w : World} {g : Nat} {t : Bool} {zs : List (List Int)} {j : Nat} {w1 w2 : World} {v : Value} {xs : List Value} (h : Sent w g t zs j w1) (hb : Below w1.heap.size w1 w2) (hr : Row w2 5 1 v xs) (hf : ∀ k, v.ownBlock = some k → w1.heap.size ≤ k) :
    ∃ q vs, PN w2 (fun k => k < w.heap.size ∨ v.ownBlock = some k) g 100 q false j (total (zs.take j)) vs (upd (fun _ => []) t (zs.take j)) := by
  obtain ⟨h1, h2, q, vs, hp⟩ := h
  refine ⟨q, vs, (hb.block g (blkLt hp.net)).trans hp.net, ?_, ?_, hp.core.more hb fun k hk => ?_⟩
  · rintro (hg | hg)
    · exact hp.gR hg
    · have := hf g hg; have := blkLt hp.net; omega
  · rintro k (hk | hk)
    · exact Nat.lt_of_lt_of_le (hp.Rlt k hk) hb.size
    · exact hr.lt k hk
  · rcases hk with hk | hk
    · exact .inl hk
    · exact .inr (hf k hk)

theorem PN.keepR {w w' : World} {R : Nat → Prop} {g : Nat} {room : Int} {q : Bool → Value} {cut : Bool} {sent bytes : Int} {vs : Bool → List Value} {ms : Bool → List (List Int)} (h : PN w R g room q cut sent bytes vs ms) (hk : Keep (fun k => ¬ R k) w w') : PN w' R g room q cut sent bytes vs ms :=
  ⟨(hk.block g (blkLt h.net) h.gR).trans h.net, h.gR, fun k hr => Nat.lt_of_lt_of_le (h.Rlt k hr) hk.size, h.core.keep fun k hk1 hk2 _ => hk.block k hk1 hk2⟩

/-- each byte of b is written over -/
def Over (b : Value) (n : Nat) (w3 : World) (wr : World) : Prop := ∃ xs : List Int, xs.length = n ∧ Row wr 5 1 b (nums xs) ∧ Keep (fun k => b.ownBlock ≠ some k) w3 wr

set_option maxRecDepth 100000 in
set_option maxHeartbeats 3200000 in
theorem once_true (LA : Option Addr) (ln lc : Nat) (zs : List (List Int)) (cut : Bool) (w : World) (hl : Rows2 w (.slice LA ln lc) zs) (hn40 : ¬ 40 < zs.length) :
    Calls Try.prog 3 #[.int .i64 0, .slice LA ln lc, .bool cut] w fun e w' => e = .returned (.bool true) ∧ Below w.heap.size w w' := by
  obtain ⟨i0, hi, hz0, hz1, hz2⟩ := info_parts info5
  obtain rfl := hl.len
  have g1 : decide ((zs.length : Int) > 40) = false := by simp; omega
  have HL := hid hl
  clear hl
  go_enter Try.func3, Try.ntmps3
  go_wp2_with fail
  refine (new_pn 100 w (· < w.heap.size) (fun _ h => h) (by decide) (by decide)).mono ?_
  rintro e w1 ⟨rfl, hp1, hk1⟩
  have hS1 : Sent w w.heap.size true zs 0 w1 := ⟨by simp, hk1, _, _, by rw [List.take_zero, upd_nil]; exact hp1⟩
  clear hp1 hk1
  go_wp2_with fail
  go_loopg [9, 10] zs.length (fun k tot i wr => ∃ j : Nat, j ≤ zs.length ∧ k = zs.length - j ∧ i = .int .i64 j ∧ tot = .int .i64 (total (zs.take j)) ∧ Sent w w.heap.size true zs j wr)
  case atStart => exact ⟨0, Nat.zero_le _, rfl, rfl, rfl, hS1⟩
  case round =>
    obtain ⟨j, hj, rfl, rfl, rfl, hS⟩ := hrel
    by_cases hlt : j < zs.length
    · obtain ⟨a, A', z, c', rfl, hcell, hsrc, hz⟩ := HL.out.at_ hS.2.1 hlt
      have i0' : (0 : Int) ≤ (j : Int) := by omega
      have i1' : (j : Int) < (zs.length : Int) := by omega
      by_cases h200 : z.length ≤ 200
      · have g2 : decide ((z.length : Int) > 200) = false := by simp; omega
        have hcellA := cellA hcell (.cells #[] 5 (0, 0))
        have hrow : Row (wr.alloc (.cells #[] 5 (0, 0))) 5 1 (.slice (some ⟨wr.heap.size, 0, none⟩) 0 0) [] := Row.ofBlock (n := 0) (heap_alloc_new wr _) (by simp) (by simp)
        have hsrc1 := hsrc.below ((Below.refl wr.heap.size wr).alloc (Nat.le_refl _) (.cells #[] 5 (0, 0)))
        have hnl := nums_length z
        have hc1 : ([] : List Value).length + (nums z).length ≤ maxLen := by simp only [List.length_nil, maxLen]; omega
        have hc2 : (([] : List Value).length + (nums z).length) * 1 ≤ 140737488355328 := by simp only [List.length_nil]; omega
        have hone := nums_one z
        clear hnl
        go_wp2_with (at_builtin; refine wpList_append_row _ rfl _ _ 28 rfl 5 i0 (.int .u8 0) 1 1 Try.underlying28 hi hz0 hz1 hz2 rfl (by decide) (.slice (some ⟨wr.heap.size, 0, none⟩) 0 0) [] rfl hrow (.slice A' z.length c') (nums z) rfl hsrc1 hone hc1 hc2 ?_; intro bA bn bc w2 hr2 hg2 ha2)
        have hb2 : Below wr.heap.size wr w2 := ((Below.refl wr.heap.size wr).alloc (Nat.le_refl _) _).grown hg2 (by simp) (by simp [Value.ownBlock])
        have hf2 : ∀ k, (Value.slice bA bn bc).ownBlock = some k → wr.heap.size ≤ k := by
          intro k hk
          rcases ha2 with h | h
          · rw [hk] at h; simp [Value.ownBlock] at h; omega
          · rw [hk] at h; simp at h; omega
        rw [List.nil_append] at hr2
        obtain ⟨q2, vs2, hp2⟩ := hS.ready hb2 hr2 hf2
        obtain rfl : bn = z.length := hr2.src.len
        have hjl : (zs.take j).length = j := by rw [List.length_take]; omega
        have ⟨ht0, ht1⟩ := total_le (zs.take j) 200 hS.1
        have hms : (((upd (fun _ => ([] : List (List Int))) true (zs.take j)) true).length : Int) < 100 := by rw [upd_same, hjl]; omega
        have HH := hid (send_lit 0 true rfl hp2 (.slice bA z.length bc) z hr2.src (by omega) hms (by decide) (by omega) (by omega) ht0 (by rw [hjl] at ht1; omega))
        have ht8 : total (zs.take j) ≤ 8000 := by rw [hjl] at ht1; omega
        have hht : HidP ((zs.take j).length = j) := hid hjl
        have HR2 := hid hr2
        clear ht1 hjl hms hp2 hr2 hg2 ha2 hrow hsrc1 hc1 hc2 hone hcellA hcell hsrc
        refine HH.out.mono ?_
        rintro e w3 ⟨rfl, q3, vs3, hp3, hk3⟩
        have hr3 : Row w3 5 1 (.slice bA z.length bc) (nums z) := HR2.out.keep fun k hk => hk3.block k (HR2.out.lt k hk) (.inr hk)
        have hO : Over (.slice bA z.length bc) z.length w3 w3 := ⟨z, rfl, hr3, Keep.refl _ _⟩
        have HS := hid hS
        clear hS hr3 HH
        go_wp2_with fail
        go_loopg [13] z.length (fun k kk wr' => ∃ m : Nat, m ≤ z.length ∧ k = z.length - m ∧ kk = .int .i64 m ∧ Over (.slice bA z.length bc) z.length w3 wr')
        case atStart => exact ⟨0, Nat.zero_le _, rfl, rfl, hO⟩
        case round =>
          obtain ⟨m, hm, rfl, rfl, xs, hxl, hrx, hkx⟩ := hrel
          by_cases hlm : m < z.length
          · obtain ⟨ba, p, rfl, hbc, _⟩ := hrx.src.byte hlm
            obtain ⟨bb, off, cs, hba, hbb, _⟩ : ∃ bb off cs, ba = ⟨bb, off, none⟩ ∧ wr.heap[bb]? = some (.cells cs 5 (0, 0)) ∧ True := by
              obtain ⟨_, _, _, hv, _, _, _, hh⟩ := hrx
              cases hv
              rcases hh with ⟨hh, _⟩ | ⟨bb, off, cs, hh, hbb, _⟩
              · cases hh
              · cases hh; exact ⟨bb, off, cs, rfl, hbb, trivial⟩
            subst hba
            rw [add_lit'] at hbc
            have hfz := blkFree hbb (off + m)
            have m0 : (0 : Int) ≤ (m : Int) := by omega
            have m1 : (m : Int) < (z.length : Int) := by omega
            have HX := hid hxl
            clear hbb hxl
            go_wp2_with fail
            go_roundg (z.length - (m + 1))
            case measure => omega
            case rel => exact ⟨m + 1, by omega, rfl, by go_num, xs.set m ((p + 1) % 256), by simp [HX.out], hrx.setByte _ hlm, hkx.setCell (p := ⟨bb, off + m, none⟩) (.inl (by simp [Value.ownBlock])) _⟩
          · have hpk := hp3.keepR (hkx.mono fun k _ hk e => hk (.inr e))
            have hk4 : Keep (fun k => k < w.heap.size ∨ (Value.slice bA z.length bc).ownBlock = some k) w2 w3 := hk3
            have hS4 : Sent w w.heap.size true zs (j + 1) wr := by
              have hw2 : Keep (· < w.heap.size) _ w2 := Keep.ofBelow hb2 fun k hk _ => hk
              have hS0 := HS.out
              have hk5 : Keep (· < w.heap.size) w2 wr := (hk3.mono fun k _ hk => .inl hk).trans (hkx.mono fun k hk hk' => by
                intro e
                have := hf2 k e
                have := hS0.2.1.size
                omega)
              exact Sent.step (R := (· < w.heap.size)) hS0 hz.out h200 (fun _ h => h) (hw2.trans hk5) ⟨hpk.net, fun h => hpk.gR (.inl h), fun k hk => hpk.Rlt k (.inl hk), hpk.core.less fun k hk => .inl hk⟩
            have hmm : m = z.length := by omega
            subst hmm
            have HTS := hid (total_snoc zs j z hz.out)
            clear hpk hk4 hkx hrx hxl hO hk3 hp3
            go_wp2_with fail
            go_roundg (zs.length - (j + 1))
            case measure => omega
            case rel => exact ⟨j + 1, by omega, rfl, by go_num, by rw [HTS.out], hS4⟩
      · have g2 : decide ((z.length : Int) > 200) = true := by simp; omega
        have hkk := hS.2.1
        clear hS hsrc
        go_wp2_with fail
        refine (alive_any _).mono ?_
        rintro e w' ⟨rfl, hb⟩
        go_wp2_with fail
        go_ret
        exact ⟨rfl, (Below.ofKeep hkk (Nat.le_refl _)).trans (hb.mono hkk.size)⟩
    · obtain rfl : j = zs.length := by omega
      obtain ⟨h2all, hkS, q, vs, hpS⟩ := hS
      rw [List.take_length] at hpS h2all
      simp only [List.take_length]
      have H2A := hid h2all
      clear h2all
      cases cut
      · go_wp2_with fail
        go_loopg [16] zs.length (fun k i wr' => ∃ j : Nat, j ≤ zs.length ∧ k = zs.length - j ∧ i = .int .i64 j ∧ Keep (· < w.heap.size) w wr' ∧ ∃ q vs, PN wr' (· < w.heap.size) w.heap.size 100 q false zs.length (total zs) vs (upd (fun _ => []) true (zs.drop j)))
        case atStart => exact ⟨0, Nat.zero_le _, rfl, rfl, hkS, q, vs, hpS⟩
        case round =>
          clear hkS hpS
          obtain ⟨j, hj, rfl, rfl, hk, q', vs', hp⟩ := hrel
          by_cases hlt : j < zs.length
          · obtain ⟨a, A', z, c', rfl, hcell, hsrc, hz⟩ := HL.out.at_ hk hlt
            have i0' : (0 : Int) ≤ (j : Int) := by omega
            have i1' : (j : Int) < (zs.length : Int) := by omega
            have hdrop : zs.drop j = z :: zs.drop (j + 1) := by
              have h1 := hz.out
              rw [List.drop_eq_getElem_cons hlt]
              rw [List.getElem?_eq_getElem hlt] at h1
              rw [Option.some.inj h1]
            have HH := hid (recv_lit 1 true rfl hp z (zs.drop (j + 1)) (by rw [upd_same, hdrop]))
            have hu : upd (upd (fun _ => ([] : List (List Int))) true (zs.drop j)) true (zs.drop (j + 1)) = upd (fun _ => []) true (zs.drop (j + 1)) := by funext e; by_cases he : e = true <;> simp [upd, he]
            have HU := hid hu
            clear hp hdrop hu
            go_wp2_with fail
            refine HH.out.mono ?_
            rintro e w5 ⟨vA, vn, vc, rfl, hrv, _, q5, vs5, hp5, hk5⟩
            rw [HU.out] at hp5
            have hk6 : Keep (· < w.heap.size) w w5 := hk.trans hk5
            obtain ⟨a2, A2, z2, c2, ha2, hcell5, hsrc5, hz2⟩ := HL.out.at_ hk6 hlt
            cases ha2
            obtain rfl : z = z2 := by have h1 := hz.out; rw [hz2.out] at h1; exact (Option.some.inj h1).symm
            have hzl : z.length ≤ 9223372036854775806 := by
              have := H2A.out z (List.mem_of_getElem? hz.out)
              omega
            have HB := hid (bytes_same (.slice vA vn vc) (.slice A2 z.length c2) z z w5 hrv.src hsrc5 hzl)
            clear hcell hsrc HH hrv hsrc5
            go_wp2_with fail
            refine HB.out.mono ?_
            rintro e w6 ⟨rfl, n, rfl⟩
            go_wp2_with fail
            go_roundg (zs.length - (j + 1))
            case measure => omega
            case rel => exact ⟨j + 1, by omega, rfl, by go_num, hk6.drewN n, q5, vs5, hp5.net, hp5.gR, hp5.Rlt, hp5.core.keep fun _ _ _ _ => rfl⟩
          · obtain rfl : j = zs.length := by omega
            rw [List.drop_length] at hp
            have HN := hid (recv_none hp 1 (.inr ⟨true, rfl, by rw [upd_same]⟩))
            have hpa := hp.alloc (.cells #[.slice none 0 0] 28 (0, 0))
            have hka := hk.alloc (.cells #[.slice none 0 0] 28 (0, 0))
            have cs := (blkCell hpa.net 4).trans rfl
            have cb := (blkCell hpa.net 5).trans rfl
            clear hp hpa hk
            go_wp2_with fail
            refine HN.out.mono ?_
            rintro e w5 ⟨rfl, rfl⟩
            go_wp2_with fail
            refine (sent_any _ _ _ cs).mono ?_
            rintro e w' ⟨rfl, rfl⟩
            go_wp2_with fail
            refine (bytes_any _ _ _ cb).mono ?_
            rintro e w' ⟨rfl, rfl⟩
            go_wp2_with fail
            refine (alive_any _).mono ?_
            rintro e w6 ⟨rfl, hb6⟩
            go_wp2_with fail
            go_ret
            exact ⟨rfl, (Below.ofKeep hka (Nat.le_refl _)).trans (hb6.mono hka.size)⟩
      · go_wp2_with fail
        refine (cut_true hpS).mono ?_
        rintro e w5 ⟨rfl, hp5, hk5⟩
        have hk6 := hkS.trans hk5
        have HN := hid (recv_none hp5 1 (.inr ⟨true, rfl, rfl⟩))
        have hpa := hp5.alloc (.cells #[.slice none 0 0] 28 (0, 0))
        have hka := hk6.alloc (.cells #[.slice none 0 0] 28 (0, 0))
        have c3 := (blkCell hpa.net 3).trans rfl
        have c1 := (blkCell hpa.net 1).trans rfl
        have c2 := (blkCell hpa.net 2).trans rfl
        clear hpS hkS hp5 hpa hk5 hk6
        go_wp2_with fail
        refine HN.out.mono ?_
        rintro e w5 ⟨rfl, rfl⟩
        go_wp2_with fail
        refine (send_cut_lit 0 false rfl _ _ _ c3).mono ?_
        rintro e w' ⟨rfl, rfl⟩
        go_wp2_with fail
        refine (waits_any _ 0 none 0 0 _ (by decide) (by decide) c1).mono ?_
        rintro e w' ⟨rfl, rfl⟩
        go_wp2_with fail
        refine (waits_any _ 1 none 0 0 _ (by decide) (by decide) c2).mono ?_
        rintro e w' ⟨rfl, rfl⟩
        go_wp2_with fail
        refine (alive_any _).mono ?_
        rintro e w6 ⟨rfl, hb6⟩
        go_wp2_with fail
        go_ret
        exact ⟨rfl, (Below.ofKeep hka (Nat.le_refl _)).trans (hb6.mono hka.size)⟩

set_option maxRecDepth 100000 in
set_option maxHeartbeats 3200000 in
theorem once_false (LA : Option Addr) (ln lc : Nat) (zs : List (List Int)) (cut : Bool) (w : World) (hl : Rows2 w (.slice LA ln lc) zs) (hn40 : ¬ 40 < zs.length) :
    Calls Try.prog 3 #[.int .i64 1, .slice LA ln lc, .bool cut] w fun e w' => e = .returned (.bool true) ∧ Below w.heap.size w w' := by
  obtain ⟨i0, hi, hz0, hz1, hz2⟩ := info_parts info5
  obtain rfl := hl.len
  have g1 : decide ((zs.length : Int) > 40) = false := by simp; omega
  have HL := hid hl
  clear hl
  go_enter Try.func3, Try.ntmps3
  go_wp2_with fail
  refine (new_pn 100 w (· < w.heap.size) (fun _ h => h) (by decide) (by decide)).mono ?_
  rintro e w1 ⟨rfl, hp1, hk1⟩
  have hS1 : Sent w w.heap.size false zs 0 w1 := ⟨by simp, hk1, _, _, by rw [List.take_zero, upd_nil]; exact hp1⟩
  clear hp1 hk1
  go_wp2_with fail
  go_loopg [9, 10] zs.length (fun k tot i wr => ∃ j : Nat, j ≤ zs.length ∧ k = zs.length - j ∧ i = .int .i64 j ∧ tot = .int .i64 (total (zs.take j)) ∧ Sent w w.heap.size false zs j wr)
  case atStart => exact ⟨0, Nat.zero_le _, rfl, rfl, rfl, hS1⟩
  case round =>
    obtain ⟨j, hj, rfl, rfl, rfl, hS⟩ := hrel
    by_cases hlt : j < zs.length
    · obtain ⟨a, A', z, c', rfl, hcell, hsrc, hz⟩ := HL.out.at_ hS.2.1 hlt
      have i0' : (0 : Int) ≤ (j : Int) := by omega
      have i1' : (j : Int) < (zs.length : Int) := by omega
      by_cases h200 : z.length ≤ 200
      · have g2 : decide ((z.length : Int) > 200) = false := by simp; omega
        have hcellA := cellA hcell (.cells #[] 5 (0, 0))
        have hrow : Row (wr.alloc (.cells #[] 5 (0, 0))) 5 1 (.slice (some ⟨wr.heap.size, 0, none⟩) 0 0) [] := Row.ofBlock (n := 0) (heap_alloc_new wr _) (by simp) (by simp)
        have hsrc1 := hsrc.below ((Below.refl wr.heap.size wr).alloc (Nat.le_refl _) (.cells #[] 5 (0, 0)))
        have hnl := nums_length z
        have hc1 : ([] : List Value).length + (nums z).length ≤ maxLen := by simp only [List.length_nil, maxLen]; omega
        have hc2 : (([] : List Value).length + (nums z).length) * 1 ≤ 140737488355328 := by simp only [List.length_nil]; omega
        have hone := nums_one z
        clear hnl
        go_wp2_with (at_builtin; refine wpList_append_row _ rfl _ _ 28 rfl 5 i0 (.int .u8 0) 1 1 Try.underlying28 hi hz0 hz1 hz2 rfl (by decide) (.slice (some ⟨wr.heap.size, 0, none⟩) 0 0) [] rfl hrow (.slice A' z.length c') (nums z) rfl hsrc1 hone hc1 hc2 ?_; intro bA bn bc w2 hr2 hg2 ha2)
        have hb2 : Below wr.heap.size wr w2 := ((Below.refl wr.heap.size wr).alloc (Nat.le_refl _) _).grown hg2 (by simp) (by simp [Value.ownBlock])
        have hf2 : ∀ k, (Value.slice bA bn bc).ownBlock = some k → wr.heap.size ≤ k := by
          intro k hk
          rcases ha2 with h | h
          · rw [hk] at h; simp [Value.ownBlock] at h; omega
          · rw [hk] at h; simp at h; omega
        rw [List.nil_append] at hr2
        obtain ⟨q2, vs2, hp2⟩ := hS.ready hb2 hr2 hf2
        obtain rfl : bn = z.length := hr2.src.len
        have hjl : (zs.take j).length = j := by rw [List.length_take]; omega
        have ⟨ht0, ht1⟩ := total_le (zs.take j) 200 hS.1
        have hms : (((upd (fun _ => ([] : List (List Int))) false (zs.take j)) false).length : Int) < 100 := by rw [upd_same, hjl]; omega
        have HH := hid (send_lit 1 false rfl hp2 (.slice bA z.length bc) z hr2.src (by omega) hms (by decide) (by omega) (by omega) ht0 (by rw [hjl] at ht1; omega))
        have ht8 : total (zs.take j) ≤ 8000 := by rw [hjl] at ht1; omega
        have hht : HidP ((zs.take j).length = j) := hid hjl
        have HR2 := hid hr2
        clear ht1 hjl hms hp2 hr2 hg2 ha2 hrow hsrc1 hc1 hc2 hone hcellA hcell hsrc
        refine HH.out.mono ?_
        rintro e w3 ⟨rfl, q3, vs3, hp3, hk3⟩
        have hr3 : Row w3 5 1 (.slice bA z.length bc) (nums z) := HR2.out.keep fun k hk => hk3.block k (HR2.out.lt k hk) (.inr hk)
        have hO : Over (.slice bA z.length bc) z.length w3 w3 := ⟨z, rfl, hr3, Keep.refl _ _⟩
        have HS := hid hS
        clear hS hr3 HH
        go_wp2_with fail
        go_loopg [13] z.length (fun k kk wr' => ∃ m : Nat, m ≤ z.length ∧ k = z.length - m ∧ kk = .int .i64 m ∧ Over (.slice bA z.length bc) z.length w3 wr')
        case atStart => exact ⟨0, Nat.zero_le _, rfl, rfl, hO⟩
        case round =>
          obtain ⟨m, hm, rfl, rfl, xs, hxl, hrx, hkx⟩ := hrel
          by_cases hlm : m < z.length
          · obtain ⟨ba, p, rfl, hbc, _⟩ := hrx.src.byte hlm
            obtain ⟨bb, off, cs, hba, hbb, _⟩ : ∃ bb off cs, ba = ⟨bb, off, none⟩ ∧ wr.heap[bb]? = some (.cells cs 5 (0, 0)) ∧ True := by
              obtain ⟨_, _, _, hv, _, _, _, hh⟩ := hrx
              cases hv
              rcases hh with ⟨hh, _⟩ | ⟨bb, off, cs, hh, hbb, _⟩
              · cases hh
              · cases hh; exact ⟨bb, off, cs, rfl, hbb, trivial⟩
            subst hba
            rw [add_lit'] at hbc
            have hfz := blkFree hbb (off + m)
            have m0 : (0 : Int) ≤ (m : Int) := by omega
            have m1 : (m : Int) < (z.length : Int) := by omega
            have HX := hid hxl
            clear hbb hxl
            go_wp2_with fail
            go_roundg (z.length - (m + 1))
            case measure => omega
            case rel => exact ⟨m + 1, by omega, rfl, by go_num, xs.set m ((p + 1) % 256), by simp [HX.out], hrx.setByte _ hlm, hkx.setCell (p := ⟨bb, off + m, none⟩) (.inl (by simp [Value.ownBlock])) _⟩
          · have hpk := hp3.keepR (hkx.mono fun k _ hk e => hk (.inr e))
            have hk4 : Keep (fun k => k < w.heap.size ∨ (Value.slice bA z.length bc).ownBlock = some k) w2 w3 := hk3
            have hS4 : Sent w w.heap.size false zs (j + 1) wr := by
              have hw2 : Keep (· < w.heap.size) _ w2 := Keep.ofBelow hb2 fun k hk _ => hk
              have hS0 := HS.out
              have hk5 : Keep (· < w.heap.size) w2 wr := (hk3.mono fun k _ hk => .inl hk).trans (hkx.mono fun k hk hk' => by
                intro e
                have := hf2 k e
                have := hS0.2.1.size
                omega)
              exact Sent.step (R := (· < w.heap.size)) hS0 hz.out h200 (fun _ h => h) (hw2.trans hk5) ⟨hpk.net, fun h => hpk.gR (.inl h), fun k hk => hpk.Rlt k (.inl hk), hpk.core.less fun k hk => .inl hk⟩
            have hmm : m = z.length := by omega
            subst hmm
            have HTS := hid (total_snoc zs j z hz.out)
            clear hpk hk4 hkx hrx hxl hO hk3 hp3
            go_wp2_with fail
            go_roundg (zs.length - (j + 1))
            case measure => omega
            case rel => exact ⟨j + 1, by omega, rfl, by go_num, by rw [HTS.out], hS4⟩
      · have g2 : decide ((z.length : Int) > 200) = true := by simp; omega
        have hkk := hS.2.1
        clear hS hsrc
        go_wp2_with fail
        refine (alive_any _).mono ?_
        rintro e w' ⟨rfl, hb⟩
        go_wp2_with fail
        go_ret
        exact ⟨rfl, (Below.ofKeep hkk (Nat.le_refl _)).trans (hb.mono hkk.size)⟩
    · obtain rfl : j = zs.length := by omega
      obtain ⟨h2all, hkS, q, vs, hpS⟩ := hS
      rw [List.take_length] at hpS h2all
      simp only [List.take_length]
      have H2A := hid h2all
      clear h2all
      cases cut
      · go_wp2_with fail
        go_loopg [16] zs.length (fun k i wr' => ∃ j : Nat, j ≤ zs.length ∧ k = zs.length - j ∧ i = .int .i64 j ∧ Keep (· < w.heap.size) w wr' ∧ ∃ q vs, PN wr' (· < w.heap.size) w.heap.size 100 q false zs.length (total zs) vs (upd (fun _ => []) false (zs.drop j)))
        case atStart => exact ⟨0, Nat.zero_le _, rfl, rfl, hkS, q, vs, hpS⟩
        case round =>
          clear hkS hpS
          obtain ⟨j, hj, rfl, rfl, hk, q', vs', hp⟩ := hrel
          by_cases hlt : j < zs.length
          · obtain ⟨a, A', z, c', rfl, hcell, hsrc, hz⟩ := HL.out.at_ hk hlt
            have i0' : (0 : Int) ≤ (j : Int) := by omega
            have i1' : (j : Int) < (zs.length : Int) := by omega
            have hdrop : zs.drop j = z :: zs.drop (j + 1) := by
              have h1 := hz.out
              rw [List.drop_eq_getElem_cons hlt]
              rw [List.getElem?_eq_getElem hlt] at h1
              rw [Option.some.inj h1]
            have HH := hid (recv_lit 0 false rfl hp z (zs.drop (j + 1)) (by rw [upd_same, hdrop]))
            have hu : upd (upd (fun _ => ([] : List (List Int))) false (zs.drop j)) false (zs.drop (j + 1)) = upd (fun _ => []) false (zs.drop (j + 1)) := by funext e; by_cases he : e = false <;> simp [upd, he]
            have HU := hid hu
            clear hp hdrop hu
            go_wp2_with fail
            refine HH.out.mono ?_
            rintro e w5 ⟨vA, vn, vc, rfl, hrv, _, q5, vs5, hp5, hk5⟩
            rw [HU.out] at hp5
            have hk6 : Keep (· < w.heap.size) w w5 := hk.trans hk5
            obtain ⟨a2, A2, z2, c2, ha2, hcell5, hsrc5, hz2⟩ := HL.out.at_ hk6 hlt
            cases ha2
            obtain rfl : z = z2 := by have h1 := hz.out; rw [hz2.out] at h1; exact (Option.some.inj h1).symm
            have hzl : z.length ≤ 9223372036854775806 := by
              have := H2A.out z (List.mem_of_getElem? hz.out)
              omega
            have HB := hid (bytes_same (.slice vA vn vc) (.slice A2 z.length c2) z z w5 hrv.src hsrc5 hzl)
            clear hcell hsrc HH hrv hsrc5
            go_wp2_with fail
            refine HB.out.mono ?_
            rintro e w6 ⟨rfl, n, rfl⟩
            go_wp2_with fail
            go_roundg (zs.length - (j + 1))
            case measure => omega
            case rel => exact ⟨j + 1, by omega, rfl, by go_num, hk6.drewN n, q5, vs5, hp5.net, hp5.gR, hp5.Rlt, hp5.core.keep fun _ _ _ _ => rfl⟩
          · obtain rfl : j = zs.length := by omega
            rw [List.drop_length] at hp
            have HN := hid (recv_none hp 0 (.inr ⟨false, rfl, by rw [upd_same]⟩))
            have hpa := hp.alloc (.cells #[.slice none 0 0] 28 (0, 0))
            have hka := hk.alloc (.cells #[.slice none 0 0] 28 (0, 0))
            have cs := (blkCell hpa.net 4).trans rfl
            have cb := (blkCell hpa.net 5).trans rfl
            clear hp hpa hk
            go_wp2_with fail
            refine HN.out.mono ?_
            rintro e w5 ⟨rfl, rfl⟩
            go_wp2_with fail
            refine (sent_any _ _ _ cs).mono ?_
            rintro e w' ⟨rfl, rfl⟩
            go_wp2_with fail
            refine (bytes_any _ _ _ cb).mono ?_
            rintro e w' ⟨rfl, rfl⟩
            go_wp2_with fail
            refine (alive_any _).mono ?_
            rintro e w6 ⟨rfl, hb6⟩
            go_wp2_with fail
            go_ret
            exact ⟨rfl, (Below.ofKeep hka (Nat.le_refl _)).trans (hb6.mono hka.size)⟩
      · go_wp2_with fail
        refine (cut_true hpS).mono ?_
        rintro e w5 ⟨rfl, hp5, hk5⟩
        have hk6 := hkS.trans hk5
        have HN := hid (recv_none hp5 0 (.inr ⟨false, rfl, rfl⟩))
        have hpa := hp5.alloc (.cells #[.slice none 0 0] 28 (0, 0))
        have hka := hk6.alloc (.cells #[.slice none 0 0] 28 (0, 0))
        have c3 := (blkCell hpa.net 3).trans rfl
        have c1 := (blkCell hpa.net 1).trans rfl
        have c2 := (blkCell hpa.net 2).trans rfl
        clear hpS hkS hp5 hpa hk5 hk6
        go_wp2_with fail
        refine HN.out.mono ?_
        rintro e w5 ⟨rfl, rfl⟩
        go_wp2_with fail
        refine (send_cut_lit 0 false rfl _ _ _ c3).mono ?_
        rintro e w' ⟨rfl, rfl⟩
        go_wp2_with fail
        refine (waits_any _ 0 none 0 0 _ (by decide) (by decide) c1).mono ?_
        rintro e w' ⟨rfl, rfl⟩
        go_wp2_with fail
        refine (waits_any _ 1 none 0 0 _ (by decide) (by decide) c2).mono ?_
        rintro e w' ⟨rfl, rfl⟩
        go_wp2_with fail
        refine (alive_any _).mono ?_
        rintro e w6 ⟨rfl, hb6⟩
        go_wp2_with fail
        go_ret
        exact ⟨rfl, (Below.ofKeep hka (Nat.le_refl _)).trans (hb6.mono hka.size)⟩

end Go.Proofs.Ytodbnmigdnmjnaa
