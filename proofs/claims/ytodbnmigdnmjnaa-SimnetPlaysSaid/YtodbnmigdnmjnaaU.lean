/- Swap, Turn, as what they make of a net -/
import Derived.Test.YtodbnmigdnmjnaaS
namespace Go.Proofs.Ytodbnmigdnmjnaa
open Go.RowKit

def two (w : World) (i j : Int) : World := (w.alloc (.cells #[.int .i64 i] 3 (0, 0))).alloc (.cells #[.int .i64 j] 3 (0, 0))
def three (w : World) (i a y : Int) : World := (two w i a).alloc (.cells #[.int .u8 y] 5 (0, 0))
theorem two_below (w : World) (i j : Int) : Below w.heap.size w (two w i j) := ((Below.refl _ _).alloc (Nat.le_refl _) _).alloc (by simp) _
theorem three_below (w : World) (i a y : Int) : Below w.heap.size w (three w i a y) := (two_below w i a).alloc (by simp [two]; omega) _
theorem two_cells (w : World) (i j : Int) : (two w i j).cell? ⟨w.heap.size, 0, none⟩ = some (.int .i64 i) ∧ (two w i j).cell? ⟨w.heap.size + 1, 0, none⟩ = some (.int .i64 j) := by
  have h0 : (w.alloc (.cells #[.int .i64 i] 3 (0, 0))).cell? ⟨w.heap.size, 0, none⟩ = some (.int .i64 i) := blkCell (heap_alloc_new w _) 0
  refine ⟨cellA h0 _, ?_⟩
  have := blkCell (heap_alloc_new (w.alloc (.cells #[.int .i64 i] 3 (0, 0))) (.cells #[.int .i64 j] 3 (0, 0))) 0
  simp [two]
theorem three_cells (w : World) (i a y : Int) : (three w i a y).cell? ⟨w.heap.size, 0, none⟩ = some (.int .i64 i) ∧ (three w i a y).cell? ⟨w.heap.size + 1, 0, none⟩ = some (.int .i64 a) ∧ (three w i a y).cell? ⟨w.heap.size + 2, 0, none⟩ = some (.int .u8 y) := by
  obtain ⟨h0, h1⟩ := two_cells w i a
  refine ⟨cellA h0 _, cellA h1 _, ?_⟩
  have := blkCell (heap_alloc_new (two w i a) (.cells #[.int .u8 y] 5 (0, 0))) 0
  simpa [three, two] using this

/-- the i-th that waits, in memory -/
theorem PN.msg_at {w : World} {R : Nat → Prop} {g : Nat} {room : Int} {q : Bool → Value} {cut : Bool} {sent bytes : Int} {vs : Bool → List Value} {ms : Bool → List (List Int)} (h : PN w R g room q cut sent bytes vs ms) (t : Bool) {i : Nat} (hi : i < (ms t).length) :
    ∃ vA vc, (vs t)[i]? = some (.slice vA (ms t)[i].length vc) ∧ Row w 5 1 (.slice vA (ms t)[i].length vc) (nums (ms t)[i]) := by
  have hlv := h.core.len t
  obtain ⟨v, hv⟩ : ∃ v, (vs t)[i]? = some v := ⟨(vs t)[i]'(by omega), by simp⟩
  have hrv := h.core.msg t i v _ hv (by simp [hi] : (ms t)[i]? = some (ms t)[i])
  obtain ⟨vA, vn, vc, rfl, _⟩ := id hrv
  obtain rfl := hrv.src.len
  exact ⟨vA, vc, hv, hrv⟩

set_option maxHeartbeats 400000 in
theorem swap_no {w : World} {R : Nat → Prop} {g : Nat} {room : Int} {q : Bool → Value} {cut : Bool} {sent bytes : Int} {vs : Bool → List Value} {ms : Bool → List (List Int)} (h : PN w R g room q cut sent bytes vs ms) (e i j : Int)
    (hi : offEnd e ∨ ∃ t, e = endI t ∧ (¬ (0 ≤ i ∧ i < (ms t).length) ∨ ¬ (0 ≤ j ∧ j < (ms t).length))) : Calls Try.prog 22 #[.pointer (some ⟨g, 0, none⟩), .int .i64 e, .int .i64 i, .int .i64 j] w fun e w' => e = .returned (.bool false) ∧ PN w' R g room q cut sent bytes vs ms ∧ Keep R w w' := by
  have hmf := mkf
  have hbl := two_below w i j
  have hp := h.below hbl
  have hkR : Keep R w (two w i j) := Keep.ofBelow hbl fun k hk _ => hk
  by_cases hcase : offEnd e ∨ ∃ t, e = endI t ∧ ¬ (0 ≤ i ∧ i < (ms t).length)
  · have H := do_none_pn hp e i (.func (.func 42) #[] #[.pointer (some ⟨w.heap.size + 1, 0, none⟩), .pointer (some ⟨w.heap.size, 0, none⟩)]) hcase
    unfold two at H hp hbl hkR
    have HH := hid H
    clear h hi hcase H
    go_enter Try.func22, Try.ntmps22
    go_wp2_with (go_at_call 28; refine HH.out.mono ?_; rintro e w' ⟨rfl, rfl⟩)
    go_ret
    exact ⟨rfl, hp, hkR⟩
  · obtain ⟨t, rfl, hij⟩ : ∃ t, e = endI t ∧ ¬ (0 ≤ j ∧ j < (ms t).length) := by
      rcases hi with hi | ⟨t, he, h1 | h1⟩
      · exact absurd (.inl hi) hcase
      · exact absurd (.inr ⟨t, he, h1⟩) hcase
      · exact ⟨t, he, h1⟩
    have hir : 0 ≤ i ∧ i < (ms t).length := Classical.byContradiction fun hn => hcase (.inr ⟨t, rfl, hn⟩)
    have ⟨e0, e1⟩ := endI_range t
    obtain ⟨A, c, hq, hcell⟩ := hp.q_at t
    have H1 := swap1_no g (endI t).toNat w.heap.size (w.heap.size + 1) (ms t).length c A j (two w i j) hcell (two_cells w i j).2 hij
    have H := do_some g (endI t) i A (ms t).length c 42 Try.f42 [.pointer (some ⟨w.heap.size + 1, 0, none⟩), .pointer (some ⟨w.heap.size, 0, none⟩)] _ false (two w i j) e0 e1 hcell hir.1 hir.2 Try.func42 (by kernel_rfl) (by kernel_rfl) H1
    clear H1 hcell hq
    have HP : ∀ n, PN ((two w i j).drewN n) R g room q cut sent bytes vs ms ∧ Keep R w ((two w i j).drewN n) := fun n => ⟨hp.drewN n, hkR.drewN n⟩
    unfold two at H HP
    have HH := hid H
    have HPP := hid HP
    clear h hi hcase H hij hir hp hkR HP
    go_enter Try.func22, Try.ntmps22
    go_wp2_with (go_at_call 28; refine HH.out.mono ?_; rintro e w' ⟨rfl, n, rfl⟩)
    go_ret
    exact ⟨rfl, HPP.out n⟩

def swapped {α : Type} (l : List α) (i j : Nat) (hi : i < l.length) (hj : j < l.length) : List α := (l.set i l[j]).set j l[i]
theorem swapped_get {α : Type} {l : List α} {i j : Nat} {hi : i < l.length} {hj : j < l.length} {k : Nat} {x : α} (h : (swapped l i j hi hj)[k]? = some x) : l[if k = j then i else if k = i then j else k]? = some x := by
  unfold swapped at h
  rw [List.getElem?_set] at h
  by_cases hk : k = j
  · subst hk
    rw [if_pos rfl] at h
    simp only [List.length_set, hj, if_true] at h
    rw [if_pos rfl, List.getElem?_eq_getElem hi]; exact h
  · rw [if_neg (Ne.symm hk), List.getElem?_set] at h
    rw [if_neg hk]
    by_cases hk2 : k = i
    · subst hk2
      rw [if_pos rfl] at h
      simp only [hi, if_true] at h
      rw [if_pos rfl, List.getElem?_eq_getElem hj]; exact h
    · rw [if_neg (Ne.symm hk2)] at h
      rw [if_neg hk2]; exact h

theorem upd_self {α : Type} (f : Bool → α) (t : Bool) : upd f t (f t) = f := by funext e; simp only [upd]; split <;> simp_all

set_option maxHeartbeats 800000 in
theorem swap_yes {w : World} {R : Nat → Prop} {g : Nat} {room : Int} {q : Bool → Value} {cut : Bool} {sent bytes : Int} {vs : Bool → List Value} {ms : Bool → List (List Int)} (h : PN w R g room q cut sent bytes vs ms) (e : Int) (t : Bool) (he : e = endI t) (i j : Nat)
    (hi : i < (ms t).length) (hj : j < (ms t).length) : Calls Try.prog 22 #[.pointer (some ⟨g, 0, none⟩), .int .i64 e, .int .i64 i, .int .i64 j] w fun e w' => e = .returned (.bool true) ∧
      (∃ q' vs', PN w' R g room q' cut sent bytes vs' (upd ms t (swapped (ms t) i j hi hj))) ∧ Keep R w w' := by
  subst he
  have hmf := mkf
  have hbl := two_below w i j
  have hp := h.below hbl
  have hkR : Keep R w (two w i j) := Keep.ofBelow hbl fun k hk _ => hk
  obtain ⟨b, off, c, hq, hqc, hrow⟩ := hp.index t (by omega)
  have ⟨e0, e1⟩ := endI_range t
  have hlv := h.core.len t
  obtain ⟨iA, ic, hvi, hri⟩ := hp.msg_at t hi
  obtain ⟨jA, jc, hvj, hrj⟩ := hp.msg_at t hj
  have hbg : b ≠ g := fun e => (hp.core.row t).ne hp.net (by decide) (by rw [hq, e]; rfl)
  have hbw : b < w.heap.size := (h.core.row t).lt b (by rw [hq]; rfl)
  have hcell := (blkCell hp.net (1 + (endI t).toNat)).trans hqc
  have H1 := swap1_yes g (endI t).toNat w.heap.size (w.heap.size + 1) b off (ms t).length c i j iA jA _ ic _ jc (vs t) (two w i j) hcell (two_cells w i j).2 (two_cells w i j).1 hrow hi hj hvi hvj hbg (by omega) (by omega)
  have H := do_some g (endI t) i (some ⟨b, off, none⟩) (ms t).length c 42 Try.f42 [.pointer (some ⟨w.heap.size + 1, 0, none⟩), .pointer (some ⟨w.heap.size, 0, none⟩)] _ true (two w i j) e0 e1 hcell (by omega) (by omega) Try.func42 (by kernel_rfl) (by kernel_rfl) H1
  have FIN : ∀ w', Row w' 28 1 (.slice (some ⟨b, off, none⟩) (ms t).length c) (((vs t).set i (.slice jA (ms t)[j].length jc)).set j (.slice iA (ms t)[i].length ic)) → (two w i j).grownBy w' (some b) →
      (∃ q' vs', PN w' R g room q' cut sent bytes vs' (upd ms t (swapped (ms t) i j hi hj))) ∧ Keep R w w' := by
    intro w' h1 h2
    have hsw : ((vs t).set i (.slice jA (ms t)[j].length jc)).set j (.slice iA (ms t)[i].length ic) = swapped (vs t) i j (by omega) (by omega) := by
      unfold swapped
      rw [List.getElem?_eq_getElem (by omega)] at hvi hvj
      rw [Option.some.inj hvi, Option.some.inj hvj]
    rw [hsw] at h1
    have hk2 : Keep R w w' := hkR.grown h2 fun k hk => .inl (by cases hk; exact hp.core.qR t b (by rw [hq]; rfl))
    refine ⟨⟨q, upd vs t (swapped (vs t) i j (by omega) (by omega)), (h2.block g (blkLt hp.net) (by intro e; exact hbg (Option.some.inj e).symm)).trans hp.net, hp.gR, fun k hk => Nat.lt_of_lt_of_le (h.Rlt k hk) hk2.size, ?_⟩, hk2⟩
    have hc := hp.core.re (w2 := w') (t := t) (q' := q t) (vs' := swapped (vs t) i j (by omega) (by omega)) (ms' := swapped (ms t) i j hi hj) hp.Rlt (fun k => if k = j then i else if k = i then j else k) (fun k x hx => swapped_get hx) (fun k x hx => swapped_get hx) (by simp [swapped, hlv])
      (fun k k' _ _ hkk => by
        try dsimp only at hkk
        split at hkk <;> split at hkk <;> (try split at hkk) <;> (try split at hkk) <;> omega) (by rw [hq]; exact h1) (by rw [hq]; exact h2) (.inl rfl)
    rw [upd_self] at hc
    exact hc
  unfold two at H
  have HH := hid H
  have HF := hid FIN
  clear h H H1 hp hcell hqc hrow hri hrj hvi hvj FIN hkR hbl
  go_enter Try.func22, Try.ntmps22
  go_wp2_with (go_at_call 28; refine HH.out.mono ?_; rintro e w' ⟨rfl, h1, h2⟩)
  go_ret
  exact ⟨rfl, HF.out _ h1 h2⟩

set_option maxHeartbeats 400000 in
theorem turn_no {w : World} {R : Nat → Prop} {g : Nat} {room : Int} {q : Bool → Value} {cut : Bool} {sent bytes : Int} {vs : Bool → List Value} {ms : Bool → List (List Int)} (h : PN w R g room q cut sent bytes vs ms) (e i a y : Int)
    (hi : offEnd e ∨ ∃ t, e = endI t ∧ ∀ k : Nat, i = k → ∀ hk : k < (ms t).length, ¬ (0 ≤ a ∧ a < (ms t)[k].length)) : Calls Try.prog 23 #[.pointer (some ⟨g, 0, none⟩), .int .i64 e, .int .i64 i, .int .i64 a, .int .u8 y] w fun e w' => e = .returned (.bool false) ∧ PN w' R g room q cut sent bytes vs ms ∧ Keep R w w' := by
  have hmf := mkf
  have hbl := three_below w i a y
  have hp := h.below hbl
  have hkR : Keep R w (three w i a y) := Keep.ofBelow hbl fun k hk _ => hk
  by_cases hcase : offEnd e ∨ ∃ t, e = endI t ∧ ¬ (0 ≤ i ∧ i < (ms t).length)
  · have H := do_none_pn hp e i (.func (.func 43) #[] #[.pointer (some ⟨w.heap.size, 0, none⟩), .pointer (some ⟨w.heap.size + 1, 0, none⟩), .pointer (some ⟨w.heap.size + 2, 0, none⟩)]) hcase
    unfold three two at H hp hbl hkR
    have HH := hid H
    clear h hi hcase H
    go_enter Try.func23, Try.ntmps23
    go_wp2_with (go_at_call 28; refine HH.out.mono ?_; rintro e w' ⟨rfl, rfl⟩)
    go_ret
    exact ⟨rfl, hp, hkR⟩
  · obtain ⟨t, rfl, hir, hat⟩ : ∃ t, e = endI t ∧ (0 ≤ i ∧ i < (ms t).length) ∧ ∀ k : Nat, i = k → ∀ hk : k < (ms t).length, ¬ (0 ≤ a ∧ a < (ms t)[k].length) := by
      rcases hi with hi | ⟨t, he, h1⟩
      · exact absurd (.inl hi) hcase
      · exact ⟨t, he, Classical.byContradiction fun hn => hcase (.inr ⟨t, he, hn⟩), h1⟩
    obtain ⟨k, rfl⟩ := Int.eq_ofNat_of_zero_le hir.1
    have hk : k < (ms t).length := by omega
    have ha := hat k rfl hk
    have ⟨e0, e1⟩ := endI_range t
    obtain ⟨b, off, c, hq, hqc, hrow⟩ := hp.index t (by omega)
    obtain ⟨mA, mc, hvk, hrk⟩ := hp.msg_at t hk
    have hcell := (blkCell hp.net (1 + (endI t).toNat)).trans hqc
    obtain ⟨c0, c1, c2⟩ := three_cells w k a y
    have H1 := turn1_no g (endI t).toNat w.heap.size (w.heap.size + 1) (w.heap.size + 2) b off (ms t).length c k mA _ mc a (three w k a y) hcell c0 c1 hk (hrow.cellAt hvk).1 ha
    have H := do_some g (endI t) k (some ⟨b, off, none⟩) (ms t).length c 43 Try.f43 [.pointer (some ⟨w.heap.size, 0, none⟩), .pointer (some ⟨w.heap.size + 1, 0, none⟩), .pointer (some ⟨w.heap.size + 2, 0, none⟩)] _ false (three w k a y) e0 e1 hcell (by omega) (by omega) Try.func43 (by kernel_rfl) (by kernel_rfl) H1
    have HP : ∀ n, PN ((three w k a y).drewN n) R g room q cut sent bytes vs ms ∧ Keep R w ((three w k a y).drewN n) := fun n => ⟨hp.drewN n, hkR.drewN n⟩
    unfold three two at H HP
    have HH := hid H
    have HPP := hid HP
    clear h hi hcase H H1 hir hp hkR HP c0 c1 c2 hcell hqc hrow hrk hvk hbl ha hat
    go_enter Try.func23, Try.ntmps23
    go_wp2_with (go_at_call 28; refine HH.out.mono ?_; rintro e w' ⟨rfl, n, rfl⟩)
    go_ret
    exact ⟨rfl, HPP.out n⟩

set_option maxHeartbeats 800000 in
theorem turn_yes {w : World} {R : Nat → Prop} {g : Nat} {room : Int} {q : Bool → Value} {cut : Bool} {sent bytes : Int} {vs : Bool → List Value} {ms : Bool → List (List Int)} (h : PN w R g room q cut sent bytes vs ms) (e : Int) (t : Bool) (he : e = endI t) (i a : Nat) (y : Int)
    (hi : i < (ms t).length) (ha : a < (ms t)[i].length) : Calls Try.prog 23 #[.pointer (some ⟨g, 0, none⟩), .int .i64 e, .int .i64 i, .int .i64 a, .int .u8 y] w fun e w' => e = .returned (.bool true) ∧
      (∃ q' vs', PN w' R g room q' cut sent bytes vs' (upd ms t ((ms t).set i ((ms t)[i].set a (bits .xor .u8 (ms t)[i][a] y))))) ∧ Keep R w w' := by
  subst he
  have hmf := mkf
  have hbl := three_below w i a y
  have hp := h.below hbl
  have hkR : Keep R w (three w i a y) := Keep.ofBelow hbl fun k hk _ => hk
  obtain ⟨b, off, c, hq, hqc, hrow⟩ := hp.index t (by omega)
  have ⟨e0, e1⟩ := endI_range t
  obtain ⟨mA, mc, hvi, hri⟩ := hp.msg_at t hi
  obtain ⟨mb, mo, rfl⟩ := hri.someOf (by omega)
  have hcell := (blkCell hp.net (1 + (endI t).toNat)).trans hqc
  obtain ⟨c0, c1, c2⟩ := three_cells w i a y
  obtain ⟨cp, fp⟩ := hri.cellAt (i := a) (u := .int .u8 (ms t)[i][a]) (by simp [nums, ha])
  have hmbR : ¬ R mb := hp.core.mR t i _ mb hvi rfl
  have hmbg : mb ≠ g := fun e => hri.ne hp.net (by decide) (by rw [e]; rfl)
  have H1 := turn1_yes g (endI t).toNat w.heap.size (w.heap.size + 1) (w.heap.size + 2) b off (ms t).length c i mb mo _ mc a (ms t)[i][a] y (three w i a y) hcell c0 c1 c2 hi (hrow.cellAt hvi).1 ha cp (fp _)
  have H := do_some g (endI t) i (some ⟨b, off, none⟩) (ms t).length c 43 Try.f43 [.pointer (some ⟨w.heap.size, 0, none⟩), .pointer (some ⟨w.heap.size + 1, 0, none⟩), .pointer (some ⟨w.heap.size + 2, 0, none⟩)] _ true (three w i a y) e0 e1 hcell (by omega) (by omega) Try.func43 (by kernel_rfl) (by kernel_rfl) H1
  have HP : ∀ n, (∃ q' vs', PN (((three w i a y).drewN n).setCell ⟨mb, mo + a, none⟩ (.int .u8 (bits .xor .u8 (ms t)[i][a] y))) R g room q' cut sent bytes vs' (upd ms t ((ms t).set i ((ms t)[i].set a (bits .xor .u8 (ms t)[i][a] y))))) ∧ Keep R w (((three w i a y).drewN n).setCell ⟨mb, mo + a, none⟩ (.int .u8 (bits .xor .u8 (ms t)[i][a] y))) := by
    intro n
    have hpd := hp.drewN n
    have hk2 := (hkR.drewN n).setCell (p := ⟨mb, mo + a, none⟩) (.inl hmbR) (.int .u8 (bits .xor .u8 (ms t)[i][a] y))
    exact ⟨⟨q, vs, blkFar hpd.net (p := ⟨mb, mo + a, none⟩) (Ne.symm hmbg) _, hpd.gR, fun k hk => Nat.lt_of_lt_of_le (h.Rlt k hk) hk2.size, hpd.core.turn t _ hvi (by simp [hi]) ha⟩, hk2⟩
  unfold three two at H HP
  have HH := hid H
  have HPP := hid HP
  clear h H H1 hp hkR HP c0 c1 c2 hcell hqc hrow hri hvi hbl cp fp
  go_enter Try.func23, Try.ntmps23
  go_wp2_with (go_at_call 28; refine HH.out.mono ?_; rintro e w' ⟨rfl, n, rfl⟩)
  go_ret
  exact ⟨rfl, HPP.out n⟩

end Go.Proofs.Ytodbnmigdnmjnaa
