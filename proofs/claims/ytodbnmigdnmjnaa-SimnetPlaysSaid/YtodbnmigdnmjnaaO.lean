/- slices.Clone, slices.Delete; the closures of Drop, Again, Swap, Turn -/
import Derived.Test.YtodbnmigdnmjnaaN
import Derived.Lib.SliceRun
namespace Go.Proofs.Ytodbnmigdnmjnaa
open Go.RowKit

@[go_sem] theorem eql22 (a : Option Addr) (n c : Nat) (w : World) : (binOp .eql 22 (.slice a n c) (.slice none 0 0)).run Try.prog w = .ok (.bool a.isNone) w := Lib.run_eql_slice_nil w 22 28 a n c 0 0 Try.underlying22

theorem zero28 (w : World) : (zeroValue 28).run Try.prog w = .ok (.slice none 0 0) w := by kernel_rfl

theorem slices_one {xs : List Value} (h : ∀ v ∈ xs, ∃ A n c, v = .slice A n c) : ∀ u ∈ xs, u.oneCell' = true := by
  intro u hu
  obtain ⟨A, n, c, rfl⟩ := h u hu
  rfl

set_option maxHeartbeats 400000 in
theorem clone2_any (a : Addr) (n c : Nat) (vs : List Value) (w : World) (hb : Src w 1 (.slice (some a) n c) vs) (hn : vs.length ≤ 1000) (hs : ∀ v ∈ vs, ∃ A n c, v = .slice A n c) :
    Calls Try.prog 40 #[.slice (some a) n c] w fun e w' => ∃ vA vc, e = .returned (.slice vA vs.length vc) ∧ Row w' 28 1 (.slice vA vs.length vc) vs ∧ Below w.heap.size w w' ∧ ∀ k, (Value.slice vA vs.length vc).ownBlock = some k → w.heap.size ≤ k := by
  obtain ⟨i0, hi, hz0, hz1, hz2⟩ := info_parts info28
  have h1 := slices_one hs
  have hrow : Row (w.alloc (.cells #[] 28 (0, 0))) 28 1 (.slice (some ⟨w.heap.size, 0, none⟩) 0 0) [] := Row.ofBlock (n := 0) (heap_alloc_new w _) (by simp) (by simp)
  have hsrc := hb.below ((Below.refl w.heap.size w).alloc (Nat.le_refl _) (.cells #[] 28 (0, 0)))
  have hc1 : ([] : List Value).length + vs.length ≤ maxLen := by simp only [List.length_nil, maxLen]; omega
  have hc2 : (([] : List Value).length + vs.length) * 24 ≤ 140737488355328 := by simp only [List.length_nil]; omega
  go_enter Try.func40, Try.ntmps40
  go_wp2_with (at_builtin; refine wpList_append_row _ rfl _ _ 22 rfl 28 i0 (.slice none 0 0) 1 24 Try.underlying22 hi hz0 hz1 hz2 rfl (by decide) (.slice (some ⟨w.heap.size, 0, none⟩) 0 0) [] rfl hrow (.slice (some a) n c) vs rfl hsrc h1 hc1 hc2 ?_; intro vA vn vc w' hr hg ha)
  go_ret
  rw [List.nil_append] at hr
  obtain rfl : vn = vs.length := by obtain ⟨_, _, _, hv, hl, _⟩ := hr; cases hv; omega
  refine ⟨vA, vc, rfl, hr, ((Below.refl w.heap.size w).alloc (Nat.le_refl _) _).grown hg (by simp) (by simp [Value.ownBlock]), ?_⟩
  intro k hk
  rcases ha with ha | ha
  · rw [ha] at hk; simp [Value.ownBlock] at hk; omega
  · rw [ha] at hk; simp at hk; omega

theorem run_clear1 {P : Program} (w : World) (t e ty : TypeId) (z : Value) (ht : P.underlying t = some (.slice e)) (hv : ∀ w, (zeroValue e).run P w = .ok z w) (hz : z.cells = #[z]) (h1 : z.oneCell' = true) (b off c : Nat)
    (hc : (w.cell? ⟨b, off, none⟩).isSome = true) (hf : w.frozen? ⟨b, off, none⟩ = false) : (Builtin.clear_ #[t] ty #[.slice (some ⟨b, off, none⟩) 1 c]).run P w = .ok (.tuple #[]) (w.setCell ⟨b, off, none⟩ z) := by
  refine Lib.run_clear_slice (P := P) w t e ty z ht hv hz h1 b off 1 c (by omega) (fun j hj => ?_) (fun j hj => ?_)
  · obtain rfl : j = 0 := by omega
    exact hc
  · obtain rfl : j = 0 := by omega
    exact hf

theorem Row.setBeyond {w : World} {e : TypeId} {b off n c : Nat} {xs : List Value} (h : Row w e 1 (.slice (some ⟨b, off, none⟩) n c) xs) {j : Nat} (hj : n ≤ j) (u : Value) : Row (w.setCell ⟨b, off + j, none⟩ u) e 1 (.slice (some ⟨b, off, none⟩) n c) xs := by
  obtain ⟨_, _, _, hv, hl, hnc, hcm, hh⟩ := h
  cases hv
  rcases hh with ⟨h1, _⟩ | ⟨b', off', cs, h1, hb, hs, ht⟩
  · cases h1
  cases h1
  refine ⟨_, n, c, rfl, hl, hnc, hcm, .inr ⟨b, off, _, rfl, blkSet hb _ _, by simpa using hs, ?_⟩⟩
  rw [Array.toList_setIfInBounds, List.drop_set, if_neg (by omega), show off + j - off = j by omega, List.take_set_of_le (by omega), ht]

theorem Row.head {w : World} {e : TypeId} {A : Option Addr} {n c i : Nat} {xs : List Value} (h : Row w e 1 (.slice A n c) xs) (hi : i ≤ n) : Row w e 1 (.slice A i c) (xs.take i) := by
  obtain ⟨_, _, _, hv, hl, hnc, hcm, hh⟩ := h
  cases hv
  refine ⟨A, i, c, rfl, by rw [List.length_take]; omega, by omega, hcm, ?_⟩
  rcases hh with ⟨h1, h2⟩ | ⟨b, off, cs, h1, hb, hs, ht⟩
  · exact .inl ⟨h1, h2⟩
  · exact .inr ⟨b, off, cs, h1, hb, hs, by rw [← ht, List.take_take]; congr 1; omega⟩
theorem Row.behind {w : World} {e : TypeId} {b off n c i : Nat} {xs : List Value} (h : Row w e 1 (.slice (some ⟨b, off, none⟩) n c) xs) (hi : i ≤ n) : Row w e 1 (.slice (some ⟨b, if c = i then off else off + i, none⟩) (n - i) (c - i)) (xs.drop i) := by
  obtain ⟨_, _, _, hv, hl, hnc, hcm, hh⟩ := h
  cases hv
  rcases hh with ⟨h1, _⟩ | ⟨b', off', cs, h1, hb, hs, ht⟩
  · cases h1
  cases h1
  refine ⟨_, n - i, c - i, rfl, by rw [List.length_drop]; omega, by omega, by omega, .inr ⟨b, _, cs, rfl, hb, by split <;> omega, ?_⟩⟩
  by_cases hci : c = i
  · have : n = i := by omega
    subst this
    rw [if_pos hci, Nat.sub_self, Nat.zero_mul, List.take_zero, List.drop_of_length_le (by omega)]
  · rw [if_neg hci, ← ht, List.drop_take, List.drop_drop]
    congr 1
    omega

set_option maxRecDepth 100000 in
set_option maxHeartbeats 1600000 in
theorem delete_any (b off n c i : Nat) (vs : List Value) (w : World) (hr : Row w 28 1 (.slice (some ⟨b, off, none⟩) n c) vs) (hn : vs.length ≤ 1000) (hs : ∀ v ∈ vs, ∃ A n c, v = .slice A n c) (hi : i < n) :
    Calls Try.prog 39 #[.slice (some ⟨b, off, none⟩) n c, .int .i64 i, .int .i64 (i + 1)] w fun e w' => e = .returned (.slice (some ⟨b, off, none⟩) (n - 1) c) ∧ Row w' 28 1 (.slice (some ⟨b, off, none⟩) (n - 1) c) (vs.eraseIdx i) ∧ Keep (· ≠ b) w w' := by
  obtain ⟨i0, hi0, hz0, hz1, hz2⟩ := info_parts info28
  obtain ⟨_, _, _, hv, hl, hnc, hcm, hh⟩ := id hr
  cases hv
  have h0 : (0 : Int) ≤ (i : Int) := by omega
  have h1 : (i : Int) ≤ (i : Int) + 1 := by omega
  have h5 : (0 : Int) ≤ (i : Int) + 1 := by omega
  have h2 : (i : Int) + 1 ≤ (n : Int) := by omega
  have h3 : (n : Int) ≤ (c : Int) := by omega
  have h4 : ((i : Int) == (i : Int) + 1) = false := by simp; omega
  have hcm' : (c : Int) ≤ 9223372036854775807 := by simp only [maxLen] at hcm; omega
  have hhead := hr.head (i := i) (by omega)
  have htail := hr.behind (i := i + 1) (by omega)
  have ht1 : ∀ u ∈ vs.drop (i + 1), u.oneCell' = true := slices_one fun v hv => hs v (List.mem_of_mem_drop hv)
  have hc1 : (vs.take i).length + (vs.drop (i + 1)).length ≤ maxLen := by rw [List.length_take, List.length_drop]; simp only [maxLen]; omega
  have hc2 : ((vs.take i).length + (vs.drop (i + 1)).length) * 24 ≤ 140737488355328 := by rw [List.length_take, List.length_drop]; omega
  clear hh hcm
  have fin : ∀ (w2 : World) (m : Nat), i + m = n - 1 → Row w2 28 1 (.slice (some ⟨b, off, none⟩) (i + m) c) (vs.take i ++ vs.drop (i + 1)) → w.grownBy w2 (some b) →
      Row (w2.setCell ⟨b, off + (n - 1), none⟩ (.slice none 0 0)) 28 1 (.slice (some ⟨b, off, none⟩) (n - 1) c) (vs.eraseIdx i) ∧ Keep (· ≠ b) w (w2.setCell ⟨b, off + (n - 1), none⟩ (.slice none 0 0)) ∧
      (w2.cell? ⟨b, off + (n - 1), none⟩).isSome = true ∧ w2.frozen? ⟨b, off + (n - 1), none⟩ = false := by
    intro w2 m hm h1 h2
    rw [hm] at h1
    refine ⟨?_, ((Keep.refl _ w).grown h2 (by simp)).setCell (p := ⟨b, _, none⟩) (.inl (by simp)) _, ?_⟩
    · rw [List.eraseIdx_eq_take_drop_succ]
      exact h1.setBeyond (Nat.le_refl _) _
    · obtain ⟨_, _, _, hv, hl', hnc', _, hh'⟩ := h1
      cases hv
      rcases hh' with ⟨h1, _⟩ | ⟨b', off', cs, h1, hb, hs, ht⟩
      · cases h1
      cases h1
      refine ⟨?_, blkFree hb _⟩
      rw [blkCell hb, Option.isSome_iff_exists]
      exact ⟨cs[off + (n - 1)]'(by omega), Array.getElem?_eq_getElem _⟩
  have FIN := hid fin
  clear fin hl
  by_cases hci : c = i + 1
  · obtain rfl : n = i + 1 := by omega
    subst hci
    rw [if_pos rfl] at htail
    have htl : Src w 1 (.slice (some ⟨b, off, none⟩) 0 0) (vs.drop (i + 1)) := by simpa using htail.src
    clear htail
    go_enter Try.func39, Try.ntmps39
    go_wp2_with fail
    go_region_law (first | (refine step_append_fit _ (by rfl) _ _ 22 (by rfl) 28 i0 1 Try.underlying22 hi0 hz1 ⟨b, off, none⟩ i (i + 1) (vs.take i) (by rfl) (by exact hhead.keep fun _ _ => rfl) ⟨b, off, none⟩ 0 0 (vs.drop (i + 1)) (by rfl) (by exact htl.keep fun _ _ _ => rfl) ht1 (by omega) ?_; intro w2 hr2 hg2) | fail)
    all_goals
      obtain ⟨f1, f2, f3, f4⟩ := FIN.out w2 0 (by omega) hr2 ⟨hg2.os, hg2.tape, hg2.output, hg2.size, hg2.block⟩
      simp only [Nat.add_sub_cancel] at f1 f2 f3 f4
      have hclr := run_clear1 (P := Try.prog) w2 22 28 0 (.slice none 0 0) Try.underlying22 zero28 rfl rfl b (off + i) 1 f3 f4
      have F1 := hid f1
      clear f1 hr2 htl hhead hr
      go_wp2_with fail
      go_ret
      exact ⟨rfl, F1.out, f2⟩
  · rw [if_neg hci] at htail
    obtain ⟨m, hm⟩ : ∃ m, n = i + 1 + m := ⟨n - (i + 1), by omega⟩
    subst hm
    have h2b : (i : Int) + 1 ≤ (i : Int) + 1 + (m : Int) := by omega
    have hic : i ≤ c := by omega
    have hic1 : i + 1 ≤ c := by omega
    have hcf : (c = i + 1) = False := by simpa using hci
    rw [Nat.add_sub_cancel_left] at htail
    have htl := htail.src
    clear htail hci
    go_enter Try.func39, Try.ntmps39
    go_wp2_with fail
    go_region_law (first | (refine step_append_fit _ (by rfl) _ _ 22 (by rfl) 28 i0 1 Try.underlying22 hi0 hz1 ⟨b, off, none⟩ i c (vs.take i) (by rfl) (by exact hhead.keep fun _ _ => rfl) ⟨b, off + (i + 1), none⟩ m (c - (i + 1)) (vs.drop (i + 1)) (by rfl) (by exact htl.keep fun _ _ _ => rfl) ht1 (by omega) ?_; intro w2 hr2 hg2) | fail)
    all_goals
      obtain ⟨f1, f2, f3, f4⟩ := FIN.out w2 m (by omega) hr2 ⟨hg2.os, hg2.tape, hg2.output, hg2.size, hg2.block⟩
      rw [show i + 1 + m - 1 = i + m by omega] at f1 f2 f3 f4
      have hclr : (Builtin.clear_ #[22] 0 #[.slice (some ⟨b, off + (i + m), none⟩) (i + 1 + m - (i + m)) (c - (i + m))]).run Try.prog w2 = .ok (.tuple #[]) (w2.setCell ⟨b, off + (i + m), none⟩ (.slice none 0 0)) := by
        rw [show i + 1 + m - (i + m) = 1 by omega]
        exact run_clear1 (P := Try.prog) w2 22 28 0 (.slice none 0 0) Try.underlying22 zero28 rfl rfl b (off + (i + m)) (c - (i + m)) f3 f4
      have F1 := hid f1
      clear f1 hr2 htl hhead hr
      go_wp2_with fail
      go_ret
      exact ⟨rfl, F1.out, f2⟩

end Go.Proofs.Ytodbnmigdnmjnaa
