/- Swap, Turn of a net that is there -/
import Derived.Test.YtodbnmigdnmjnaaQ
import Derived.Test.YtodbnmigdnmjnaaB2
namespace Go.Proofs.Ytodbnmigdnmjnaa
open Go.RowKit
set_option linter.unusedSimpArgs false

theorem Keep.toGrown {w w' : World} {b : Nat} (h : Keep (· ≠ b) w w') : w.grownBy w' (some b) := ⟨h.os, h.tape, h.output, h.size, fun k hk hne => h.block k hk (by rintro rfl; exact hne rfl)⟩
theorem Row.setOne {w : World} {e : TypeId} {b off n c : Nat} {xs : List Value} (h : Row w e 1 (.slice (some ⟨b, off, none⟩) n c) xs) {i : Nat} (u : Value) (_hi : i < n) :
    Row (w.setCell ⟨b, off + i, none⟩ u) e 1 (.slice (some ⟨b, off, none⟩) n c) (xs.set i u) := by
  obtain ⟨A, n', c', hv, hl, hnc, hc, h⟩ := h
  cases hv
  rcases h with ⟨hh, _⟩ | ⟨b', off', cs, hh, hb, hs, ht⟩
  · cases hh
  · cases hh
    refine ⟨_, n, c, rfl, by simpa using hl, hnc, hc, .inr ⟨b, off, _, rfl, blkSet hb _ _, by simpa using hs, ?_⟩⟩
    rw [Array.toList_setIfInBounds, List.drop_set, if_neg (by omega), show off + i - off = i by omega, List.take_set, ht]

theorem Row.cellAt {w : World} {e : TypeId} {b off n c : Nat} {xs : List Value} (h : Row w e 1 (.slice (some ⟨b, off, none⟩) n c) xs) {i : Nat} {u : Value} (hu : xs[i]? = some u) : w.cell? ⟨b, off + i, none⟩ = some u ∧ ∀ j, w.frozen? ⟨b, j, none⟩ = false := by
  obtain ⟨_, _, _, hv, _, _, _, hh⟩ := h.src
  cases hv
  obtain ⟨a, ha, hc⟩ := hh i u hu
  cases ha
  rw [add_lit'] at hc
  refine ⟨hc, ?_⟩
  obtain ⟨A, n', c', hv, hl, hnc, hcm, h⟩ := h
  cases hv
  rcases h with ⟨hh, _⟩ | ⟨b', off', cs, hh, hb, hs, ht⟩
  · cases hh
  · cases hh; exact blkFree hb

set_option maxRecDepth 100000 in
set_option maxHeartbeats 1600000 in
theorem swap1_no (g k BI BJ n c : Nat) (A : Option Addr) (j : Int) (w : World) (cg : w.cell? ⟨g, 1 + k, none⟩ = some (.slice A n c)) (cJ : w.cell? ⟨BJ, 0, none⟩ = some (.int .i64 j)) (hj : ¬ (0 ≤ j ∧ j < n)) :
    Calls Try.prog 42 #[.pointer (some ⟨g, 1 + k, none⟩), .pointer (some ⟨BJ, 0, none⟩), .pointer (some ⟨BI, 0, none⟩)] w fun e w' => e = .returned (.bool false) ∧ ∃ n, w.drewN n = w' := by
  by_cases h0 : j < 0
  · have g1 : decide (j < 0) = true := by simpa using h0
    clear hj
    go_enter Try.func42, Try.ntmps42
    go_wp2_with fail
    go_quiet (fail)
    go_wp2_with fail
    go_ret
    exact ⟨rfl, _, rfl⟩
  · have g1 : decide (j < 0) = false := by simpa using h0
    have g2 : decide (j ≥ (n : Int)) = true := by simp; omega
    clear hj
    go_enter Try.func42, Try.ntmps42
    go_wp2_with fail
    go_quiet (fail)
    go_wp2_with fail
    go_ret
    exact ⟨rfl, _, rfl⟩

set_option maxRecDepth 100000 in
set_option maxHeartbeats 1600000 in
theorem swap1_yes (g k BI BJ qb off n c i j : Nat) (iA jA : Option Addr) (in_ ic jn jc : Nat) (vs : List Value) (w : World) (cg : w.cell? ⟨g, 1 + k, none⟩ = some (.slice (some ⟨qb, off, none⟩) n c))
    (cJ : w.cell? ⟨BJ, 0, none⟩ = some (.int .i64 j)) (cI : w.cell? ⟨BI, 0, none⟩ = some (.int .i64 i)) (hr : Row w 28 1 (.slice (some ⟨qb, off, none⟩) n c) vs) (hi : i < n) (hj : j < n) (hvi : vs[i]? = some (.slice iA in_ ic)) (hvj : vs[j]? = some (.slice jA jn jc)) (hqg : qb ≠ g) (hqI : qb ≠ BI) (hqJ : qb ≠ BJ) :
    Calls Try.prog 42 #[.pointer (some ⟨g, 1 + k, none⟩), .pointer (some ⟨BJ, 0, none⟩), .pointer (some ⟨BI, 0, none⟩)] w fun e w' => e = .returned (.bool true) ∧
      Row w' 28 1 (.slice (some ⟨qb, off, none⟩) n c) ((vs.set i (.slice jA jn jc)).set j (.slice iA in_ ic)) ∧ w.grownBy w' (some qb) := by
  obtain ⟨ci, fz⟩ := hr.cellAt hvi
  obtain ⟨cj, _⟩ := hr.cellAt hvj
  have fi := fz (off + i)
  have fj := fz (off + j)
  have cj2 : (w.setCell ⟨qb, off + i, none⟩ (.slice jA jn jc)).frozen? ⟨qb, off + j, none⟩ = false := ((hr.setOne (.slice jA jn jc) hi).cellAt (i := i) (u := .slice jA jn jc) (by rw [List.getElem?_set, if_pos rfl, if_pos (by obtain ⟨_, _, _, hv, hl, _⟩ := id hr; cases hv; omega)])).2 _
  have cj3 : ∃ u, (w.setCell ⟨qb, off + i, none⟩ (.slice jA jn jc)).cell? ⟨qb, off + j, none⟩ = some u := by
    have hrr := hr.setOne (.slice jA jn jc) hi
    have hlen : j < (vs.set i (.slice jA jn jc)).length := by rw [List.length_set]; obtain ⟨_, _, _, hv, hl, _⟩ := id hr; cases hv; omega
    exact ⟨_, (hrr.cellAt (i := j) (List.getElem?_eq_getElem hlen)).1⟩
  obtain ⟨uj, cj3⟩ := cj3
  have cj2n : ∀ n, ((w.drewN n).setCell ⟨qb, off + i, none⟩ (.slice jA jn jc)).frozen? ⟨qb, off + j, none⟩ = false := fun _ => cj2
  have cj3n : ∀ n, ((w.drewN n).setCell ⟨qb, off + i, none⟩ (.slice jA jn jc)).cell? ⟨qb, off + j, none⟩ = some uj := fun _ => cj3
  have g1 : decide ((j : Int) < 0) = false := by simp
  have g2 : decide ((j : Int) ≥ (n : Int)) = false := by simp; omega
  have i0 : (0 : Int) ≤ (i : Int) := by omega
  have i1 : (i : Int) < (n : Int) := by omega
  have j0 : (0 : Int) ≤ (j : Int) := by omega
  have j1 : (j : Int) < (n : Int) := by omega
  have HR := hid hr
  clear fz hr hvi hvj
  go_enter Try.func42, Try.ntmps42
  go_wp2_with fail
  go_quiet (fail)
  go_wp2_with fail
  refine wp_region_noPanic ?_
  refine wp_region_F (fun w' => w'.cell? ⟨g, 1 + k, none⟩ = some (.slice (some ⟨qb, off, none⟩) n c) ∧ w'.cell? ⟨BJ, 0, none⟩ = some (.int .i64 j) ∧ w'.cell? ⟨BI, 0, none⟩ = some (.int .i64 i)) (fun w' => w' = (w.drewN nq).drew) [21, 23] (by kernel_rfl) ?_
  refine anyF_take (i := 0) (v := ?v0) (by rfl) (by kernel_rfl) (by kernel_rfl) (by kernel_rfl) (by kernel_rfl) (by kernel_rfl) (by kernel_rfl) (by exact fun _ _ _ h => h) (Or.inl ⟨by rfl, ?y0⟩) (by exact ⟨cg, cJ, cI⟩) (by rfl) ?r0
  case y0 => (intro wS hwS; subst hwS; go_simp; try with_reducible rfl)
  try simp only [Act.put, List.getElem_toArray, List.getElem_cons_succ, List.getElem_cons_zero, List.setIfInBounds_toArray, List.set_cons_zero, List.set_cons_succ]
  refine anyF_take (i := 1) (v := ?v1) (by rfl) (by kernel_rfl) (by kernel_rfl) (by kernel_rfl) (by kernel_rfl) (by kernel_rfl) (by kernel_rfl) (by exact fun _ _ _ h => h) (Or.inl ⟨by rfl, ?y1⟩) (by exact ⟨cg, cJ, cI⟩) (by rfl) ?r1
  case y1 => (intro wS hwS; subst hwS; go_simp; try with_reducible rfl)
  try simp only [Act.put, List.getElem_toArray, List.getElem_cons_succ, List.getElem_cons_zero, List.setIfInBounds_toArray, List.set_cons_zero, List.set_cons_succ]
  refine anyF_take (i := 2) (v := ?v2) (by rfl) (by kernel_rfl) (by kernel_rfl) (by kernel_rfl) (by kernel_rfl) (by kernel_rfl) (by kernel_rfl) (by exact fun _ _ _ h => h) (Or.inl ⟨by rfl, ?y2⟩) (by exact ⟨cg, cJ, cI⟩) (by rfl) ?r2
  case y2 => (intro wS hwS; subst hwS; go_simp; try with_reducible rfl)
  try simp only [Act.put, List.getElem_toArray, List.getElem_cons_succ, List.getElem_cons_zero, List.setIfInBounds_toArray, List.set_cons_zero, List.set_cons_succ]
  refine anyF_take (i := 3) (v := ?v3) (by rfl) (by kernel_rfl) (by kernel_rfl) (by kernel_rfl) (by kernel_rfl) (by kernel_rfl) (by kernel_rfl) (by exact fun _ _ _ h => h) (Or.inl ⟨by rfl, ?y3⟩) (by exact ⟨cg, cJ, cI⟩) (by rfl) ?r3
  case y3 => (intro wS hwS; subst hwS; go_simp; try with_reducible rfl)
  try simp only [Act.put, List.getElem_toArray, List.getElem_cons_succ, List.getElem_cons_zero, List.setIfInBounds_toArray, List.set_cons_zero, List.set_cons_succ]
  refine anyF_takeT (i := 4) (v := ?v4) (by rfl) (by kernel_rfl) (by kernel_rfl) (by kernel_rfl) (by kernel_rfl) (by exact fun _ _ _ h => h) (Or.inl ⟨by rfl, ?y4⟩) (by exact ⟨cg, cJ, cI⟩) (by exact fun _ => rfl) ?r4
  case y4 => (intro wS hwS; (try dsimp only at hwS); go_split_ands; go_simp; try with_reducible rfl)
  try simp only [Act.put, List.getElem_toArray, List.getElem_cons_succ, List.getElem_cons_zero, List.setIfInBounds_toArray, List.set_cons_zero, List.set_cons_succ]
  refine anyF_takeT (i := 5) (v := ?v5) (by rfl) (by kernel_rfl) (by kernel_rfl) (by kernel_rfl) (by kernel_rfl) (by exact fun _ _ _ h => h) (Or.inl ⟨by rfl, ?y5⟩) (by exact ⟨cg, cJ, cI⟩) (by exact fun _ => rfl) ?r5
  case y5 => (intro wS hwS; (try dsimp only at hwS); go_split_ands; go_simp; try with_reducible rfl)
  try simp only [Act.put, List.getElem_toArray, List.getElem_cons_succ, List.getElem_cons_zero, List.setIfInBounds_toArray, List.set_cons_zero, List.set_cons_succ]
  refine anyF_take (i := 6) (v := ?v6) (by rfl) (by kernel_rfl) (by kernel_rfl) (by kernel_rfl) (by kernel_rfl) (by kernel_rfl) (by kernel_rfl) (by exact fun _ _ _ h => h) (Or.inl ⟨by rfl, ?y6⟩) (by exact ⟨cg, cJ, cI⟩) (by rfl) ?r6
  case y6 => (intro wS hwS; subst hwS; go_simp; try with_reducible rfl)
  try simp only [Act.put, List.getElem_toArray, List.getElem_cons_succ, List.getElem_cons_zero, List.setIfInBounds_toArray, List.set_cons_zero, List.set_cons_succ]
  refine anyF_takeT (i := 7) (v := ?v7) (by rfl) (by kernel_rfl) (by kernel_rfl) (by kernel_rfl) (by kernel_rfl) (by exact fun _ _ _ h => h) (Or.inl ⟨by rfl, ?y7⟩) (by exact ⟨cg, cJ, cI⟩) (by exact fun _ => rfl) ?r7
  case y7 => (intro wS hwS; (try dsimp only at hwS); go_split_ands; go_simp; try with_reducible rfl)
  try simp only [Act.put, List.getElem_toArray, List.getElem_cons_succ, List.getElem_cons_zero, List.setIfInBounds_toArray, List.set_cons_zero, List.set_cons_succ]
  refine anyF_take (i := 8) (v := ?v8) (by rfl) (by kernel_rfl) (by kernel_rfl) (by kernel_rfl) (by kernel_rfl) (by kernel_rfl) (by kernel_rfl) (by exact fun _ _ _ h => h) (Or.inl ⟨by rfl, ?y8⟩) (by exact ⟨cg, cJ, cI⟩) (by rfl) ?r8
  case y8 => (intro wS hwS; subst hwS; go_simp; try with_reducible rfl)
  try simp only [Act.put, List.getElem_toArray, List.getElem_cons_succ, List.getElem_cons_zero, List.setIfInBounds_toArray, List.set_cons_zero, List.set_cons_succ]
  refine anyF_take (i := 9) (v := ?v9) (by rfl) (by kernel_rfl) (by kernel_rfl) (by kernel_rfl) (by kernel_rfl) (by kernel_rfl) (by kernel_rfl) (by exact fun _ _ _ h => h) (Or.inl ⟨by rfl, ?y9⟩) (by exact ⟨cg, cJ, cI⟩) (by rfl) ?r9
  case y9 => (intro wS hwS; subst hwS; go_simp; try with_reducible rfl)
  try simp only [Act.put, List.getElem_toArray, List.getElem_cons_succ, List.getElem_cons_zero, List.setIfInBounds_toArray, List.set_cons_zero, List.set_cons_succ]
  refine anyF_take (i := 10) (v := ?v10) (by rfl) (by kernel_rfl) (by kernel_rfl) (by kernel_rfl) (by kernel_rfl) (by kernel_rfl) (by kernel_rfl) (by exact fun _ _ _ h => h) (Or.inl ⟨by rfl, ?y10⟩) (by exact ⟨cg, cJ, cI⟩) (by rfl) ?r10
  case y10 => (intro wS hwS; subst hwS; go_simp; try with_reducible rfl)
  try simp only [Act.put, List.getElem_toArray, List.getElem_cons_succ, List.getElem_cons_zero, List.setIfInBounds_toArray, List.set_cons_zero, List.set_cons_succ]
  refine anyF_take (i := 11) (v := ?v11) (by rfl) (by kernel_rfl) (by kernel_rfl) (by kernel_rfl) (by kernel_rfl) (by kernel_rfl) (by kernel_rfl) (by exact fun _ _ _ h => h) (Or.inl ⟨by rfl, ?y11⟩) (by exact ⟨cg, cJ, cI⟩) (by rfl) ?r11
  case y11 => (intro wS hwS; subst hwS; go_simp; try with_reducible rfl)
  try simp only [Act.put, List.getElem_toArray, List.getElem_cons_succ, List.getElem_cons_zero, List.setIfInBounds_toArray, List.set_cons_zero, List.set_cons_succ]
  refine anyF_take (i := 12) (v := ?v12) (by rfl) (by kernel_rfl) (by kernel_rfl) (by kernel_rfl) (by kernel_rfl) (by kernel_rfl) (by kernel_rfl) (by exact fun _ _ _ h => h) (Or.inl ⟨by rfl, ?y12⟩) (by exact ⟨cg, cJ, cI⟩) (by rfl) ?r12
  case y12 => (intro wS hwS; subst hwS; go_simp; try with_reducible rfl)
  try simp only [Act.put, List.getElem_toArray, List.getElem_cons_succ, List.getElem_cons_zero, List.setIfInBounds_toArray, List.set_cons_zero, List.set_cons_succ]
  refine anyF_take (i := 13) (v := ?v13) (by rfl) (by kernel_rfl) (by kernel_rfl) (by kernel_rfl) (by kernel_rfl) (by kernel_rfl) (by kernel_rfl) (by exact fun _ _ _ h => h) (Or.inl ⟨by rfl, ?y13⟩) (by exact ⟨cg, cJ, cI⟩) (by rfl) ?r13
  case y13 => (intro wS hwS; subst hwS; go_simp; try with_reducible rfl)
  try simp only [Act.put, List.getElem_toArray, List.getElem_cons_succ, List.getElem_cons_zero, List.setIfInBounds_toArray, List.set_cons_zero, List.set_cons_succ]
  refine anyF_takeT (i := 14) (v := ?v14) (by rfl) (by kernel_rfl) (by kernel_rfl) (by kernel_rfl) (by kernel_rfl) (by exact fun _ _ _ h => h) (Or.inl ⟨by rfl, ?y14⟩) (by exact ⟨cg, cJ, cI⟩) (by exact fun _ => rfl) ?r14
  case y14 => (intro wS hwS; (try dsimp only at hwS); go_split_ands; go_simp; try with_reducible rfl)
  try simp only [Act.put, List.getElem_toArray, List.getElem_cons_succ, List.getElem_cons_zero, List.setIfInBounds_toArray, List.set_cons_zero, List.set_cons_succ]
  refine anyF_takeT (i := 15) (v := ?v15) (by rfl) (by kernel_rfl) (by kernel_rfl) (by kernel_rfl) (by kernel_rfl) (by exact fun _ _ _ h => h) (Or.inl ⟨by rfl, ?y15⟩) (by exact ⟨cg, cJ, cI⟩) (by exact fun _ => rfl) ?r15
  case y15 => (intro wS hwS; (try dsimp only at hwS); go_split_ands; go_simp; try with_reducible rfl)
  try simp only [Act.put, List.getElem_toArray, List.getElem_cons_succ, List.getElem_cons_zero, List.setIfInBounds_toArray, List.set_cons_zero, List.set_cons_succ]
  refine anyF_take (i := 16) (v := ?v16) (by rfl) (by kernel_rfl) (by kernel_rfl) (by kernel_rfl) (by kernel_rfl) (by kernel_rfl) (by kernel_rfl) (by exact fun _ _ _ h => h) (Or.inl ⟨by rfl, ?y16⟩) (by exact ⟨cg, cJ, cI⟩) (by rfl) ?r16
  case y16 => (intro wS hwS; subst hwS; go_simp; try with_reducible rfl)
  try simp only [Act.put, List.getElem_toArray, List.getElem_cons_succ, List.getElem_cons_zero, List.setIfInBounds_toArray, List.set_cons_zero, List.set_cons_succ]
  refine anyF_takeT (i := 17) (v := ?v17) (by rfl) (by kernel_rfl) (by kernel_rfl) (by kernel_rfl) (by kernel_rfl) (by exact fun _ _ _ h => h) (Or.inl ⟨by rfl, ?y17⟩) (by exact ⟨cg, cJ, cI⟩) (by exact fun _ => rfl) ?r17
  case y17 => (intro wS hwS; (try dsimp only at hwS); go_split_ands; go_simp; try with_reducible rfl)
  try simp only [Act.put, List.getElem_toArray, List.getElem_cons_succ, List.getElem_cons_zero, List.setIfInBounds_toArray, List.set_cons_zero, List.set_cons_succ]
  refine anyF_takeT (i := 18) (v := ?v18) (by rfl) (by kernel_rfl) (by kernel_rfl) (by kernel_rfl) (by kernel_rfl) (by exact fun _ _ _ h => h) (Or.inl ⟨by rfl, ?y18⟩) (by exact ⟨cg, cJ, cI⟩) (by exact fun _ => rfl) ?r18
  case y18 => (intro wS hwS; (try dsimp only at hwS); go_split_ands; go_simp; try with_reducible rfl)
  try simp only [Act.put, List.getElem_toArray, List.getElem_cons_succ, List.getElem_cons_zero, List.setIfInBounds_toArray, List.set_cons_zero, List.set_cons_succ]
  refine anyF_take (i := 19) (v := ?v19) (by rfl) (by kernel_rfl) (by kernel_rfl) (by kernel_rfl) (by kernel_rfl) (by kernel_rfl) (by kernel_rfl) (by exact fun _ _ _ h => h) (Or.inl ⟨by rfl, ?y19⟩) (by exact ⟨cg, cJ, cI⟩) (by rfl) ?r19
  case y19 => (intro wS hwS; subst hwS; go_simp; try with_reducible rfl)
  try simp only [Act.put, List.getElem_toArray, List.getElem_cons_succ, List.getElem_cons_zero, List.setIfInBounds_toArray, List.set_cons_zero, List.set_cons_succ]
  refine anyF_take (i := 20) (v := ?v20) (by rfl) (by kernel_rfl) (by kernel_rfl) (by kernel_rfl) (by kernel_rfl) (by kernel_rfl) (by kernel_rfl) (by exact fun _ _ _ h => h) (Or.inl ⟨by rfl, ?y20⟩) (by exact ⟨cg, cJ, cI⟩) (by rfl) ?r20
  case y20 => (intro wS hwS; subst hwS; go_simp; try with_reducible rfl)
  try simp only [Act.put, List.getElem_toArray, List.getElem_cons_succ, List.getElem_cons_zero, List.setIfInBounds_toArray, List.set_cons_zero, List.set_cons_succ]
  refine anyF_last (i := 21) (by rfl) (by kernel_rfl) (by kernel_rfl) ?_
  intro K21 hK21
  have hKs21 := hid hK21; clear hK21
  go_simp
  refine hKs21.out _ _ (by exact ⟨(World.cell?_setCell_far _ _ _ _ hqg).trans cg, (World.cell?_setCell_far _ _ _ _ hqJ).trans cJ, (World.cell?_setCell_far _ _ _ _ hqI).trans cI⟩) ?_
  clear hKs21 K21
  refine anyF_takeT (i := 22) (v := ?v22) (by rfl) (by kernel_rfl) (by kernel_rfl) (by kernel_rfl) (by kernel_rfl) (by exact fun _ _ _ h => h) (Or.inl ⟨by rfl, ?y22⟩) (by exact ⟨(World.cell?_setCell_far _ _ _ _ hqg).trans cg, (World.cell?_setCell_far _ _ _ _ hqJ).trans cJ, (World.cell?_setCell_far _ _ _ _ hqI).trans cI⟩) (by exact noM_absurd (by kernel_rfl)) ?r22
  case y22 => (intro wS hwS; (try dsimp only at hwS); go_split_ands; go_simp; try with_reducible rfl)
  try simp only [Act.put, List.getElem_toArray, List.getElem_cons_succ, List.getElem_cons_zero, List.setIfInBounds_toArray, List.set_cons_zero, List.set_cons_succ]
  refine anyF_last (i := 23) (by rfl) (by kernel_rfl) (by kernel_rfl) ?_
  intro K23 hK23
  have hKs23 := hid hK23; clear hK23
  go_simp
  refine hKs23.out _ _ (by exact ⟨(World.cell?_setCell_far _ _ _ _ hqg).trans ((World.cell?_setCell_far _ _ _ _ hqg).trans cg), (World.cell?_setCell_far _ _ _ _ hqJ).trans ((World.cell?_setCell_far _ _ _ _ hqJ).trans cJ), (World.cell?_setCell_far _ _ _ _ hqI).trans ((World.cell?_setCell_far _ _ _ _ hqI).trans cI)⟩) ?_
  clear hKs23 K23
  refine anyF_done (by kernel_rfl) (NoPanic.normal ?_) _
  go_wp2_with fail
  go_ret
  exact ⟨rfl, ((HR.out.keep (fun _ _ => rfl)).setOne _ hi).setOne _ hj, Keep.toGrown ((((Keep.refl (· ≠ qb) w).drewN (nq + 1)).setCell (p := ⟨qb, off + i, none⟩) (.inl (by simp)) _).setCell (p := ⟨qb, off + j, none⟩) (.inl (by simp)) _)⟩

set_option maxRecDepth 100000 in
set_option maxHeartbeats 1600000 in
theorem turn1_no (g k BI BA BY qb off n c i : Nat) (mA : Option Addr) (mn mc : Nat) (a : Int) (w : World) (cg : w.cell? ⟨g, 1 + k, none⟩ = some (.slice (some ⟨qb, off, none⟩) n c))
    (cI : w.cell? ⟨BI, 0, none⟩ = some (.int .i64 i)) (cA : w.cell? ⟨BA, 0, none⟩ = some (.int .i64 a)) (hi : i < n) (hv : w.cell? ⟨qb, off + i, none⟩ = some (.slice mA mn mc)) (ha : ¬ (0 ≤ a ∧ a < mn)) :
    Calls Try.prog 43 #[.pointer (some ⟨g, 1 + k, none⟩), .pointer (some ⟨BI, 0, none⟩), .pointer (some ⟨BA, 0, none⟩), .pointer (some ⟨BY, 0, none⟩)] w fun e w' => e = .returned (.bool false) ∧ ∃ n, w.drewN n = w' := by
  have i0 : (0 : Int) ≤ (i : Int) := by omega
  have i1 : (i : Int) < (n : Int) := by omega
  by_cases h0 : a < 0
  · have g1 : decide (a < 0) = true := by simpa using h0
    clear ha
    go_enter Try.func43, Try.ntmps43
    go_wp2_with fail
    go_quiet (fail)
    go_wp2_with fail
    go_ret
    exact ⟨rfl, _, rfl⟩
  · have g1 : decide (a < 0) = false := by simpa using h0
    have g2 : decide (a ≥ (mn : Int)) = true := by simp; omega
    clear ha
    go_enter Try.func43, Try.ntmps43
    go_wp2_with fail
    go_quiet (fail)
    go_wp2_with fail
    go_ret
    exact ⟨rfl, _, rfl⟩

set_option maxRecDepth 100000 in
set_option maxHeartbeats 1600000 in
theorem turn1_yes (g k BI BA BY qb off n c i mb mo mn mc at_ : Nat) (p y : Int) (w : World) (cg : w.cell? ⟨g, 1 + k, none⟩ = some (.slice (some ⟨qb, off, none⟩) n c))
    (cI : w.cell? ⟨BI, 0, none⟩ = some (.int .i64 i)) (cA : w.cell? ⟨BA, 0, none⟩ = some (.int .i64 at_)) (cY : w.cell? ⟨BY, 0, none⟩ = some (.int .u8 y)) (hi : i < n) (hv : w.cell? ⟨qb, off + i, none⟩ = some (.slice (some ⟨mb, mo, none⟩) mn mc)) (ha : at_ < mn)
    (cp : w.cell? ⟨mb, mo + at_, none⟩ = some (.int .u8 p)) (fp : w.frozen? ⟨mb, mo + at_, none⟩ = false) :
    Calls Try.prog 43 #[.pointer (some ⟨g, 1 + k, none⟩), .pointer (some ⟨BI, 0, none⟩), .pointer (some ⟨BA, 0, none⟩), .pointer (some ⟨BY, 0, none⟩)] w fun e w' => e = .returned (.bool true) ∧ ∃ n, w' = (w.drewN n).setCell ⟨mb, mo + at_, none⟩ (.int .u8 (bits .xor .u8 p y)) := by
  have i0 : (0 : Int) ≤ (i : Int) := by omega
  have i1 : (i : Int) < (n : Int) := by omega
  have a0 : (0 : Int) ≤ (at_ : Int) := by omega
  have a1 : (at_ : Int) < (mn : Int) := by omega
  have g1 : decide ((at_ : Int) < 0) = false := by simp
  have g2 : decide ((at_ : Int) ≥ (mn : Int)) = false := by simp; omega
  go_enter Try.func43, Try.ntmps43
  go_wp2_with fail
  go_quiet (fail)
  go_wp2_with fail
  refine wp_region_noPanic ?_
  refine wp_region_F (fun _ => True) (fun w' => w' = (w.drewN nq).drew) [7] (by kernel_rfl) ?_
  refine anyF_take (i := 0) (v := ?v0) (by rfl) (by kernel_rfl) (by kernel_rfl) (by kernel_rfl) (by kernel_rfl) (by kernel_rfl) (by kernel_rfl) (by exact fun _ _ _ h => h) (Or.inl ⟨by rfl, ?y0⟩) (by exact trivial) (by rfl) ?r0
  case y0 => (intro wS hwS; subst hwS; go_simp; try with_reducible rfl)
  try simp only [Act.put, List.getElem_toArray, List.getElem_cons_succ, List.getElem_cons_zero, List.setIfInBounds_toArray, List.set_cons_zero, List.set_cons_succ]
  refine anyF_take (i := 1) (v := ?v1) (by rfl) (by kernel_rfl) (by kernel_rfl) (by kernel_rfl) (by kernel_rfl) (by kernel_rfl) (by kernel_rfl) (by exact fun _ _ _ h => h) (Or.inl ⟨by rfl, ?y1⟩) (by exact trivial) (by rfl) ?r1
  case y1 => (intro wS hwS; subst hwS; go_simp; try with_reducible rfl)
  try simp only [Act.put, List.getElem_toArray, List.getElem_cons_succ, List.getElem_cons_zero, List.setIfInBounds_toArray, List.set_cons_zero, List.set_cons_succ]
  refine anyF_take (i := 2) (v := ?v2) (by rfl) (by kernel_rfl) (by kernel_rfl) (by kernel_rfl) (by kernel_rfl) (by kernel_rfl) (by kernel_rfl) (by exact fun _ _ _ h => h) (Or.inl ⟨by rfl, ?y2⟩) (by exact trivial) (by rfl) ?r2
  case y2 => (intro wS hwS; subst hwS; go_simp; try with_reducible rfl)
  try simp only [Act.put, List.getElem_toArray, List.getElem_cons_succ, List.getElem_cons_zero, List.setIfInBounds_toArray, List.set_cons_zero, List.set_cons_succ]
  refine anyF_take (i := 3) (v := ?v3) (by rfl) (by kernel_rfl) (by kernel_rfl) (by kernel_rfl) (by kernel_rfl) (by kernel_rfl) (by kernel_rfl) (by exact fun _ _ _ h => h) (Or.inl ⟨by rfl, ?y3⟩) (by exact trivial) (by rfl) ?r3
  case y3 => (intro wS hwS; subst hwS; go_simp; try with_reducible rfl)
  try simp only [Act.put, List.getElem_toArray, List.getElem_cons_succ, List.getElem_cons_zero, List.setIfInBounds_toArray, List.set_cons_zero, List.set_cons_succ]
  refine anyF_take (i := 4) (v := ?v4) (by rfl) (by kernel_rfl) (by kernel_rfl) (by kernel_rfl) (by kernel_rfl) (by kernel_rfl) (by kernel_rfl) (by exact fun _ _ _ h => h) (Or.inl ⟨by rfl, ?y4⟩) (by exact trivial) (by rfl) ?r4
  case y4 => (intro wS hwS; subst hwS; go_simp; try with_reducible rfl)
  try simp only [Act.put, List.getElem_toArray, List.getElem_cons_succ, List.getElem_cons_zero, List.setIfInBounds_toArray, List.set_cons_zero, List.set_cons_succ]
  refine anyF_take (i := 5) (v := ?v5) (by rfl) (by kernel_rfl) (by kernel_rfl) (by kernel_rfl) (by kernel_rfl) (by kernel_rfl) (by kernel_rfl) (by exact fun _ _ _ h => h) (Or.inl ⟨by rfl, ?y5⟩) (by exact trivial) (by rfl) ?r5
  case y5 => (intro wS hwS; subst hwS; go_simp; try with_reducible rfl)
  try simp only [Act.put, List.getElem_toArray, List.getElem_cons_succ, List.getElem_cons_zero, List.setIfInBounds_toArray, List.set_cons_zero, List.set_cons_succ]
  refine anyF_take (i := 6) (v := ?v6) (by rfl) (by kernel_rfl) (by kernel_rfl) (by kernel_rfl) (by kernel_rfl) (by kernel_rfl) (by kernel_rfl) (by exact fun _ _ _ h => h) (Or.inl ⟨by rfl, ?y6⟩) (by exact trivial) (by rfl) ?r6
  case y6 => (intro wS hwS; subst hwS; go_simp; try with_reducible rfl)
  try simp only [Act.put, List.getElem_toArray, List.getElem_cons_succ, List.getElem_cons_zero, List.setIfInBounds_toArray, List.set_cons_zero, List.set_cons_succ]
  refine anyF_last (i := 7) (by rfl) (by kernel_rfl) (by kernel_rfl) ?_
  intro K7 hK7
  have hKs7 := hid hK7; clear hK7
  go_simp
  refine hKs7.out _ _ (by exact trivial) ?_
  clear hKs7 K7
  refine anyF_done (by kernel_rfl) (NoPanic.normal ?_) _
  go_wp2_with fail
  go_ret
  exact ⟨rfl, _, rfl⟩

end Go.Proofs.Ytodbnmigdnmjnaa
