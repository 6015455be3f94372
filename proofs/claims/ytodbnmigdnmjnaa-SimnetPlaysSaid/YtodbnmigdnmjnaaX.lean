/- the reference's put, Send, Forge, Recv, Cut -/
import Derived.Test.YtodbnmigdnmjnaaV
import Derived.StillTailTactics
namespace Go.Proofs.Ytodbnmigdnmjnaa
open Go.RowKit

theorem Below.grownNew {B : Nat} {w a b : World} {row : Option Nat} (h : Below B w a) (hg : a.grownBy b row) (hB : B ≤ a.heap.size) (hr : ∀ k, row = some k → B ≤ k) : Below B w b :=
  ⟨hg.os.trans h.os, hg.tape.trans h.tape, hg.output.trans h.output, Nat.le_trans h.size hg.size, fun k hk => (hg.block k (Nat.lt_of_lt_of_le hk hB) (fun e => by have := hr k e.symm; omega)).trans (h.block k hk)⟩
theorem fresh_of {B n : Nat} {v : Value} {row : Option Nat} (ha : v.ownBlock = row ∨ v.ownBlock = some n) (hr : ∀ k, row = some k → B ≤ k) (hn : B ≤ n) : ∀ k, v.ownBlock = some k → B ≤ k := by
  intro k hk
  rcases ha with h | h
  · exact hr k (h.symm.trans hk)
  · rw [h] at hk; cases hk; exact hn

set_option maxRecDepth 100000 in
set_option maxHeartbeats 1600000 in
theorem rput_too (g : Nat) (i room : Int) (A : Option Addr) (n c : Nat) (bA : Option Addr) (bn bc : Nat) (w : World)
    (h0 : 0 ≤ i) (h1 : i < 2) (hroom : w.cell? ⟨g, 0, none⟩ = some (.int .i64 room)) (hq : w.cell? ⟨g, 1 + i.toNat, none⟩ = some (.slice A n c)) (hbad : 60000 < bn ∨ room ≤ n) :
    Calls Try.prog 48 #[.pointer (some ⟨g, 0, none⟩), .int .i64 i, .slice bA bn bc] w fun e w' => e = .returned (.int .i64 2) ∧ ∃ n, w.drewN n = w' := by
  by_cases hb : 60000 < bn
  · have g1 : decide ((bn : Int) > 60000) = true := by simp; omega
    clear hbad
    go_enter Try.func48, Try.ntmps48
    go_wp2_with fail
    go_quiet (fail)
    go_wp2_with fail
    go_ret
    exact ⟨rfl, _, rfl⟩
  · have g1 : decide ((bn : Int) > 60000) = false := by simp; omega
    have g2 : decide ((n : Int) ≥ room) = true := by simp; omega
    clear hbad
    go_enter Try.func48, Try.ntmps48
    go_wp2_with fail
    go_quiet (fail)
    go_wp2_with fail
    go_ret
    exact ⟨rfl, _, rfl⟩

set_option maxRecDepth 100000 in
set_option maxHeartbeats 1600000 in
theorem rput_ok (g : Nat) (i room : Int) (A : Option Addr) (n c : Nat) (vs : List Value) (b : Value) (bs : List Int) (w : World)
    (h0 : 0 ≤ i) (h1 : i < 2) (hroom : w.cell? ⟨g, 0, none⟩ = some (.int .i64 room)) (hq : w.cell? ⟨g, 1 + i.toNat, none⟩ = some (.slice A n c)) (hfr : w.frozen? ⟨g, 1 + i.toNat, none⟩ = false)
    (hrow : Row w 28 1 (.slice A n c) vs) (hs : ∀ v ∈ vs, ∃ A n c, v = .slice A n c) (hb : Src w 1 b (nums bs)) (hbl : bs.length ≤ 60000) (hn : (n : Int) < room) (hr1 : room ≤ 1000) :
    Calls Try.prog 48 #[.pointer (some ⟨g, 0, none⟩), .int .i64 i, b] w fun e w' => e = .returned (.int .i64 0) ∧ ∃ v q' w2, w' = w2.setCell ⟨g, 1 + i.toNat, none⟩ q' ∧
      Row w2 5 1 v (nums bs) ∧ Row w2 28 1 q' (vs ++ [v]) ∧ Below w.heap.size w w2 ∧ (∀ k, v.ownBlock = some k → w.heap.size ≤ k) ∧ (∀ k, q'.ownBlock = some k → w.heap.size ≤ k) := by
  obtain ⟨i0, hi, hz0, hz1, hz2⟩ := info_parts info28
  obtain ⟨j0, hj, hy0, hy1, hy2⟩ := info_parts info5
  have lg := World.block_lt_of_cell? w _ hq
  obtain ⟨bA, bn, bc, rfl, hbn, _⟩ := id hb
  obtain rfl : bn = bs.length := hb.len
  clear hbn
  have g1 : decide ((bs.length : Int) > 60000) = false := by simp; omega
  have g2 : decide ((n : Int) ≥ room) = false := by simp; omega
  obtain rfl : n = vs.length := by obtain ⟨_, _, _, hv, hl, _⟩ := id hrow; cases hv; omega
  have o1 := slices_one hs
  have hc1 : ([] : List Value).length + vs.length ≤ maxLen := by simp only [List.length_nil, maxLen]; omega
  have hc2 : (([] : List Value).length + vs.length) * 24 ≤ 140737488355328 := by simp only [List.length_nil]; omega
  have hd1 : ([] : List Value).length + (nums bs).length ≤ maxLen := by simp only [List.length_nil, nums_length, maxLen]; omega
  have hd2 : (([] : List Value).length + (nums bs).length) * 1 ≤ 140737488355328 := by simp only [List.length_nil, nums_length]; omega
  have hc3 : (([] : List Value) ++ vs).length + 1 ≤ maxLen := by simp only [List.nil_append, maxLen]; omega
  have hc4 : ((([] : List Value) ++ vs).length + 1) * 24 ≤ 140737488355328 := by simp only [List.nil_append]; omega
  go_enter Try.func48, Try.ntmps48
  go_wp2_with fail
  go_quiet (fail)
  go_wp2_with (at_builtin; refine wpList_append_row _ rfl _ _ 22 rfl 28 i0 (.slice none 0 0) 1 24 Try.underlying22 hi hz0 hz1 hz2 rfl (by decide) (.slice none 0 0) [] rfl (Row.nil _ _ _) (.slice A vs.length c) vs rfl (hrow.src.keep fun _ _ _ => rfl) o1 hc1 hc2 ?_; intro pA pn pc w1 hr1' hg1 ha1)
  replace hg1 : Below w.heap.size w w1 := ⟨hg1.os, hg1.tape, hg1.output, hg1.size, fun k hk => hg1.block k hk (by simp [Value.ownBlock])⟩
  have hf1 : ∀ k, (Value.slice pA pn pc).ownBlock = some k → w.heap.size ≤ k := by
    rcases ha1 with h | h
    · intro k hk; rw [h] at hk; simp [Value.ownBlock] at hk
    · intro k hk; rw [h] at hk; cases hk; exact Nat.le_refl _
  clear ha1
  have fr1 : w1.frozen? ⟨g, 1 + i.toNat, none⟩ = false := (hg1.frozen (p := ⟨g, 1 + i.toNat, none⟩) lg).trans hfr
  have q1 : w1.cell? ⟨g, 1 + i.toNat, none⟩ = some (.slice A vs.length c) := (hg1.cell (p := ⟨g, 1 + i.toNat, none⟩) lg).trans hq
  go_wp2_with fail
  go_region_law (first | (have hB1 : Below w.heap.size w (w1.alloc (.cells #[] 5 (0, 0))) := hg1.alloc hg1.size _; refine step_append_row _ (by rfl) _ _ 28 (by rfl) 5 j0 (.int .u8 0) 1 1 Try.underlying28 hj hy0 hy1 hy2 rfl (by decide) (.slice (some ⟨w1.heap.size, 0, none⟩) 0 0) [] (by rfl) ((Row.ofBlock (sz := 1) (n := 0) (heap_alloc_new w1 _) rfl (by decide)).keep fun _ _ => rfl) (.slice bA bs.length bc) (nums bs) (by rfl) ((hb.below hB1).keep fun _ _ _ => rfl) (nums_one bs) hd1 hd2 ?_; intro vA vn vc w2 hr2 hg2 ha2; replace hg2 : (w1.alloc (.cells #[] 5 (0, 0))).grownBy w2 (some w1.heap.size) := ⟨hg2.os, hg2.tape, hg2.output, hg2.size, hg2.block⟩; have hB2 : Below w.heap.size w w2 := Below.grownNew hB1 hg2 (by have := hg1.size; simp; omega) (by intro k hk; cases hk; exact hg1.size); have hf2 : ∀ k, (Value.slice vA vn vc).ownBlock = some k → w.heap.size ≤ k := fresh_of ha2 (by intro k hk; cases hk; exact hg1.size) (by have := hg1.size; simp; omega); have hr1 : Row w2 28 1 (.slice pA pn pc) ([] ++ vs) := (hr1'.keep fun k hk => Below.heap_alloc w1 _ _ (hr1'.lt k hk)).keep fun k hk => hg2.block k (by have := hr1'.lt k hk; simp; omega) (by have := hr1'.lt k hk; intro e; cases e; omega); clear hg2 ha2) | (have hB3 : Below w.heap.size w (w2.alloc (.cells #[.slice vA vn vc] 28 (0, 0))) := hB2.alloc hB2.size _; refine step_append_row _ (by rfl) _ _ 22 (by rfl) 28 i0 (.slice none 0 0) 1 24 Try.underlying22 hi hz0 hz1 hz2 rfl (by decide) (.slice pA pn pc) ([] ++ vs) (by rfl) (hr1.keep fun k hk => Below.heap_alloc w2 _ _ (hr1.lt k hk)) (.slice (some ⟨w2.heap.size, 0, none⟩) 1 1) [.slice vA vn vc] (by rfl) (Src.one (heap_alloc_new _ _)) (by simp [Value.oneCell']) hc3 hc4 ?_; intro qA qn qc w3 hrow3 hg3 ha3; have hr3 : Row w3 5 1 (.slice vA vn vc) ([] ++ nums bs) := (hr2.keep fun k hk => Below.heap_alloc w2 _ _ (hr2.lt k hk)).keep fun k hk => hg3.block k (by have := hr2.lt k hk; simp; omega) (by intro e; exact hr2.neRow hr1 (by decide) hk e.symm); have hB4 : Below w.heap.size w w3 := Below.grownNew hB3 hg3 (by have := hB2.size; simp; omega) (by intro k hk; exact hf1 k hk); have hf3 : ∀ k, (Value.slice qA qn qc).ownBlock = some k → w.heap.size ≤ k := fresh_of ha3 hf1 (by have := hB2.size; simp; omega); clear hg3 ha3; have q3 : w3.cell? ⟨g, 1 + i.toNat, none⟩ = some (.slice A vs.length c) := (hB4.cell (p := ⟨g, 1 + i.toNat, none⟩) lg).trans hq; have fr3 : w3.frozen? ⟨g, 1 + i.toNat, none⟩ = false := (hB4.frozen (p := ⟨g, 1 + i.toNat, none⟩) lg).trans hfr) | fail)
  all_goals
    go_wp2_with fail
    go_ret
    exact ⟨rfl, .slice vA vn vc, .slice qA qn qc, w3, rfl, hr3, hrow3, hB4, hf2, hf3⟩

end Go.Proofs.Ytodbnmigdnmjnaa
