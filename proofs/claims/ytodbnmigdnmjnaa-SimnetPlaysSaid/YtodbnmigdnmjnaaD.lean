/- put: a message is laid behind those that wait -/
import Derived.Test.YtodbnmigdnmjnaaC
import Derived.Test.YtodbnmigdnmjnaaA1
import Derived.Deep.RegionLaw
namespace Go.Proofs.Ytodbnmigdnmjnaa
open Go.RowKit

set_option maxRecDepth 100000 in
set_option maxHeartbeats 1600000 in
theorem put_ok (g : Nat) (i room : Int) (A : Option Addr) (n c : Nat) (vs : List Value) (b : Value) (bs : List Int) (w : World)
    (h0 : 0 ≤ i) (h1 : i < 2) (hroom : w.cell? ⟨g, 0, none⟩ = some (.int .i64 room)) (hq : w.cell? ⟨g, 1 + i.toNat, none⟩ = some (.slice A n c)) (hcut : w.cell? ⟨g, 3, none⟩ = some (.bool false))
    (hfr : w.frozen? ⟨g, 1 + i.toNat, none⟩ = false) (hrow : Row w 28 1 (.slice A n c) vs) (hqg : some g ≠ (Value.slice A n c).ownBlock)
    (hb : Src w 1 b (nums bs)) (hbl : bs.length ≤ 60000) (hn : (n : Int) < room) (hr1 : room ≤ 1000) :
    Calls Try.prog 24 #[.pointer (some ⟨g, 0, none⟩), .int .i64 i, b] w fun e w' => e = .returned (.int .i64 0) ∧ ∃ v q' w2, w' = w2.setCell ⟨g, 1 + i.toNat, none⟩ q' ∧
      Row w2 5 1 v (nums bs) ∧ Row w2 28 1 q' (vs ++ [v]) ∧ w.grownBy w2 (Value.slice A n c).ownBlock ∧ (∀ k, v.ownBlock = some k → w.heap.size ≤ k) ∧ (q'.ownBlock = (Value.slice A n c).ownBlock ∨ ∃ k, q'.ownBlock = some k ∧ w.heap.size ≤ k) := by
  obtain ⟨i0, hi, hz0, hz1, hz2⟩ := info_parts info28
  have lg := World.block_lt_of_cell? w _ hq
  obtain ⟨bA, bn, bc, rfl, hbn, _, _, _⟩ := id hb
  obtain rfl : bn = bs.length := by have := nums_length bs; omega
  clear hbn
  have g1 : decide ((bs.length : Int) > 60000) = false := by simp; omega
  have g2 : decide ((n : Int) ≥ room) = false := by simp; omega
  obtain rfl : vs.length = n := by obtain ⟨_, _, _, hv, hl, _⟩ := id hrow; cases hv; omega
  have hc1 : vs.length + 1 ≤ maxLen := by simp only [maxLen]; omega
  have hc2 : (vs.length + 1) * 24 ≤ 140737488355328 := by omega
  go_enter Try.func24, Try.ntmps24
  go_wp2_with (go_at_call 27; refine (at_in _ _ _ h0 h1).mono ?_; rintro e w' ⟨rfl, rfl⟩)
  go_quiet (fail)
  go_wp2_with fail
  go_region_law (first | (refine step_call (by rfl) 44 _ _ (by rfl) Try.func44 (by kernel_rfl) (by kernel_rfl) [.slice bA bs.length bc] (by rfl) (clone_any _ bs _ (by exact hb.keep (fun _ _ _ => rfl)) (by omega)) ?_; rintro e w1 ⟨vA, vn, vc, rfl, hr, hbel, hfresh⟩; replace hbel : Below w.heap.size w w1 := ⟨hbel.os, hbel.tape, hbel.output, hbel.size, hbel.block⟩; refine ⟨_, rfl, ?_⟩; have hq1 : w1.cell? ⟨g, 1 + i.toNat, none⟩ = some (.slice A vs.length c) := (hbel.cell (p := ⟨g, 1 + i.toNat, none⟩) lg).trans hq; have hq1a : ∀ o, (w1.alloc o).cell? ⟨g, 1 + i.toNat, none⟩ = some (.slice A vs.length c) := fun o => cellA hq1 o) | (have hB : Below w.heap.size w (w1.alloc (.cells #[.slice vA vn vc] 28 (0, 0))) := hbel.alloc hbel.size _; refine step_append_row _ (by rfl) _ _ 22 (by rfl) 28 i0 (.slice none 0 0) 1 24 Try.underlying22 hi hz0 hz1 hz2 rfl (by decide) (.slice A vs.length c) vs (by rfl) (hrow.below hB) (.slice (some ⟨w1.heap.size, 0, none⟩) 1 1) [.slice vA vn vc] (by rfl) (Src.one (heap_alloc_new _ _)) (by simp [Value.oneCell']) hc1 hc2 ?_; intro qA qn qc w2 hrow2 hgrow hat; have hfz : w2.frozen? ⟨g, 1 + i.toNat, none⟩ = false := ((hgrow.frozen_far ⟨g, 1 + i.toNat, none⟩ (Nat.lt_of_lt_of_le lg hB.size) hqg).trans (hB.frozen (p := ⟨g, 1 + i.toNat, none⟩) lg)).trans hfr; have hq2 : w2.cell? ⟨g, 1 + i.toNat, none⟩ = some (.slice A vs.length c) := ((hgrow.cell_far ⟨g, 1 + i.toNat, none⟩ (Nat.lt_of_lt_of_le lg hB.size) hqg).trans (hB.cell (p := ⟨g, 1 + i.toNat, none⟩) lg)).trans hq) | fail)
  all_goals
    clear hfz hq2
    go_wp2_with fail
    go_ret
    refine ⟨rfl, .slice vA vn vc, .slice qA qn qc, w2, rfl, ?_, hrow2, ?_, hfresh, ?_⟩
    · refine (hr.keep (fun k hk => Below.heap_alloc w1 _ _ (hr.lt k hk))).keep fun k hk => hgrow.block k ?_ ?_
      · have := hr.lt k hk; simp; omega
      · intro e
        have h1 : w.heap.size ≤ k := hfresh k hk
        have h2 := hrow.lt k e.symm
        omega
    · exact ⟨hgrow.os.trans hB.os, hgrow.tape.trans hB.tape, hgrow.output.trans hB.output, Nat.le_trans hB.size hgrow.size, fun k hk hr => (hgrow.block k (Nat.lt_of_lt_of_le hk hB.size) hr).trans (hB.block k hk)⟩
    · rcases hat with h | h
      · exact .inl h
      · exact .inr ⟨_, h, hB.size⟩

end Go.Proofs.Ytodbnmigdnmjnaa
