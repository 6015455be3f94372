/- Recv -/
import Derived.Test.YtodbnmigdnmjnaaE
import Derived.BigRegion
namespace Go.Proofs.Ytodbnmigdnmjnaa
open Go.RowKit

/-- q[1:] -/
def tailOf (a : Addr) (n c : Nat) : Value := .slice (if c = 1 then some a else some (a.add 1)) (n - 1) (c - 1)

theorem recv1_end {g k B t : Nat} {cs : Array Value} {x v q q' : Value} {w : World} (hg : w.heap[g]? = some (.cells cs t (0, 0))) (hB : w.heap[B]? = some (.cells #[x] 28 (0, 0))) (hgB : g ≠ B) (hq : q = q') :
    ((w.setCell ⟨B, 0, none⟩ v).setCell ⟨g, 1 + k, none⟩ q).drew.heap[g]? = some (.cells (cs.setIfInBounds (1 + k) q') t (0, 0)) ∧
    ((w.setCell ⟨B, 0, none⟩ v).setCell ⟨g, 1 + k, none⟩ q).drew.heap[B]? = some (.cells #[v] 28 (0, 0)) ∧ Keep (fun i => i ≠ g ∧ i ≠ B) w ((w.setCell ⟨B, 0, none⟩ v).setCell ⟨g, 1 + k, none⟩ q).drew := by
  subst hq
  refine ⟨blkSet (blkFar hg hgB v) _ _, blkFar (blkSet hB 0 v) (Ne.symm hgB) _, ?_⟩
  exact (((Keep.refl _ w).setCell (p := ⟨B, 0, none⟩) (.inl (by simp)) v).setCell (p := ⟨g, 1 + k, none⟩) (.inl (by simp)) q).drew

set_option maxRecDepth 100000 in
set_option maxHeartbeats 1600000 in
theorem recv1_any (g k B qb off n c t : Nat) (vA : Option Addr) (vn vc : Nat) (cs : Array Value) (x : Value) (w : World) (hg : w.heap[g]? = some (.cells cs t (0, 0))) (hB : w.heap[B]? = some (.cells #[x] 28 (0, 0))) (hgB : g ≠ B)
    (hq : cs[1 + k]? = some (.slice (some ⟨qb, off, none⟩) n c)) (hn : 1 ≤ n) (hc : n ≤ c) (he : w.cell? ⟨qb, off, none⟩ = some (.slice vA vn vc)) (hcm : c ≤ 9223372036854775807) :
    Calls Try.prog 29 #[.pointer (some ⟨g, 1 + k, none⟩), .pointer (some ⟨B, 0, none⟩)] w fun e w' => e = .returned (.bool true) ∧
      w'.heap[g]? = some (.cells (cs.setIfInBounds (1 + k) (tailOf ⟨qb, off, none⟩ n c)) t (0, 0)) ∧ w'.heap[B]? = some (.cells #[.slice vA vn vc] 28 (0, 0)) ∧ Keep (fun i => i ≠ g ∧ i ≠ B) w w' := by
  have cg : w.cell? ⟨g, 1 + k, none⟩ = some (.slice (some ⟨qb, off, none⟩) n c) := (blkCell hg _).trans hq
  have fg := blkFree hg (1 + k)
  have cB : w.cell? ⟨B, 0, none⟩ = some x := (blkCell hB 0).trans rfl
  have fB := blkFree hB 0
  have l1 : (0 : Int) ≤ 1 := by omega
  have l2 : (1 : Int) ≤ (n : Int) := by omega
  have l3 : (n : Int) ≤ (c : Int) := by omega
  have l4 : (0 : Int) < (n : Int) := by omega
  have hBg : B ≠ g := Ne.symm hgB
  by_cases h1 : c = 1
  · subst h1
    obtain rfl : n = 1 := by omega
    go_enter Try.func29, Try.ntmps29
    go_wp2_with fail
    go_region
    all_goals
      go_wp2_with fail
      go_ret
      exact ⟨rfl, recv1_end hg hB hgB rfl⟩
  · have h2 : (c = 1) = False := by simpa using h1
    go_enter Try.func29, Try.ntmps29
    go_wp2_with fail
    go_region
    all_goals
      go_wp2_with fail
      go_ret
      exact ⟨rfl, recv1_end hg hB hgB (by simp [tailOf, h1, add_lit'])⟩

set_option maxRecDepth 100000 in
set_option maxHeartbeats 1600000 in
theorem recv_some (g qb off n c t : Nat) (i : Int) (vA : Option Addr) (vn vc : Nat) (cs : Array Value) (w : World) (h0 : 0 ≤ i) (h1 : i < 2) (hg : w.heap[g]? = some (.cells cs t (0, 0)))
    (hq : cs[1 + i.toNat]? = some (.slice (some ⟨qb, off, none⟩) n c)) (hn : 1 ≤ n) (hc : n ≤ c) (he : w.cell? ⟨qb, off, none⟩ = some (.slice vA vn vc)) (hcm : c ≤ 9223372036854775807) :
    Calls Try.prog 12 #[.pointer (some ⟨g, 0, none⟩), .int .i64 i] w fun e w' => e = .returned (.tuple #[.slice vA vn vc, .bool true]) ∧
      w'.heap[g]? = some (.cells (cs.setIfInBounds (1 + i.toNat) (tailOf ⟨qb, off, none⟩ n c)) t (0, 0)) ∧ Keep (fun k => k ≠ g) w w' := by
  have hmf := mkf
  have lg := blkLt hg
  have hgw : g ≠ w.heap.size := by omega
  have hg1 : (w.alloc (.cells #[.slice none 0 0] 28 (0, 0))).heap[g]? = some (.cells cs t (0, 0)) := (Below.heap_alloc w _ g lg).trans hg
  have cq : (w.alloc (.cells #[.slice none 0 0] 28 (0, 0))).cell? ⟨g, 1 + i.toNat, none⟩ = some (.slice (some ⟨qb, off, none⟩) n c) := (blkCell hg1 _).trans hq
  have H := do_some g i 0 (some ⟨qb, off, none⟩) n c 29 Try.f29 [.pointer (some ⟨w.heap.size, 0, none⟩)] _ true (w.alloc (.cells #[.slice none 0 0] 28 (0, 0))) h0 h1 cq (by omega) (by omega) Try.func29 (by kernel_rfl) (by kernel_rfl)
    (recv1_any g i.toNat w.heap.size qb off n c t vA vn vc cs (.slice none 0 0) _ hg1 (heap_alloc_new w _) hgw hq hn hc (cellA he _) hcm)
  have HH := hid H
  clear H cq hmf hg1
  have hmf := mkf
  go_enter Try.func12, Try.ntmps12
  go_wp2_with (go_at_call 28; refine HH.out.mono ?_; rintro e w' ⟨rfl, hga, hBa, hk⟩; have cB : w'.cell? ⟨w.heap.size, 0, none⟩ = some (.slice vA vn vc) := (blkCell hBa 0).trans rfl; have fB := blkFree hBa 0)
  refine bodyPost_ret (v := .tuple #[.slice vA vn vc, .bool true]) (by simp [results, Try.results12, go_sem, cB]) rfl ⟨rfl, ?_, ?_⟩
  · exact blkFar hga hgw _
  · exact (Keep.overNew (R := fun k => k ≠ g) hk).setCell (p := ⟨w.heap.size, 0, none⟩) (.inr (Nat.le_refl _)) _

end Go.Proofs.Ytodbnmigdnmjnaa
