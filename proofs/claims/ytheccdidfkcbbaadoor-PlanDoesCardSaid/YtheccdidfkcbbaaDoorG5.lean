/- slices.Backward at texts, for whatever rounds -/
import Derived.Test.YtheccdidfkcbbaaDoorG4
import Derived.Test.YtheccdidfkcbbaaDoorB6
import Derived.Test.YtheccdidfkcbbaaDoorR1
import Derived.Test.YtheccdidfkcbbaaDoorT5
namespace Go.Proofs.YtheccdidfkcbbaaDoor
open Go.RowKit Go.Shelf
attribute [local go_sem] Oper.semAt_some

set_option maxRecDepth 100000 in
set_option maxHeartbeats 2000000 in
theorem back_iter (n : Nat) (hn : 1 ≤ n) (l sB : Nat) (A : Option Addr) (c : Nat) (ps : List ByteArray) (hmax : ps.length ≤ 1000000) (J : List ByteArray → World → Prop)
    (hcell : ∀ pre W, J pre W → W.cell? ⟨sB, 0, none⟩ = some (.slice A ps.length c) ∧ Row W 9 1 (.slice A ps.length c) (ps.map .string))
    (hY : ∀ pre k W1 (hk : k < ps.length), J pre W1 → pre = (ps.drop (k + 1)).reverse → YieldAt Fence.wide (n - 1) Tryd.prog l #[.int .i64 k, .string ps[k]] W1 fun e W' => e = .returned (.bool true) ∧ J (pre ++ [ps[k]]) W')
    (W : World) (h0 : J [] W) :
    CallsIn Fence.wide n Tryd.prog 41 #[.func (.yield l) #[] #[], .pointer (some ⟨sB, 0, none⟩)] W fun e W' => (∃ v, e = .returned v) ∧ J ps.reverse W' := by
  obtain ⟨k1, k2⟩ := hcell [] W h0
  have hw0 : wrap64 ((ps.length : Int) - 1) = (ps.length : Int) - 1 := by unfold wrap64; omega
  refine callsIn_of_wp Tryd.func41 rfl trivial ?_ rfl
  simp only [Tryd.ntmps41, List.size_toArray, List.length_cons, List.length_nil, Nat.reduceAdd, Nat.reduceSub, Array.replicate_succ, Array.replicate_zero, List.push_toArray, List.append_toArray, List.nil_append, List.cons_append]
  gi_wp2
  gi_loopw [3] (fun i wr => ∃ k : Nat, k ≤ ps.length ∧ i = .int .i64 ((k : Int) - 1) ∧ J (ps.drop k).reverse wr) (fun i wr => (intOf i + 1).toNat)
  case atStart => exact ⟨ps.length, Nat.le_refl _, rfl, by rw [List.drop_length]; exact h0⟩
  case round =>
    clear k1 k2 hw0
    obtain ⟨k, hk, rfl, hJ⟩ := hrel
    obtain ⟨k1, k2⟩ := hcell _ wr hJ
    by_cases hk0 : k = 0
    · subst hk0
      have d0 : decide (((0 : Nat) : Int) - 1 ≥ 0) = false := by decide
      have hJ' : J ps.reverse wr := hJ
      have HJ := hid hJ'
      clear hJ hJ' hcell hY h0
      gi_wp2
      go_end0
      exact ⟨⟨_, rfl⟩, HJ.out⟩
    · obtain ⟨j, rfl⟩ : ∃ j, k = j + 1 := ⟨k - 1, by omega⟩
      have ej : (((j + 1 : Nat) : Int) - 1) = (j : Int) := by omega
      rw [ej]
      have d0 : decide ((j : Int) ≥ 0) = true := decide_eq_true (by omega)
      have i0 : (0 : Int) ≤ (j : Int) := by omega
      have i1 : (j : Int) < (ps.length : Int) := by omega
      have hlt : j < ps.length := by omega
      obtain ⟨ad, hA, c0⟩ := k2.at1 (i := j) (u := .string ps[j]) (by rw [List.getElem?_map, List.getElem?_eq_getElem hlt]; rfl)
      subst hA
      have hsp : ad.spot = none := by
        obtain ⟨A', n', c', hv, _, _, _, hh⟩ := k2
        cases hv
        rcases hh with ⟨h, _⟩ | ⟨b, off, cs, h, _⟩
        · cases h
        · cases h; rfl
      obtain ⟨b, off, sp⟩ := ad
      simp only at hsp
      subst hsp
      rw [add_lit'] at c0
      have hw1 : wrap64 ((j : Int) - 1) = (j : Int) - 1 := by unfold wrap64; omega
      obtain ⟨fn, tmps, assign, body, hy, hR⟩ := hY _ j wr hlt hJ rfl
      have hnx : (ps.drop (j + 1)).reverse ++ [ps[j]] = (ps.drop j).reverse := by rw [List.drop_eq_getElem_cons hlt, List.reverse_cons]
      have HN := hid hnx
      clear hcell hY h0 hJ k2 hnx ej
      gi_wp2
      refine hR.mono ?_
      rintro e W' ⟨rfl, hJ'⟩
      gi_wp2
      go_roundw
      case rel => exact ⟨j, by omega, rfl, by rw [← HN.out]; exact hJ'⟩
      case measure => simp [intOf]

theorem backward_walk (v : Value) (w : World) (hv : v.oneCell' = true) : Calls Tryd.prog 26 #[v] w fun e w' => e = .returned (.func (.func 41) #[] #[.pointer (some ⟨w.heap.size, 0, none⟩)]) ∧ w' = w.alloc (.cells #[v] 47 (0, 0)) := by
  go_enter Tryd.func26, Tryd.ntmps26
  go_wp2_with fail
  go_ret
  exact ⟨rfl, rfl⟩

end Go.Proofs.YtheccdidfkcbbaaDoor
