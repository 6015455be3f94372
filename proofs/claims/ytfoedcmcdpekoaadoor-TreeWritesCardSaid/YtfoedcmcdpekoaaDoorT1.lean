/- which texts are parts: the reference's -/
import Derived.Test.YtfoedcmcdpekoaaDoorB
import Derived.Deep.QuietTactic
import Derived.Deep.LoopGhost
import Derived.Laws.Strings
import Derived.Test.YtfoedcmcdpekoaaDoorChecked
namespace Go.Proofs.YtfoedcmcdpekoaaDoor
open Go.RowKit

/-- a byte that a part may not have -/
def oddB (b : UInt8) : Bool := decide ((b.toNat : Int) < 33) || decide ((b.toNat : Int) > 126) || ((b.toNat : Int) == 47)
def partB (l : List UInt8) : Bool := decide (1 ≤ l.length) && decide (l.length ≤ 20) && !(l == [46]) && !(l == [46, 46]) && l.all fun b => !oddB b

theorem str_len (s : ByteArray) : s.toList.length = s.size := by rw [ByteArray.toList_eq]; simp
theorem str_get (s : ByteArray) (j : Nat) (h : j < s.size) : s.toList[j]? = some s[j] := by
  rw [ByteArray.toList_eq]
  have : j < s.data.toList.length := by simpa using h
  rw [List.getElem?_eq_getElem this]
  rfl
theorem part_not {s : ByteArray} {j : Nat} (hj : j < s.size) (h : oddB s[j] = true) : partB s.toList = false := by
  unfold partB
  rw [Bool.and_eq_false_iff]
  exact .inr (List.all_eq_false.2 ⟨s[j], List.mem_of_getElem? (str_get s j hj), by simp [h]⟩)
theorem part_next {s : ByteArray} {j : Nat} (hj : j < s.size) (h : oddB s[j] = false) (ht : (s.toList.take j).all (fun b => !oddB b) = true) : (s.toList.take (j + 1)).all (fun b => !oddB b) = true := by
  rw [List.take_add_one, str_get s j hj, List.all_append, ht]
  simp [h]

set_option maxHeartbeats 800000 in
theorem refpart (s : ByteArray) (w : World) (h : s.size ≤ 140737488351232) : Calls Tryd.prog 12 #[.string s] w fun e w' => e = .returned (.bool (partB s.toList)) ∧ w = w' := by
  have hl := str_len s
  by_cases h1 : s.size < 1
  · have g1 : decide ((s.size : Int) < 1) = true := by simp; omega
    go_enter Tryd.func12, Tryd.ntmps12
    go_wp2_with fail
    go_ret
    exact ⟨by simp [partB, hl]; omega, rfl⟩
  have g1 : decide ((s.size : Int) < 1) = false := by simp; omega
  by_cases h2 : s.size > 20
  · have g2 : decide ((s.size : Int) > 20) = true := by simp; omega
    go_enter Tryd.func12, Tryd.ntmps12
    go_wp2_with fail
    go_ret
    exact ⟨by simp [partB, hl]; omega, rfl⟩
  have g2 : decide ((s.size : Int) > 20) = false := by simp; omega
  by_cases h3 : s.toList = [46]
  · have g3 : (s.toList == [46]) = true := by simp [h3]
    go_enter Tryd.func12, Tryd.ntmps12
    go_wp2_with fail
    go_ret
    exact ⟨by simp [partB, h3], rfl⟩
  have g3 : (s.toList == [46]) = false := by simp [h3]
  by_cases h4 : s.toList = [46, 46]
  · have g4 : (s.toList == [46, 46]) = true := by simp [h4]
    go_enter Tryd.func12, Tryd.ntmps12
    go_wp2_with fail
    go_ret
    exact ⟨by simp [partB, h4], rfl⟩
  have g4 : (s.toList == [46, 46]) = false := by simp [h4]
  go_enter Tryd.func12, Tryd.ntmps12
  go_wp2_with fail
  go_loopg [3] s.size (fun k i wr => ∃ j : Nat, j ≤ s.size ∧ k = s.size - j ∧ i = .int .i64 j ∧ wr = w ∧ (s.toList.take j).all (fun b => !oddB b) = true)
  case atStart => exact ⟨0, by omega, rfl, rfl, rfl, by simp⟩
  case round =>
    obtain ⟨j, hj, rfl, rfl, rfl, ht⟩ := hrel
    by_cases hlt : j < s.size
    · have i0 : (0 : Int) ≤ (j : Int) := by omega
      have i1 : (j : Int) < (s.size : Int) := by omega
      by_cases c1 : (s[j].toNat : Int) < 33
      · have d1 : decide ((s[j].toNat : Int) < 33) = true := decide_eq_true c1
        go_wp2_with fail
        go_ret
        exact ⟨by rw [part_not hlt (by simp [oddB, c1])]; rfl, rfl⟩
      have d1 : decide ((s[j].toNat : Int) < 33) = false := decide_eq_false c1
      by_cases c2 : (s[j].toNat : Int) > 126
      · have d2 : decide ((s[j].toNat : Int) > 126) = true := decide_eq_true c2
        go_wp2_with fail
        go_ret
        exact ⟨by rw [part_not hlt (by simp [oddB, d2])]; rfl, rfl⟩
      have d2 : decide ((s[j].toNat : Int) > 126) = false := decide_eq_false c2
      cases d3 : ((s[j].toNat : Int) == 47)
      · go_wp2_with fail
        go_roundg (s.size - (j + 1))
        case measure => omega
        case rel => exact ⟨j + 1, by omega, rfl, by go_num, rfl, part_next hlt (by simp [oddB, d1, d2, d3]) ht⟩
      · go_wp2_with fail
        go_ret
        exact ⟨by rw [part_not hlt (by simp [oddB, d3])]; rfl, rfl⟩
    · obtain rfl : j = s.size := by omega
      go_wp2_with fail
      go_ret
      rw [← hl, List.take_length] at ht
      exact ⟨by simp only [partB, ht, hl, g3, g4]; simp; omega, rfl⟩
end Go.Proofs.YtfoedcmcdpekoaaDoor
