/- which texts are parts: the package's -/
import Derived.Test.YtfoedcmcdpekoaaDoorT1
import Derived.Laws.RangeString
import Derived.Laws.RangeAny
import Derived.Laws.EntriesVeiled
import Derived.Lib.OthersKept
namespace Go.Proofs.YtfoedcmcdpekoaaDoor
open Go.RowKit

set_option maxHeartbeats 400000 in
theorem odd_rune (x : Int) (w : World) : Calls Tryd.prog 37 #[.int .i32 x] w fun e w' => e = .returned (.bool (decide (x < 33) || decide (x > 126) || x == 47)) ∧ w = w' := by
  by_cases c1 : x < 33
  · have d1 : decide (x < 33) = true := decide_eq_true c1
    go_enter Tryd.func37, Tryd.ntmps37
    go_wp2_with fail
    go_ret
    exact ⟨by rw [d1]; rfl, rfl⟩
  have d1 : decide (x < 33) = false := decide_eq_false c1
  by_cases c2 : x > 126
  · have d2 : decide (x > 126) = true := decide_eq_true c2
    go_enter Tryd.func37, Tryd.ntmps37
    go_wp2_with fail
    go_ret
    exact ⟨rfl, rfl⟩
  have d2 : decide (x > 126) = false := decide_eq_false c2
  go_enter Tryd.func37, Tryd.ntmps37
  go_wp2_with fail
  go_ret
  exact ⟨rfl, rfl⟩

theorem any_of_at {s : ByteArray} {j : Nat} (hj : j < s.size) (h : oddB s[j] = true) : s.toList.any oddB = true :=
  List.any_eq_true.2 ⟨s[j], List.mem_of_getElem? (str_get s j hj), h⟩
theorem any_next {s : ByteArray} {j : Nat} (hj : j < s.size) (h : oddB s[j] = false) (ht : (s.toList.take j).any oddB = false) : (s.toList.take (j + 1)).any oddB = false := by
  rw [List.take_add_one, str_get s j hj, List.any_append, ht]
  simp [h]

set_option maxRecDepth 100000 in
set_option maxHeartbeats 800000 in
theorem index_odd (s : ByteArray) (w : World) : Calls Tryd.prog 72 #[.string s, .func (.func 37) #[] #[], .bool true] w fun e w' => (∃ r : Int, e = .returned (.int .i64 r) ∧ decide (r ≥ 0) = s.toList.any oddB) ∧ Below w.heap.size w w' := by
  go_enter Tryd.func72, Tryd.ntmps72
  go_wp2_with fail
  go_loopg [] s.size (fun k wr => ∃ j : Nat, j ≤ s.size ∧ k = s.size - j ∧ wr.heap[w.heap.size]? = some (.stringIter s j) ∧ Below w.heap.size w wr ∧ (s.toList.take j).any oddB = false)
  case atStart => exact ⟨0, Nat.zero_le _, rfl, World.iter_heap w s 0, (Below.refl _ w).alloc (Nat.le_refl _) _, by simp⟩
  case round =>
    obtain ⟨j, hj, rfl, hit, hb, ht⟩ := hrel
    by_cases hlt : j < s.size
    · have hit2 := fun p => Lib.iterAt_heap wr w.heap.size s j p hit
      have hb2 := fun p => Lib.below_iterAt hb (k := w.heap.size) (Nat.le_refl _) s p
      by_cases ha : (s[j]'hlt).toNat < 128
      · have hnx : ∀ ty, (Instr.next (.pointer (some ⟨w.heap.size, 0, none⟩)) true ty).run Tryd.prog wr = _ := fun ty => Lib.run_next_ascii_at wr w.heap.size s j ty hit hlt ha
        have hit3 := hit2 (j + 1)
        have hb3 := hb2 (j + 1)
        clear hit2 hb2
        generalize wr.iterAt w.heap.size s (j + 1) = W at hnx hit3 hb3
        have H := odd_rune ((s[j]'hlt).toNat : Int) W
        cases ho : oddB s[j]
        · have ho' : (decide (((s[j]'hlt).toNat : Int) < 33) || decide (((s[j]'hlt).toNat : Int) > 126) || ((s[j]'hlt).toNat : Int) == 47) = false := ho
          rw [ho'] at H
          have HH := hid H
          clear H ho'
          go_wp2_with (refine HH.out.mono ?_; rintro e w' ⟨rfl, rfl⟩)
          go_roundg (s.size - (j + 1))
          case measure => omega
          case rel => exact ⟨j + 1, by omega, rfl, hit3, hb3, any_next hlt ho ht⟩
        · have ho' : (decide (((s[j]'hlt).toNat : Int) < 33) || decide (((s[j]'hlt).toNat : Int) > 126) || ((s[j]'hlt).toNat : Int) == 47) = true := ho
          rw [ho'] at H
          have HH := hid H
          clear H ho'
          go_wp2_with (refine HH.out.mono ?_; rintro e w' ⟨rfl, rfl⟩)
          go_ret
          exact ⟨⟨_, rfl, by rw [any_of_at hlt ho]; simp⟩, hb3⟩
      · obtain ⟨hh1, hh2⟩ := decode_high s j hlt (by omega)
        have hnx : ∀ ty, (Instr.next (.pointer (some ⟨w.heap.size, 0, none⟩)) true ty).run Tryd.prog wr = _ := fun ty => Lib.run_next_any_at wr w.heap.size s j ty hit hlt
        have ho : oddB s[j] = true := by unfold oddB; rw [decide_eq_true (show ((s[j].toNat : Int) > 126) by omega)]; simp
        have hit3 := hit2 (j + (Utf8.decode s j).2)
        have hb3 := hb2 (j + (Utf8.decode s j).2)
        clear hit2 hb2
        generalize wr.iterAt w.heap.size s (j + (Utf8.decode s j).2) = W at hnx hit3 hb3
        generalize (Utf8.decode s j).1 = R at hnx hh1
        have H := odd_rune (R : Int) W
        have ho' : (decide ((R : Int) < 33) || decide ((R : Int) > 126) || (R : Int) == 47) = true := by rw [decide_eq_true (show (R : Int) > 126 by omega)]; simp
        rw [ho'] at H
        have HH := hid H
        clear H ho'
        go_wp2_with (refine HH.out.mono ?_; rintro e w' ⟨rfl, rfl⟩)
        go_ret
        exact ⟨⟨_, rfl, by rw [any_of_at hlt ho]; simp⟩, hb3⟩
    · obtain rfl : j = s.size := by omega
      have hnx : ∀ ty, (Instr.next (.pointer (some ⟨w.heap.size, 0, none⟩)) true ty).run Tryd.prog wr = _ := fun ty => Lib.run_next_end_at wr w.heap.size s s.size ty hit hlt
      go_wp2_with fail
      go_ret
      rw [← str_len s, List.take_length] at ht
      exact ⟨⟨_, rfl, by rw [ht]; rfl⟩, hb⟩

set_option maxHeartbeats 400000 in
theorem contains_odd (s : ByteArray) (w : World) : Calls Tryd.prog 38 #[.string s, .func (.func 37) #[] #[]] w fun e w' => e = .returned (.bool (s.toList.any oddB)) ∧ Below w.heap.size w w' := by
  have H : Calls Tryd.prog 60 #[.string s, .func (.func 37) #[] #[]] w fun e w' => (∃ r : Int, e = .returned (.int .i64 r) ∧ decide (r ≥ 0) = s.toList.any oddB) ∧ Below w.heap.size w w' := by
    have H := hid (index_odd s w)
    go_enter Tryd.func60, Tryd.ntmps60
    go_wp2_with fail
    refine H.out.mono ?_
    rintro e w' ⟨⟨r, rfl, hr⟩, hb⟩
    have hr := hid hr
    go_wp2_with fail
    go_ret
    exact ⟨⟨r, rfl, hr.out⟩, hb⟩
  have H := hid H
  go_enter Tryd.func38, Tryd.ntmps38
  go_wp2_with fail
  refine H.out.mono ?_
  rintro e w' ⟨⟨r, rfl, hr⟩, hb⟩
  go_wp2_with fail
  go_ret
  exact ⟨by rw [← hr]; rfl, hb⟩

theorem part_any (l : List UInt8) : partB l = (decide (1 ≤ l.length) && decide (l.length ≤ 20) && !(l == [46]) && !(l == [46, 46]) && !(l.any oddB)) := by
  unfold partB
  congr 1
  rw [List.not_any_eq_all_not]

set_option maxHeartbeats 800000 in
theorem part_walk (s : ByteArray) (w : World) : Calls Tryd.prog 11 #[.string s] w fun e w' => e = .returned (.bool (partB s.toList)) ∧ Below w.heap.size w w' := by
  have hl := str_len s
  rw [part_any, hl]
  by_cases h1 : s.toList = []
  · have g1 : (s.toList != []) = false := by simp [h1]
    have g1' : (s.toList == []) = true := by simp [h1]
    have h0 : s.size = 0 := by rw [← hl, h1]; rfl
    go_enter Tryd.func11, Tryd.ntmps11
    go_wp2_with fail
    go_ret
    exact ⟨by simp [h0], Below.refl _ _⟩
  have g1 : (s.toList != []) = true := by simp [h1]
  have g1' : (s.toList == []) = false := by simp [h1]
  have h0 : 1 ≤ s.size := by
    rcases Nat.eq_zero_or_pos s.size with h | h
    · rw [h] at hl; exact absurd (List.eq_nil_of_length_eq_zero hl) h1
    · exact h
  have k0 : decide (1 ≤ s.size) = true := decide_eq_true h0
  by_cases h2 : s.size ≤ 20
  case neg =>
    have g2 : decide ((s.size : Int) ≤ 20) = false := decide_eq_false (by omega)
    have k2 : decide (s.size ≤ 20) = false := decide_eq_false h2
    go_enter Tryd.func11, Tryd.ntmps11
    go_wp2_with fail
    go_ret
    exact ⟨by rw [k2]; simp, Below.refl _ _⟩
  have g2 : decide ((s.size : Int) ≤ 20) = true := decide_eq_true (by omega)
  have k2 : decide (s.size ≤ 20) = true := decide_eq_true h2
  by_cases h3 : s.toList = [46]
  · have g3 : (s.toList != [46]) = false := by simp [h3]
    have g3' : (s.toList == [46]) = true := by simp [h3]
    go_enter Tryd.func11, Tryd.ntmps11
    go_wp2_with fail
    go_ret
    exact ⟨by rw [g3']; simp, Below.refl _ _⟩
  have g3 : (s.toList != [46]) = true := by simp [h3]
  have g3' : (s.toList == [46]) = false := by simp [h3]
  by_cases h4 : s.toList = [46, 46]
  · have g4 : (s.toList != [46, 46]) = false := by simp [h4]
    have g4' : (s.toList == [46, 46]) = true := by simp [h4]
    go_enter Tryd.func11, Tryd.ntmps11
    go_wp2_with fail
    go_ret
    exact ⟨by rw [g4']; simp, Below.refl _ _⟩
  have g4 : (s.toList != [46, 46]) = true := by simp [h4]
  have g4' : (s.toList == [46, 46]) = false := by simp [h4]
  have H := hid (contains_odd s w)
  rw [k0, k2, g3', g4']
  go_enter Tryd.func11, Tryd.ntmps11
  go_wp2_with fail
  refine H.out.mono ?_
  rintro e w' ⟨rfl, hb⟩
  go_wp2_with fail
  go_ret
  exact ⟨by simp, hb⟩

end Go.Proofs.YtfoedcmcdpekoaaDoor
