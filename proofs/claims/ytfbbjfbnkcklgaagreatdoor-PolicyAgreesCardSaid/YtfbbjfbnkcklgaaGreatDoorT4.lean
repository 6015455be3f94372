/- which texts are parts: the reference's -/
import Derived.Test.YtfbbjfbnkcklgaaGreatDoorB
import Derived.Deep.QuietTactic
import Derived.Deep.LoopGhost
import Derived.Laws.Strings
import Derived.Test.YtfbbjfbnkcklgaaGreatDoorChecked
import Derived.Laws.RangeString
import Derived.Laws.RangeAny
import Derived.Laws.EntriesVeiled
import Derived.Lib.OthersKept
import Derived.Test.YtfbbjfbnkcklgaaGreatDoorB3
namespace Go.Proofs.YtfbbjfbnkcklgaaGreatDoor
open Go.RowKit

/-- a byte that a part may not have -/
def oddB (b : UInt8) : Bool := decide ((b.toNat : Int) < 33) || decide ((b.toNat : Int) > 126) || ((b.toNat : Int) == 47)
def partB (l : List UInt8) : Bool := decide (1 ≤ l.length) && decide (l.length ≤ 20) && !(l == [46]) && !(l == [46, 46]) && l.all fun b => !oddB b

theorem str_len (s : ByteArray) : s.toList.length = s.size := by rw [ByteArray.toList_eq]; simp
theorem str_get (s : ByteArray) (j : Nat) (h : j < s.size) : s.toList[j]? = some s[j] := by
  rw [ByteArray.toList_eq]
  have : j < s.data.toList.length := by simpa using h
  rw [List.getElem?_eq_getElem this]
  rfl
theorem part_not {s : ByteArray} {j : Nat} (hj : j < s.size) (h : oddB s[j] = true) : partB s.toList = false := by
  unfold partB
  rw [Bool.and_eq_false_iff]
  exact .inr (List.all_eq_false.2 ⟨s[j], List.mem_of_getElem? (str_get s j hj), by simp [h]⟩)
theorem part_next {s : ByteArray} {j : Nat} (hj : j < s.size) (h : oddB s[j] = false) (ht : (s.toList.take j).all (fun b => !oddB b) = true) : (s.toList.take (j + 1)).all (fun b => !oddB b) = true := by
  rw [List.take_add_one, str_get s j hj, List.all_append, ht]
  simp [h]

set_option maxHeartbeats 800000 in
theorem refpart (s : ByteArray) (w : World) (h : s.size ≤ 140737488351232) : Calls Tryz.prog 87 #[.string s] w fun e w' => e = .returned (.bool (partB s.toList)) ∧ w = w' := by
  have hl := str_len s
  by_cases h1 : s.size < 1
  · have g1 : decide ((s.size : Int) < 1) = true := by simp; omega
    go_enter Tryz.func87, Tryz.ntmps87
    go_wp2_with fail
    go_ret
    exact ⟨by simp [partB, hl]; omega, rfl⟩
  have g1 : decide ((s.size : Int) < 1) = false := by simp; omega
  by_cases h2 : s.size > 20
  · have g2 : decide ((s.size : Int) > 20) = true := by simp; omega
    go_enter Tryz.func87, Tryz.ntmps87
    go_wp2_with fail
    go_ret
    exact ⟨by simp [partB, hl]; omega, rfl⟩
  have g2 : decide ((s.size : Int) > 20) = false := by simp; omega
  by_cases h3 : s.toList = [46]
  · have g3 : (s.toList == [46]) = true := by simp [h3]
    go_enter Tryz.func87, Tryz.ntmps87
    go_wp2_with fail
    go_ret
    exact ⟨by simp [partB, h3], rfl⟩
  have g3 : (s.toList == [46]) = false := by simp [h3]
  by_cases h4 : s.toList = [46, 46]
  · have g4 : (s.toList == [46, 46]) = true := by simp [h4]
    go_enter Tryz.func87, Tryz.ntmps87
    go_wp2_with fail
    go_ret
    exact ⟨by simp [partB, h4], rfl⟩
  have g4 : (s.toList == [46, 46]) = false := by simp [h4]
  go_enter Tryz.func87, Tryz.ntmps87
  go_wp2_with fail
  go_loopg [3] s.size (fun k i wr => ∃ j : Nat, j ≤ s.size ∧ k = s.size - j ∧ i = .int .i64 j ∧ wr = w ∧ (s.toList.take j).all (fun b => !oddB b) = true)
  case atStart => exact ⟨0, by omega, rfl, rfl, rfl, by simp⟩
  case round =>
    obtain ⟨j, hj, rfl, rfl, rfl, ht⟩ := hrel
    by_cases hlt : j < s.size
    · have i0 : (0 : Int) ≤ (j : Int) := by omega
      have i1 : (j : Int) < (s.size : Int) := by omega
      by_cases c1 : (s[j].toNat : Int) < 33
      · have d1 : decide ((s[j].toNat : Int) < 33) = true := decide_eq_true c1
        go_wp2_with fail
        go_ret
        exact ⟨by rw [part_not hlt (by simp [oddB, c1])]; rfl, rfl⟩
      have d1 : decide ((s[j].toNat : Int) < 33) = false := decide_eq_false c1
      by_cases c2 : (s[j].toNat : Int) > 126
      · have d2 : decide ((s[j].toNat : Int) > 126) = true := decide_eq_true c2
        go_wp2_with fail
        go_ret
        exact ⟨by rw [part_not hlt (by simp [oddB, d2])]; rfl, rfl⟩
      have d2 : decide ((s[j].toNat : Int) > 126) = false := decide_eq_false c2
      cases d3 : ((s[j].toNat : Int) == 47)
      · go_wp2_with fail
        go_roundg (s.size - (j + 1))
        case measure => omega
        case rel => exact ⟨j + 1, by omega, rfl, by go_num, rfl, part_next hlt (by simp [oddB, d1, d2, d3]) ht⟩
      · go_wp2_with fail
        go_ret
        exact ⟨by rw [part_not hlt (by simp [oddB, d3])]; rfl, rfl⟩
    · obtain rfl : j = s.size := by omega
      go_wp2_with fail
      go_ret
      rw [← hl, List.take_length] at ht
      exact ⟨by simp only [partB, ht, hl, g3, g4]; simp; omega, rfl⟩
end Go.Proofs.YtfbbjfbnkcklgaaGreatDoor

/- which texts are parts: the package's -/
namespace Go.Proofs.YtfbbjfbnkcklgaaGreatDoor
open Go.RowKit

set_option maxHeartbeats 400000 in
theorem odd_rune (x : Int) (w : World) : Calls Tryz.prog 102 #[.int .i32 x] w fun e w' => e = .returned (.bool (decide (x < 33) || decide (x > 126) || x == 47)) ∧ w = w' := by
  by_cases c1 : x < 33
  · have d1 : decide (x < 33) = true := decide_eq_true c1
    go_enter Tryz.func102, Tryz.ntmps102
    go_wp2_with fail
    go_ret
    exact ⟨by rw [d1]; rfl, rfl⟩
  have d1 : decide (x < 33) = false := decide_eq_false c1
  by_cases c2 : x > 126
  · have d2 : decide (x > 126) = true := decide_eq_true c2
    go_enter Tryz.func102, Tryz.ntmps102
    go_wp2_with fail
    go_ret
    exact ⟨rfl, rfl⟩
  have d2 : decide (x > 126) = false := decide_eq_false c2
  go_enter Tryz.func102, Tryz.ntmps102
  go_wp2_with fail
  go_ret
  exact ⟨rfl, rfl⟩

theorem any_of_at {s : ByteArray} {j : Nat} (hj : j < s.size) (h : oddB s[j] = true) : s.toList.any oddB = true :=
  List.any_eq_true.2 ⟨s[j], List.mem_of_getElem? (str_get s j hj), h⟩
theorem any_next {s : ByteArray} {j : Nat} (hj : j < s.size) (h : oddB s[j] = false) (ht : (s.toList.take j).any oddB = false) : (s.toList.take (j + 1)).any oddB = false := by
  rw [List.take_add_one, str_get s j hj, List.any_append, ht]
  simp [h]

set_option maxRecDepth 100000 in
set_option maxHeartbeats 800000 in
theorem index_odd (s : ByteArray) (w : World) : Calls Tryz.prog 162 #[.string s, .func (.func 102) #[] #[], .bool true] w fun e w' => (∃ r : Int, e = .returned (.int .i64 r) ∧ decide (r ≥ 0) = s.toList.any oddB) ∧ Below w.heap.size w w' := by
  go_enter Tryz.func162, Tryz.ntmps162
  go_wp2_with fail
  go_loopg [] s.size (fun k wr => ∃ j : Nat, j ≤ s.size ∧ k = s.size - j ∧ wr.heap[w.heap.size]? = some (.stringIter s j) ∧ Below w.heap.size w wr ∧ (s.toList.take j).any oddB = false)
  case atStart => exact ⟨0, Nat.zero_le _, rfl, World.iter_heap w s 0, (Below.refl _ w).alloc (Nat.le_refl _) _, by simp⟩
  case round =>
    obtain ⟨j, hj, rfl, hit, hb, ht⟩ := hrel
    by_cases hlt : j < s.size
    · have hit2 := fun p => Lib.iterAt_heap wr w.heap.size s j p hit
      have hb2 := fun p => Lib.below_iterAt hb (k := w.heap.size) (Nat.le_refl _) s p
      by_cases ha : (s[j]'hlt).toNat < 128
      · have hnx : ∀ ty, (Instr.next (.pointer (some ⟨w.heap.size, 0, none⟩)) true ty).run Tryz.prog wr = _ := fun ty => Lib.run_next_ascii_at wr w.heap.size s j ty hit hlt ha
        have hit3 := hit2 (j + 1)
        have hb3 := hb2 (j + 1)
        clear hit2 hb2
        generalize wr.iterAt w.heap.size s (j + 1) = W at hnx hit3 hb3
        have H := odd_rune ((s[j]'hlt).toNat : Int) W
        cases ho : oddB s[j]
        · have ho' : (decide (((s[j]'hlt).toNat : Int) < 33) || decide (((s[j]'hlt).toNat : Int) > 126) || ((s[j]'hlt).toNat : Int) == 47) = false := ho
          rw [ho'] at H
          have HH := hid H
          clear H ho'
          go_wp2_with (refine HH.out.mono ?_; rintro e w' ⟨rfl, rfl⟩)
          go_roundg (s.size - (j + 1))
          case measure => omega
          case rel => exact ⟨j + 1, by omega, rfl, hit3, hb3, any_next hlt ho ht⟩
        · have ho' : (decide (((s[j]'hlt).toNat : Int) < 33) || decide (((s[j]'hlt).toNat : Int) > 126) || ((s[j]'hlt).toNat : Int) == 47) = true := ho
          rw [ho'] at H
          have HH := hid H
          clear H ho'
          go_wp2_with (refine HH.out.mono ?_; rintro e w' ⟨rfl, rfl⟩)
          go_ret
          exact ⟨⟨_, rfl, by rw [any_of_at hlt ho]; simp⟩, hb3⟩
      · obtain ⟨hh1, hh2⟩ := decode_high s j hlt (by omega)
        have hnx : ∀ ty, (Instr.next (.pointer (some ⟨w.heap.size, 0, none⟩)) true ty).run Tryz.prog wr = _ := fun ty => Lib.run_next_any_at wr w.heap.size s j ty hit hlt
        have ho : oddB s[j] = true := by unfold oddB; rw [decide_eq_true (show ((s[j].toNat : Int) > 126) by omega)]; simp
        have hit3 := hit2 (j + (Utf8.decode s j).2)
        have hb3 := hb2 (j + (Utf8.decode s j).2)
        clear hit2 hb2
        generalize wr.iterAt w.heap.size s (j + (Utf8.decode s j).2) = W at hnx hit3 hb3
        generalize (Utf8.decode s j).1 = R at hnx hh1
        have H := odd_rune (R : Int) W
        have ho' : (decide ((R : Int) < 33) || decide ((R : Int) > 126) || (R : Int) == 47) = true := by rw [decide_eq_true (show (R : Int) > 126 by omega)]; simp
        rw [ho'] at H
        have HH := hid H
        clear H ho'
        go_wp2_with (refine HH.out.mono ?_; rintro e w' ⟨rfl, rfl⟩)
        go_ret
        exact ⟨⟨_, rfl, by rw [any_of_at hlt ho]; simp⟩, hb3⟩
    · obtain rfl : j = s.size := by omega
      have hnx : ∀ ty, (Instr.next (.pointer (some ⟨w.heap.size, 0, none⟩)) true ty).run Tryz.prog wr = _ := fun ty => Lib.run_next_end_at wr w.heap.size s s.size ty hit hlt
      go_wp2_with fail
      go_ret
      rw [← str_len s, List.take_length] at ht
      exact ⟨⟨_, rfl, by rw [ht]; rfl⟩, hb⟩

set_option maxHeartbeats 400000 in
theorem contains_odd (s : ByteArray) (w : World) : Calls Tryz.prog 103 #[.string s, .func (.func 102) #[] #[]] w fun e w' => e = .returned (.bool (s.toList.any oddB)) ∧ Below w.heap.size w w' := by
  have H : Calls Tryz.prog 143 #[.string s, .func (.func 102) #[] #[]] w fun e w' => (∃ r : Int, e = .returned (.int .i64 r) ∧ decide (r ≥ 0) = s.toList.any oddB) ∧ Below w.heap.size w w' := by
    have H := hid (index_odd s w)
    go_enter Tryz.func143, Tryz.ntmps143
    go_wp2_with fail
    refine H.out.mono ?_
    rintro e w' ⟨⟨r, rfl, hr⟩, hb⟩
    have hr := hid hr
    go_wp2_with fail
    go_ret
    exact ⟨⟨r, rfl, hr.out⟩, hb⟩
  have H := hid H
  go_enter Tryz.func103, Tryz.ntmps103
  go_wp2_with fail
  refine H.out.mono ?_
  rintro e w' ⟨⟨r, rfl, hr⟩, hb⟩
  go_wp2_with fail
  go_ret
  exact ⟨by rw [← hr]; rfl, hb⟩

theorem part_any (l : List UInt8) : partB l = (decide (1 ≤ l.length) && decide (l.length ≤ 20) && !(l == [46]) && !(l == [46, 46]) && !(l.any oddB)) := by
  unfold partB
  congr 1
  rw [List.not_any_eq_all_not]

set_option maxHeartbeats 800000 in
theorem part_walk (s : ByteArray) (w : World) : Calls Tryz.prog 76 #[.string s] w fun e w' => e = .returned (.bool (partB s.toList)) ∧ Below w.heap.size w w' := by
  have hl := str_len s
  rw [part_any, hl]
  by_cases h1 : s.toList = []
  · have g1 : (s.toList != []) = false := by simp [h1]
    have g1' : (s.toList == []) = true := by simp [h1]
    have h0 : s.size = 0 := by rw [← hl, h1]; rfl
    go_enter Tryz.func76, Tryz.ntmps76
    go_wp2_with fail
    go_ret
    exact ⟨by simp [h0], Below.refl _ _⟩
  have g1 : (s.toList != []) = true := by simp [h1]
  have g1' : (s.toList == []) = false := by simp [h1]
  have h0 : 1 ≤ s.size := by
    rcases Nat.eq_zero_or_pos s.size with h | h
    · rw [h] at hl; exact absurd (List.eq_nil_of_length_eq_zero hl) h1
    · exact h
  have k0 : decide (1 ≤ s.size) = true := decide_eq_true h0
  by_cases h2 : s.size ≤ 20
  case neg =>
    have g2 : decide ((s.size : Int) ≤ 20) = false := decide_eq_false (by omega)
    have k2 : decide (s.size ≤ 20) = false := decide_eq_false h2
    go_enter Tryz.func76, Tryz.ntmps76
    go_wp2_with fail
    go_ret
    exact ⟨by rw [k2]; simp, Below.refl _ _⟩
  have g2 : decide ((s.size : Int) ≤ 20) = true := decide_eq_true (by omega)
  have k2 : decide (s.size ≤ 20) = true := decide_eq_true h2
  by_cases h3 : s.toList = [46]
  · have g3 : (s.toList != [46]) = false := by simp [h3]
    have g3' : (s.toList == [46]) = true := by simp [h3]
    go_enter Tryz.func76, Tryz.ntmps76
    go_wp2_with fail
    go_ret
    exact ⟨by rw [g3']; simp, Below.refl _ _⟩
  have g3 : (s.toList != [46]) = true := by simp [h3]
  have g3' : (s.toList == [46]) = false := by simp [h3]
  by_cases h4 : s.toList = [46, 46]
  · have g4 : (s.toList != [46, 46]) = false := by simp [h4]
    have g4' : (s.toList == [46, 46]) = true := by simp [h4]
    go_enter Tryz.func76, Tryz.ntmps76
    go_wp2_with fail
    go_ret
    exact ⟨by rw [g4']; simp, Below.refl _ _⟩
  have g4 : (s.toList != [46, 46]) = true := by simp [h4]
  have g4' : (s.toList == [46, 46]) = false := by simp [h4]
  have H := hid (contains_odd s w)
  rw [k0, k2, g3', g4']
  go_enter Tryz.func76, Tryz.ntmps76
  go_wp2_with fail
  refine H.out.mono ?_
  rintro e w' ⟨rfl, hb⟩
  go_wp2_with fail
  go_ret
  exact ⟨by simp, hb⟩

end Go.Proofs.YtfbbjfbnkcklgaaGreatDoor

/- a text cut at each slash: the plain law, and the reference's parts -/
namespace Go.Proofs.YtfbbjfbnkcklgaaGreatDoor
open Go.RowKit

/-- a text, cut at each slash -/
def partsL : List UInt8 → List (List UInt8)
  | [] => [[]]
  | b :: r => if b = 47 then [] :: partsL r else match partsL r with
    | [] => [[b]]
    | x :: t => (b :: x) :: t
theorem partsL_ne (l : List UInt8) : partsL l ≠ [] := by
  cases l with
  | nil => simp [partsL]
  | cons b r =>
    unfold partsL
    split
    · simp
    · split <;> simp
theorem partsL_none {x : List UInt8} (h : 47 ∉ x) : partsL x = [x] := by
  induction x with
  | nil => rfl
  | cons b r ih =>
    have hb : b ≠ 47 := fun e => h (by simp [e])
    have hr : 47 ∉ r := fun e => h (by simp [e])
    unfold partsL
    rw [if_neg hb, ih hr]
theorem partsL_cut {x : List UInt8} (h : 47 ∉ x) (y : List UInt8) : partsL (x ++ 47 :: y) = x :: partsL y := by
  induction x with
  | nil => simp [partsL]
  | cons b r ih =>
    have hb : b ≠ 47 := fun e => h (by simp [e])
    have hr : 47 ∉ r := fun e => h (by simp [e])
    rw [List.cons_append]
    show (if b = 47 then _ else _) = _
    rw [if_neg hb, ih hr]
/-- how long a text is, by its parts -/
theorem partsL_size (l : List UInt8) : l.length + 1 = ((partsL l).map fun x => x.length + 1).sum := by
  induction l with
  | nil => rfl
  | cons b r ih =>
    unfold partsL
    split
    · simp [← ih]; omega
    · cases hp : partsL r with
      | nil => exact absurd hp (partsL_ne r)
      | cons x t =>
        rw [hp] at ih
        simp at ih ⊢
        omega
def pathB (l : List UInt8) : Bool := (partsL l).all partB && decide ((partsL l).length ≤ 6)
theorem pathB_short {l : List UInt8} (h : pathB l = true) : l.length ≤ 125 := by
  simp only [pathB, Bool.and_eq_true, decide_eq_true_eq] at h
  have hs := partsL_size l
  have key : ∀ L : List (List UInt8), L.all partB = true → (L.map fun x => x.length + 1).sum ≤ 21 * L.length := by
    intro L
    induction L with
    | nil => simp
    | cons x t ih =>
      intro hL
      simp only [List.all_cons, Bool.and_eq_true] at hL
      have h1 := ih hL.2
      have h2 : x.length ≤ 20 := by
        have := hL.1
        simp only [partB, Bool.and_eq_true, decide_eq_true_eq] at this
        exact this.1.1.1.2
      simp only [List.map_cons, List.sum_cons, List.length_cons]
      omega
  have := key _ h.1
  omega

theorem ext_list (s : ByteArray) (a b : Nat) : (s.extract a b).toList = (s.toList.drop a).take (b - a) := by
  rw [ByteArray.toList_eq, ByteArray.toList_eq]
  simp [ByteArray.data_extract, Array.toList_extract, List.extract_eq_take_drop]

theorem parts_on {l : List UInt8} {a j : Nat} {x : UInt8} (h : 47 ∉ (l.drop a).take (j - a)) (haj : a ≤ j) (hx : l[j]? = some x) (hne : ¬ x.toNat = 47) : 47 ∉ (l.drop a).take (j + 1 - a) := by
  rw [show j + 1 - a = (j - a) + 1 by omega, List.take_add_one, List.getElem?_drop, show a + (j - a) = j by omega, hx]
  simp only [Option.toList_some, List.mem_append, List.mem_singleton, not_or]
  refine ⟨h, ?_⟩
  rintro rfl
  exact hne rfl
theorem parts_slash {l : List UInt8} {a j : Nat} {x : UInt8} (h : 47 ∉ (l.drop a).take (j - a)) (haj : a ≤ j) (hx : l[j]? = some x) (hne : x.toNat = 47) : partsL (l.drop a) = (l.drop a).take (j - a) :: partsL (l.drop (j + 1)) := by
  have hx47 : x = 47 := UInt8.toNat_inj.1 hne
  subst hx47
  have hj : j < l.length := (List.getElem?_eq_some_iff.1 hx).1
  have : l.drop a = (l.drop a).take (j - a) ++ 47 :: l.drop (j + 1) := by
    conv => lhs; rw [← List.take_append_drop (j - a) (l.drop a)]
    congr 1
    rw [List.drop_drop, show a + (j - a) = j by omega, List.drop_eq_getElem_cons hj]
    rw [List.getElem?_eq_getElem hj] at hx
    rw [Option.some.inj hx]
  conv => lhs; rw [this]
  exact partsL_cut h _

theorem info9 : (Tryz.prog.info? 9).map (fun i => (i.zero, i.size, i.bytes)) = some (some (.string ByteArray.empty), 1, 16) := by kernel_rfl

set_option maxRecDepth 100000 in
set_option maxHeartbeats 1600000 in
theorem refparts (s : ByteArray) (w : World) (h : s.size ≤ 250) : Calls Tryz.prog 86 #[.string s] w fun e w' => ∃ A n c, e = .returned (.slice A n c) ∧ ∃ ps : List ByteArray, Row w' 9 1 (.slice A n c) (ps.map .string) ∧ ps.map (·.toList) = partsL s.toList ∧ Below w.heap.size w w' := by
  obtain ⟨i0, hi0, hz0, hz1, hz2⟩ := info_parts info9
  have hl := str_len s
  go_enter Tryz.func86, Tryz.ntmps86
  go_wp2_with fail
  go_loopg [3, 4, 5] (s.size + 1) (fun k out from_ i wr => ∃ (a j : Nat) (ps : List ByteArray) (pA : Option Addr) (pn pc : Nat), k = s.size + 1 - j ∧ j ≤ s.size + 1 ∧ a ≤ j ∧ ps.length ≤ j ∧ i = .int .i64 j ∧ from_ = .int .i64 a ∧ out = .slice pA pn pc ∧ Row wr 9 1 (.slice pA pn pc) (ps.map .string) ∧ Below w.heap.size w wr ∧
    (∀ k, (Value.slice pA pn pc).ownBlock = some k → w.heap.size ≤ k) ∧ (j ≤ s.size → 47 ∉ (s.toList.drop a).take (j - a) ∧ ps.map (·.toList) ++ partsL (s.toList.drop a) = partsL s.toList) ∧ (j = s.size + 1 → ps.map (·.toList) = partsL s.toList))
  case atStart => exact ⟨0, 0, [], none, 0, 0, rfl, by omega, by omega, by simp, rfl, rfl, rfl, Row.nil _ _ _, Below.refl _ _, by simp [Value.ownBlock], fun _ => ⟨by simp, by simp⟩, by omega⟩
  case round =>
    obtain ⟨a, j, ps, pA, pn, pc, rfl, hj, haj, hpl, rfl, rfl, rfl, hrow, hb, hf, h1, h2⟩ := hrel
    by_cases hlt : j ≤ s.size
    · have g1 : decide ((j : Int) ≤ (s.size : Int)) = true := decide_eq_true (by omega)
      obtain ⟨hno, hps⟩ := h1 hlt
      have hext := ext_list s a j
      have hc1 : (ps.map Value.string).length + 1 ≤ maxLen := by simp only [List.length_map, maxLen]; omega
      have hc2 : ((ps.map Value.string).length + 1) * 16 ≤ 140737488355328 := by simp only [List.length_map]; omega
      have b1 : (0 : Int) ≤ (a : Int) := by omega
      have b2 : (a : Int) ≤ (j : Int) := by omega
      have b3 : (j : Int) ≤ (s.size : Int) := by omega
      have HN := hid hno
      have HP := hid hps
      have HE := hid hext
      clear h1 h2 hno hps hext
      by_cases hend : j = s.size
      · have g2 : ((j : Int) == (s.size : Int)) = true := by simp [hend]
        have he := hid hend
        clear hend
        go_wp2_with (at_builtin; refine wpList_append_row _ rfl _ _ 26 rfl 9 i0 (.string ByteArray.empty) 1 16 Tryz.underlying26 hi0 hz0 hz1 hz2 rfl (by decide) (.slice pA pn pc) (ps.map .string) rfl (by exact hrow.keep fun k hk => Below.heap_alloc wr _ _ (hrow.lt k hk)) (.slice (some ⟨wr.heap.size, 0, none⟩) 1 1) [.string (s.extract a j)] rfl (Src.one (heap_alloc_new _ _)) (by simp [Value.oneCell']) hc1 hc2 ?_; intro bA bn bc w2 hr2 hg2 ha2)
        have hb2 : Below w.heap.size w w2 := Below.grownNew (hb.alloc hb.size (.cells #[.string (s.extract a j)] 9 (0, 0))) hg2 (by have := hb.size; simp; omega) hf
        have hf2 := fresh_of ha2 hf (by have := hb.size; simp; omega)
        go_roundg (s.size + 1 - (j + 1))
        case measure => omega
        case rel => exact ⟨j + 1, j + 1, ps ++ [s.extract a j], bA, bn, bc, by omega, by omega, by omega, by simp; omega, by go_num, by go_num, rfl, by rw [List.map_append]; exact hr2, hb2, hf2, fun hh => absurd hh (by have := he.out; omega), fun _ => by rw [List.map_append, ← HP.out, partsL_none (x := s.toList.drop a) (by have := HN.out; rw [List.take_of_length_le (by rw [List.length_drop, hl]; have := he.out; omega)] at this; exact this), ← List.take_of_length_le (l := s.toList.drop a) (i := j - a) (by rw [List.length_drop, hl]; have := he.out; omega), ← HE.out]; rfl⟩
      · have g2 : ((j : Int) == (s.size : Int)) = false := by simp; omega
        have hjs : j < s.size := by omega
        have HG := hid (str_get s j hjs)
        have i1 : (j : Int) < (s.size : Int) := by omega
        have i2 : (0 : Int) ≤ (j : Int) := by omega
        cases d3 : ((s[j].toNat : Int) == 47)
        · go_wp2_with fail
          go_roundg (s.size + 1 - (j + 1))
          case measure => omega
          case rel => exact ⟨a, j + 1, ps, pA, pn, pc, by omega, by omega, by omega, by omega, by go_num, rfl, rfl, hrow, hb, hf, fun _ => ⟨parts_on HN.out haj HG.out (by simp at d3; omega), HP.out⟩, fun hh => absurd hh (by omega)⟩
        · go_wp2_with (at_builtin; refine wpList_append_row _ rfl _ _ 26 rfl 9 i0 (.string ByteArray.empty) 1 16 Tryz.underlying26 hi0 hz0 hz1 hz2 rfl (by decide) (.slice pA pn pc) (ps.map .string) rfl (by exact hrow.keep fun k hk => Below.heap_alloc wr _ _ (hrow.lt k hk)) (.slice (some ⟨wr.heap.size, 0, none⟩) 1 1) [.string (s.extract a j)] rfl (Src.one (heap_alloc_new _ _)) (by simp [Value.oneCell']) hc1 hc2 ?_; intro bA bn bc w2 hr2 hg2 ha2)
          have hb2 : Below w.heap.size w w2 := Below.grownNew (hb.alloc hb.size (.cells #[.string (s.extract a j)] 9 (0, 0))) hg2 (by have := hb.size; simp; omega) hf
          have hf2 := fresh_of ha2 hf (by have := hb.size; simp; omega)
          go_roundg (s.size + 1 - (j + 1))
          case measure => omega
          case rel => exact ⟨j + 1, j + 1, ps ++ [s.extract a j], bA, bn, bc, by omega, by omega, by omega, by simp; omega, by go_num, by go_num, rfl, by rw [List.map_append]; exact hr2, hb2, hf2, fun _ => ⟨by simp, by rw [List.map_append, ← HP.out, parts_slash HN.out haj HG.out (by simp at d3; omega), List.append_assoc, List.map_cons, List.map_nil, HE.out]; rfl⟩, fun hh => absurd hh (by omega)⟩
    · have g1 : decide ((j : Int) ≤ (s.size : Int)) = false := decide_eq_false (by omega)
      have HP := hid (h2 (by omega))
      clear h1 h2
      go_wp2_with fail
      go_ret
      exact ⟨_, _, _, rfl, ps, hrow, HP.out, hb⟩

end Go.Proofs.YtfbbjfbnkcklgaaGreatDoor

/- the reference's Path -/
namespace Go.Proofs.YtfbbjfbnkcklgaaGreatDoor
open Go.RowKit

theorem Row.at1 {w : World} {e : TypeId} {A : Option Addr} {n c : Nat} {xs : List Value} (h : Row w e 1 (.slice A n c) xs) {i : Nat} {u : Value} (hu : xs[i]? = some u) : ∃ a, A = some a ∧ w.cell? (a.add i) = some u := by
  obtain ⟨_, _, _, hv, _, _, _, hh⟩ := h.src
  cases hv
  exact hh i u hu

theorem sum_mem {L : List (List UInt8)} {x : List UInt8} (h : x ∈ L) : x.length + 1 ≤ (L.map fun x => x.length + 1).sum := by
  induction L with
  | nil => cases h
  | cons y t ih =>
    rcases List.mem_cons.1 h with rfl | h
    · simp
    · have := ih h
      simp only [List.map_cons, List.sum_cons]
      omega
theorem sum_len (L : List (List UInt8)) : L.length ≤ (L.map fun x => x.length + 1).sum := by
  induction L with
  | nil => simp
  | cons y t ih => simp only [List.map_cons, List.sum_cons, List.length_cons]; omega

set_option maxRecDepth 100000 in
set_option maxHeartbeats 1600000 in
theorem refpath (s : ByteArray) (w : World) : Calls Tryz.prog 55 #[.string s] w fun e w' => e = .returned (.bool (pathB s.toList)) ∧ Below w.heap.size w w' := by
  have hl := str_len s
  by_cases h200 : s.size > 200
  · have g1 : decide ((s.size : Int) > 200) = true := decide_eq_true (by omega)
    have hf : pathB s.toList = false := by
      cases hp : pathB s.toList with
      | false => rfl
      | true => have := pathB_short hp; omega
    go_enter Tryz.func55, Tryz.ntmps55
    go_wp2_with fail
    go_ret
    exact ⟨by rw [hf]; rfl, Below.refl _ _⟩
  have g1 : decide ((s.size : Int) > 200) = false := decide_eq_false (by omega)
  have H := hid (refparts s w (by omega))
  go_enter Tryz.func55, Tryz.ntmps55
  go_wp2_with fail
  refine H.out.mono ?_
  rintro e w1 ⟨A, n, c, rfl, ps, hrow, hps, hb⟩
  obtain rfl : n = ps.length := by obtain ⟨_, _, _, hv, hln, _⟩ := id hrow; cases hv; simpa using hln.symm
  have hlen : ps.length = (partsL s.toList).length := by rw [← hps]; simp
  have hpn : ps.length ≤ 201 := by
    have h1 := partsL_size s.toList
    have h2 := sum_len (partsL s.toList)
    omega
  have HPS := hid hps
  have HLN := hid hlen
  clear hps H hlen
  go_wp2_with fail
  go_loopg [4] ps.length (fun k i wr => ∃ j : Nat, j ≤ ps.length ∧ k = ps.length - j ∧ i = .int .i64 j ∧ Below w1.heap.size w1 wr ∧ ((ps.take j).map (·.toList)).all partB = true)
  case atStart => exact ⟨0, by omega, rfl, rfl, Below.refl _ _, by simp⟩
  case round =>
    obtain ⟨j, hj, rfl, rfl, hb1, ht⟩ := hrel
    by_cases hlt : j < ps.length
    · have i0 : (0 : Int) ≤ (j : Int) := by omega
      have i1 : (j : Int) < (ps.length : Int) := by omega
      obtain ⟨a, rfl, hc⟩ := (hrow.below hb1).at1 (i := j) (u := .string ps[j]) (by simp [hlt])
      have HPW := hid (refpart ps[j])
      have hmem : ps[j].toList ∈ partsL s.toList := by rw [← HPS.out]; exact List.mem_map_of_mem (List.getElem_mem hlt)
      have hsz : ps[j].size ≤ 140737488351232 := by
        rw [← str_len]
        have h1 := partsL_size s.toList
        have h2 : ps[j].toList.length + 1 ≤ ((partsL s.toList).map fun x => x.length + 1).sum := sum_mem hmem
        omega
      have HM := hid hmem
      cases hp : partB ps[j].toList
      · have HW := hid (HPW.out wr hsz)
        rw [hp] at HW
        clear HPW hmem
        go_wp2_with fail
        refine HW.out.mono ?_
        rintro e w' ⟨rfl, rfl⟩
        go_wp2_with fail
        go_ret
        refine ⟨?_, hb.trans (hb1.mono hb.size)⟩
        have : pathB s.toList = false := by
          unfold pathB
          rw [Bool.and_eq_false_iff]
          exact .inl (List.all_eq_false.2 ⟨_, HM.out, by simp [hp]⟩)
        rw [this]; rfl
      · have HW := hid (HPW.out wr hsz)
        rw [hp] at HW
        clear HPW hmem
        go_wp2_with fail
        refine HW.out.mono ?_
        rintro e w' ⟨rfl, rfl⟩
        go_wp2_with fail
        go_roundg (ps.length - (j + 1))
        case measure => omega
        case rel => exact ⟨j + 1, by omega, rfl, by go_num, hb1, by rw [List.take_add_one, List.map_append, List.all_append, ht]; simp [hlt, hp]⟩
    · obtain rfl : j = ps.length := by omega
      rw [List.take_length, HPS.out] at ht
      have HT := hid ht
      clear ht
      have h6 : pathB s.toList = decide ((ps.length : Int) ≤ 6) := by
        unfold pathB
        rw [HT.out, ← HLN.out, Bool.true_and]
        exact decide_eq_decide.2 (by omega)
      have H6 := hid h6
      clear h6
      go_wp2_with fail
      go_ret
      exact ⟨by rw [H6.out]; rfl, hb.trans (hb1.mono hb.size)⟩

end Go.Proofs.YtfbbjfbnkcklgaaGreatDoor
