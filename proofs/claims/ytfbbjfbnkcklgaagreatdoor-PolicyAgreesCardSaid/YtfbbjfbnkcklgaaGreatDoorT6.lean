/- the reference's Split -/
import Derived.Test.YtfbbjfbnkcklgaaGreatDoorT4
import Derived.BigQuiet
namespace Go.Proofs.YtfbbjfbnkcklgaaGreatDoor
open Go.RowKit

/-- behind the last slash; ahead of it -/
def nameL (l : List UInt8) : List UInt8 := (l.reverse.takeWhile (· != 47)).reverse
def dirL (l : List UInt8) : List UInt8 := l.take (l.length - (nameL l).length - 1)
theorem nameL_slash {l : List UInt8} {i : Nat} (hi : l[i]? = some 47) (h : 47 ∉ l.drop (i + 1)) : nameL l = l.drop (i + 1) := by
  have hlt : i < l.length := (List.getElem?_eq_some_iff.1 hi).1
  have hl : l = l.take i ++ 47 :: l.drop (i + 1) := by
    rw [List.getElem?_eq_getElem hlt] at hi
    conv => lhs; rw [← List.take_append_drop i l, List.drop_eq_getElem_cons hlt, Option.some.inj hi]
  unfold nameL
  conv => lhs; rw [hl]
  rw [List.reverse_append, List.reverse_cons, List.append_assoc]
  have hall : ∀ x ∈ (l.drop (i + 1)).reverse, (x != 47) = true := fun x hx => by
    rw [List.mem_reverse] at hx
    simp only [bne_iff_ne, ne_eq]
    rintro rfl
    exact h hx
  rw [List.takeWhile_append_of_pos hall]
  simp
theorem nameL_none {l : List UInt8} (h : 47 ∉ l) : nameL l = l := by
  unfold nameL
  have := List.takeWhile_append_of_pos (p := (· != 47)) (l₁ := l.reverse) (l₂ := []) (fun x hx => by
    rw [List.mem_reverse] at hx
    simp only [bne_iff_ne, ne_eq]
    rintro rfl
    exact h hx)
  simp only [List.append_nil, List.takeWhile_nil] at this
  rw [this, List.reverse_reverse]
theorem dirL_slash {l : List UInt8} {i : Nat} (hi : l[i]? = some 47) (h : 47 ∉ l.drop (i + 1)) : dirL l = l.take i := by
  have hlt : i < l.length := (List.getElem?_eq_some_iff.1 hi).1
  unfold dirL
  rw [nameL_slash hi h, List.length_drop]
  congr 1
  omega
theorem dirL_none {l : List UInt8} (h : 47 ∉ l) : dirL l = [] := by
  unfold dirL
  rw [nameL_none h]
  simp
theorem nots_back {l : List UInt8} {j : Nat} {x : UInt8} (hx : l[j]? = some x) (hne : ¬ x.toNat = 47) (h : 47 ∉ l.drop (j + 1)) : 47 ∉ l.drop j := by
  have hlt : j < l.length := (List.getElem?_eq_some_iff.1 hx).1
  rw [List.drop_eq_getElem_cons hlt]
  rw [List.getElem?_eq_getElem hlt] at hx
  rw [Option.some.inj hx]
  simp only [List.mem_cons, not_or]
  exact ⟨by rintro rfl; exact hne rfl, h⟩
def splitL (l : List UInt8) : List UInt8 × List UInt8 := if pathB l then (dirL l, nameL l) else ([], [])

theorem ext_take (s : ByteArray) (b : Nat) : (s.extract 0 b).toList = s.toList.take b := by rw [ext_list]; simp
theorem ext_drop (s : ByteArray) (a : Nat) : (s.extract a s.size).toList = s.toList.drop a := by
  rw [ext_list, List.take_of_length_le (by rw [List.length_drop, str_len]; omega)]

set_option maxRecDepth 100000 in
set_option maxHeartbeats 1600000 in
theorem refsplit (s : ByteArray) (w : World) (hs : s.size ≤ 140737488351232) : Calls Tryz.prog 100 #[.string s] w fun e w' => (∃ d n : ByteArray, e = .returned (.tuple #[.string d, .string n]) ∧ (d.toList, n.toList) = splitL s.toList) ∧ Below w.heap.size w w' := by
  have hl := str_len s
  have H := hid (refpath s w)
  unfold splitL
  cases hp : pathB s.toList
  · rw [hp] at H
    go_enter Tryz.func100, Tryz.ntmps100
    go_wp2_with fail
    refine H.out.mono ?_
    rintro e w' ⟨rfl, hb⟩
    go_wp2_with fail
    go_ret2
    exact ⟨⟨_, _, rfl, by simp⟩, hb⟩
  rw [hp] at H
  go_enter Tryz.func100, Tryz.ntmps100
  go_wp2_with fail
  refine H.out.mono ?_
  rintro e w1 ⟨rfl, hb⟩
  clear hp
  go_wp2_with fail
  go_loopg [4] s.size (fun k i wr => ∃ j : Nat, j ≤ s.size ∧ k = j ∧ i = .int .i64 ((j : Int) - 1) ∧ wr = w1 ∧ 47 ∉ s.toList.drop j)
  case atStart => exact ⟨s.size, Nat.le_refl _, rfl, by go_num, rfl, by rw [List.drop_of_length_le (by omega)]; simp⟩
  case round =>
    obtain ⟨j, hj, rfl, rfl, rfl, hno⟩ := hrel
    have HN := hid hno
    clear hno
    by_cases h0 : gk = 0
    · subst h0
      go_wp2_with fail
      go_ret2
      have h47 : 47 ∉ s.toList := by simpa using HN.out
      exact ⟨⟨_, _, rfl, by rw [dirL_none h47, nameL_none h47]; simp⟩, hb⟩
    · obtain ⟨g', rfl⟩ : ∃ g', gk = g' + 1 := ⟨gk - 1, by omega⟩
      have hlt : g' < s.size := by omega
      have hi0 : ((g' + 1 : Nat) : Int) - 1 = (g' : Int) := by omega
      have i0 : (0 : Int) ≤ (g' : Int) := by omega
      have i1 : (g' : Int) < (s.size : Int) := by omega
      have i2 : (g' : Int) ≤ (s.size : Int) := by omega
      have i3 : (g' : Int) + 1 ≤ (s.size : Int) := by omega
      have i4 : (0 : Int) ≤ (g' : Int) + 1 := by omega
      have hw : IntKind.i64.wrap ((g' : Int) + 1) = (g' : Int) + 1 := IntWalk.i64_in _ (by omega)
      have HG := hid (str_get s g' hlt)
      rw [hi0]
      cases d3 : ((s[g'].toNat : Int) == 47)
      · go_wp2_with fail
        go_roundg g'
        case measure => omega
        case rel => exact ⟨g', by omega, rfl, by go_num, rfl, nots_back HG.out (by simp at d3; omega) HN.out⟩
      · go_wp2_with fail
        go_quiet (fail)
        go_wp2_with fail
        go_ret2
        have hx : s.toList[g']? = some 47 := by
          rw [HG.out]
          congr 1
          exact UInt8.toNat_inj.1 (by simp at d3; exact_mod_cast d3)
        exact ⟨⟨_, _, rfl, by rw [ext_take, dirL_slash hx HN.out], by rw [ext_drop, nameL_slash hx HN.out]⟩, Below.drewN hb⟩

end Go.Proofs.YtfbbjfbnkcklgaaGreatDoor
