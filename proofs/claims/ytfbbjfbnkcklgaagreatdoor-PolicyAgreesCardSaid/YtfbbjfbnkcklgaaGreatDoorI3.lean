/- byte by byte: the reference's Less -/
import Derived.Test.YtfbbjfbnkcklgaaGreatDoorI1
import Derived.BigQuiet
import Derived.Test.YtfbbjfbnkcklgaaGreatDoorU
namespace Go.Proofs.YtfbbjfbnkcklgaaGreatDoor
open Go.RowKit

theorem less_same {a b : List UInt8} {j : Nat} {x y : UInt8} (ha : a[j]? = some x) (hb : b[j]? = some y) (h : (x.toNat : Int) = y.toNat) (hr : Op.bytesLess a b = Op.bytesLess (a.drop j) (b.drop j)) : Op.bytesLess a b = Op.bytesLess (a.drop (j + 1)) (b.drop (j + 1)) := by
  obtain ⟨h1, e1⟩ := List.getElem?_eq_some_iff.1 ha
  obtain ⟨h2, e2⟩ := List.getElem?_eq_some_iff.1 hb
  have : x = y := UInt8.toNat_inj.1 (by exact_mod_cast h)
  subst this
  rw [hr, List.drop_eq_getElem_cons h1, List.drop_eq_getElem_cons h2, e1, e2]
  simp [Op.bytesLess]
theorem less_other {a b : List UInt8} {j : Nat} {x y : UInt8} (ha : a[j]? = some x) (hb : b[j]? = some y) (h : (x.toNat : Int) ≠ y.toNat) (hr : Op.bytesLess a b = Op.bytesLess (a.drop j) (b.drop j)) : Op.bytesLess a b = decide (x.toNat < y.toNat) := by
  obtain ⟨h1, e1⟩ := List.getElem?_eq_some_iff.1 ha
  obtain ⟨h2, e2⟩ := List.getElem?_eq_some_iff.1 hb
  have hne : x ≠ y := fun e => h (by rw [e])
  rw [hr, List.drop_eq_getElem_cons h1, List.drop_eq_getElem_cons h2, e1, e2]
  simp only [Op.bytesLess]
  rw [show (x == y) = false by simp [hne]]
  simp only [Bool.false_and, Bool.or_false]
  exact decide_eq_decide.2 (by rw [UInt8.lt_iff_toNat_lt])
theorem less_end {a b : List UInt8} {j : Nat} (h : a.length ≤ j ∨ b.length ≤ j) (hj : j ≤ a.length ∧ j ≤ b.length) (hr : Op.bytesLess a b = Op.bytesLess (a.drop j) (b.drop j)) : Op.bytesLess a b = decide (a.length < b.length) := by
  rw [hr]
  by_cases hb : b.length ≤ j
  · rw [List.drop_of_length_le hb]
    have e : Op.bytesLess (a.drop j) [] = false := by cases a.drop j <;> rfl
    rw [e]
    exact (decide_eq_false (by omega)).symm
  · rw [List.drop_of_length_le (by omega : a.length ≤ j), List.drop_eq_getElem_cons (by omega : j < b.length)]
    exact (decide_eq_true (by omega)).symm

set_option maxRecDepth 100000 in
set_option maxHeartbeats 1600000 in
theorem refless (a b : ByteArray) (w : World) (ha : a.size ≤ 140737488351232) : Calls Tryz.prog 21 #[.string a, .string b] w fun e w' => e = .returned (.bool (Op.bytesLess a.toList b.toList)) ∧ ∃ q, w' = w.drewN q := by
  have hla := str_len a
  have hlb := str_len b
  go_enter Tryz.func21, Tryz.ntmps21
  go_wp2_with fail
  go_loopg [5] a.size (fun k i wr => ∃ j q : Nat, j ≤ a.size ∧ j ≤ b.size ∧ k = a.size - j ∧ i = .int .i64 j ∧ wr = w.drewN q ∧ Op.bytesLess a.toList b.toList = Op.bytesLess (a.toList.drop j) (b.toList.drop j))
  case atStart => exact ⟨0, 0, Nat.zero_le _, Nat.zero_le _, rfl, rfl, rfl, by simp⟩
  case round =>
    obtain ⟨j, q, hj, hjb, rfl, rfl, rfl, hr⟩ := hrel
    have HR := hid hr
    clear hr
    by_cases h1 : j < a.size
    · have d1 : decide ((j : Int) < (a.size : Int)) = true := decide_eq_true (by omega)
      by_cases h2 : j < b.size
      · have d2 : decide ((j : Int) < (b.size : Int)) = true := decide_eq_true (by omega)
        have i0 : (0 : Int) ≤ (j : Int) := by omega
        have HA := hid (str_get a j h1)
        have HB := hid (str_get b j h2)
        cases d3 : ((a[j].toNat : Int) != (b[j].toNat : Int))
        · go_wp2_with fail
          go_quiet (fail)
          go_wp2_with fail
          go_roundg (a.size - (j + 1))
          case measure => omega
          case rel => exact ⟨j + 1, q + nq, by omega, by omega, rfl, by go_num, rfl, less_same HA.out HB.out (by simpa using d3) HR.out⟩
        · go_wp2_with fail
          go_quiet (fail)
          go_wp2_with fail
          go_quiet (fail)
          go_wp2_with fail
          go_ret
          exact ⟨by rw [less_other HA.out HB.out (by simpa using d3) HR.out]; rfl, _, by rw [← drewN_two, ← drewN_two]⟩
      · have d2 : decide ((j : Int) < (b.size : Int)) = false := decide_eq_false (by omega)
        go_wp2_with fail
        go_ret
        exact ⟨by rw [less_end (.inr (by omega)) (by omega) HR.out, hla, hlb]; rfl, _, rfl⟩
    · have d1 : decide ((j : Int) < (a.size : Int)) = false := decide_eq_false (by omega)
      go_wp2_with fail
      go_ret
      exact ⟨by rw [less_end (.inl (by omega)) (by omega) HR.out, hla, hlb]; rfl, _, rfl⟩

end Go.Proofs.YtfbbjfbnkcklgaaGreatDoor

/- the reference's dir -/
namespace Go.Proofs.YtfbbjfbnkcklgaaGreatDoor
open Go.RowKit

/-- the item at a path -/
def findA (t : List AIt) (q : List UInt8) : Option AIt := t.find? (fun x => x.p == q)
/-- what is wrong with the directory of a path -/
def dirA (t : List AIt) (q : List UInt8) : Int := if (splitL q).1 = [] then 0 else match findA t (splitL q).1 with
  | none => 5
  | some x => if x.d then 0 else 7
theorem find_abs (l : List Itm) (q : List UInt8) : findA (l.map Itm.abs) q = (l.find? (fun x => x.p.toList == q)).map Itm.abs := by
  unfold findA
  rw [List.find?_map]
  rfl

set_option maxRecDepth 100000 in
set_option maxHeartbeats 1600000 in
theorem refdir (A : Option Addr) (c : Nat) (l : List Itm) (q : ByteArray) (w : World) (h : Tr w A c l) (hq : q.size ≤ 140737488351232) :
    Calls Tryz.prog 68 #[.slice A l.length c, .string q] w fun e w' => e = .returned (.int .i64 (dirA (l.map Itm.abs) q.toList)) ∧ Below w.heap.size w w' := by
  have H := hid (refsplit q w hq)
  go_enter Tryz.func68, Tryz.ntmps68
  go_wp2_with fail
  refine H.out.mono ?_
  rintro e w1 ⟨⟨d, n, rfl, hdn⟩, hb⟩
  have hd : (splitL q.toList).1 = d.toList := by rw [← hdn]
  have HF := hid (reffind A c l d w1 (h.below hb))
  have e0 : dirA (l.map Itm.abs) q.toList = if d.toList = [] then 0 else match (l.find? (fun x => x.p.toList == d.toList)).map Itm.abs with
    | none => 5
    | some x => if x.d then 0 else 7 := by
    unfold dirA
    rw [hd, find_abs]
  have HE := hid e0
  clear H e0 hd hdn
  go_wp2_with fail
  refine HF.out.mono ?_
  rintro e w2 ⟨hb2, (⟨x, hx, rfl⟩ | ⟨hx, rfl⟩)⟩
  all_goals have hb3 := hb.trans (hb2.mono hb.size)
  all_goals have HE := HE.out
  all_goals rw [hx] at HE
  all_goals clear HF h
  · by_cases hd : d.toList = []
    · have g1 : (d.toList == []) = true := by simp [hd]
      rw [if_pos hd] at HE
      have HE := hid HE
      go_wp2_with fail
      go_ret
      exact ⟨by rw [HE.out]; rfl, hb3.alloc hb3.size _⟩
    · have g1 : (d.toList == []) = false := by simp [hd]
      rw [if_neg hd] at HE
      have HE := hid HE
      cases hxd : x.d
      · go_wp2_with fail
        go_ret
        exact ⟨by rw [HE.out]; simp [Itm.abs, hxd], hb3.alloc hb3.size _⟩
      · go_wp2_with fail
        go_ret
        exact ⟨by rw [HE.out]; simp [Itm.abs, hxd], hb3.alloc hb3.size _⟩
  · by_cases hd : d.toList = []
    · have g1 : (d.toList == []) = true := by simp [hd]
      rw [if_pos hd] at HE
      have HE := hid HE
      go_wp2_with fail
      go_ret
      exact ⟨by rw [HE.out]; rfl, hb3.alloc hb3.size _⟩
    · have g1 : (d.toList == []) = false := by simp [hd]
      rw [if_neg hd] at HE
      have HE := hid HE
      go_wp2_with fail
      go_ret
      exact ⟨by rw [HE.out]; simp, hb3.alloc hb3.size _⟩
end Go.Proofs.YtfbbjfbnkcklgaaGreatDoor
