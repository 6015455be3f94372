/- many steps; what they cost; how they are told; own, light -/
import Derived.Test.YtfbbjfbnkcklgaaGreatDoorG2
import Derived.Test.YtfbbjfbnkcklgaaGreatDoorQ2
import Derived.Laws.Concat
namespace Go.Proofs.YtfbbjfbnkcklgaaGreatDoor
open Go.RowKit

theorem underA_nil (t : List AIt) : underA t [] = t := by
  unfold underA
  rw [List.filter_eq_self]
  intro x _
  unfold withinA
  simp
theorem srunA_zero {t : List AIt} {s : StA} {r : List StA} {i : Nat} (h : (sdoA t s).2 = 0) : srunA t (s :: r) i = srunA (sdoA t s).1 r (i + 1) := by conv => lhs; unfold srunA; rw [if_pos h]
theorem srunA_not {t : List AIt} {s : StA} {r : List StA} {i : Nat} (h : (sdoA t s).2 ≠ 0) : srunA t (s :: r) i = (t, i, (sdoA t s).2) := by conv => lhs; unfold srunA; rw [if_neg h]

/-- a step's word -/
def wordA (k : Int) : List UInt8 := if k = 1 then [45, 32] else if k = 2 then [100, 32] else if k = 3 then [102, 32] else []
def lineA (s : StA) : List UInt8 := wordA s.k ++ s.p

theorem st_bound {L : List StI} {s : StI} (h : L.length ≤ 1000001) : (L.flatMap StI.cells).length + s.cells.length ≤ maxLen ∧ ((L.flatMap StI.cells).length + s.cells.length) * 48 ≤ 140737488355328 := by
  rw [flat_len st_len, st_len]
  constructor
  · simp only [maxLen]; omega
  · omega

end Go.Proofs.YtfbbjfbnkcklgaaGreatDoor
