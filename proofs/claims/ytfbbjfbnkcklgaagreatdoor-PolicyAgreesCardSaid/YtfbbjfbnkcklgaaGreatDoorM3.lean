/- tree.Remove, Rename -/
import Derived.Test.YtfbbjfbnkcklgaaGreatDoorM2
namespace Go.Proofs.YtfbbjfbnkcklgaaGreatDoor
open Go.RowKit

def renameB (t : List AIt) (frm to : List UInt8) : List AIt × Int :=
  if rightA t = false then ([], 1) else if pathB frm = false then ([], 10) else if pathB to = false then ([], 10) else if (findA t frm).isSome = false then ([], 5) else if dirA t to ≠ 0 then ([], dirA t to) else
  if frm = to then (t, 0) else if (findA t to).isSome = true then ([], 6) else if withinA frm to = true then ([], 1) else
  match moveL frm to (underA t frm) (withoutA t frm) with
  | none => ([], 10)
  | some o => (o, 0)
theorem within_prefB {p q : List UInt8} (h : withinA p q = true) : prefB p q = true := by
  rw [within_pref, Bool.and_eq_true] at h
  exact h.1

end Go.Proofs.YtfbbjfbnkcklgaaGreatDoor
