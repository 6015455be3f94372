/- calls, one behind the other; what changes answer -/
import Derived.Test.YtfbbjfbnkcklgaaGreatDoorP1
namespace Go.Proofs.YtfbbjfbnkcklgaaGreatDoor
open Go.RowKit

theorem thenB {w a b : World} (h1 : Below w.heap.size w a) (h2 : Below a.heap.size a b) : Below w.heap.size w b := h1.trans (h2.mono h1.size)
theorem thenA {w a : World} (h1 : Below w.heap.size w a) (o : Obj) : Below w.heap.size w (a.alloc o) := h1.alloc h1.size o
theorem TrW.none (w : World) : TrW w none 0 [] := ⟨Nat.le_refl _, fun _ => rfl, fun i x h => by simp at h⟩
theorem Tr.none (w : World) : Tr w none 0 [] := ⟨TrW.none w, by simp, by simp⟩

def foundDir (t : List AIt) (q : List UInt8) : Bool := match findA t q with
  | .none => false
  | .some x => x.d
def mkdirA (t : List AIt) (p : List UInt8) : List AIt × Int :=
  if rightA t = false then ([], 1) else if pathB p = false then ([], 10) else if dirA t p ≠ 0 then ([], dirA t p) else if (findA t p).isSome = true then ([], 6) else
  if 60 ≤ t.length then ([], 2) else (putA t ⟨p, true, []⟩, 0)
def writeA (t : List AIt) (p : List UInt8) (b : List Int) : List AIt × Int :=
  if rightA t = false then ([], 1) else if pathB p = false then ([], 10) else if dirA t p ≠ 0 then ([], dirA t p) else if foundDir t p = true then ([], 8) else
  if 2000 < b.length then ([], 2) else if (findA t p).isSome = false ∧ 60 ≤ t.length then ([], 2) else (putA t ⟨p, false, b⟩, 0)
def underA (t : List AIt) (p : List UInt8) : List AIt := t.filter fun x => withinA p x.p
def withoutA (t : List AIt) (p : List UInt8) : List AIt := t.filter fun x => !withinA p x.p
def removeA (t : List AIt) (p : List UInt8) (deep : Bool) : List AIt × Int :=
  if rightA t = false then ([], 1) else if pathB p = false then ([], 10) else if (findA t p).isSome = false then ([], 5) else
  if deep = false ∧ 1 < (underA t p).length then ([], 9) else (withoutA t p, 0)

theorem reffind_is (A : Option Addr) (c : Nat) (l : List Itm) (q : ByteArray) (w : World) (h : Tr w A c l) :
    Calls Tryz.prog 45 #[.slice A l.length c, .string q] w fun e w' => (∃ p B n d, e = .returned (.tuple #[.agg #[.string p, .bool (foundDir (l.map Itm.abs) q.toList), .slice B n d], .bool (findA (l.map Itm.abs) q.toList).isSome])) ∧ Below w.heap.size w w' := by
  refine (reffind A c l q w h).mono ?_
  unfold foundDir
  rw [find_abs]
  rintro e w' ⟨hb, (⟨x, hx, rfl⟩ | ⟨hx, rfl⟩)⟩
  · rw [hx]; exact ⟨⟨_, _, _, _, rfl⟩, hb⟩
  · rw [hx]; exact ⟨⟨_, _, _, _, rfl⟩, hb⟩

/-- a new directory, a new file -/
def dirItm (p : ByteArray) : Itm := ⟨p, true, none, 0, []⟩
theorem Good.dirItm (w : World) {p : ByteArray} (h : p.size ≤ 140737488351232) : Good w (dirItm p) := ⟨h, by simp [Go.Proofs.YtfbbjfbnkcklgaaGreatDoor.dirItm], (Row.nil w 5 1).src, by simp [Go.Proofs.YtfbbjfbnkcklgaaGreatDoor.dirItm]⟩

end Go.Proofs.YtfbbjfbnkcklgaaGreatDoor
