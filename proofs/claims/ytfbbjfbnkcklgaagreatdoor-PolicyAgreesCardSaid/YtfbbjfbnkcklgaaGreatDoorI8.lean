/- the reference's put -/
import Derived.Test.YtfbbjfbnkcklgaaGreatDoorI7
namespace Go.Proofs.YtfbbjfbnkcklgaaGreatDoor
open Go.RowKit

def putS (x : Itm) (s : Bool × List Itm) (y : Itm) : Bool × List Itm :=
  (s.1 || !Op.bytesLess y.p.toList x.p.toList, s.2 ++ (if !s.1 && !Op.bytesLess y.p.toList x.p.toList then [x] else []) ++ (if y.p.toList == x.p.toList then [] else [y]))
def putE (x : Itm) (s : Bool × List Itm) : List Itm := if s.1 then s.2 else s.2 ++ [x]
/-- a tree with an item: the reference's way -/
def putR (l : List Itm) (x : Itm) : List Itm := putE x (l.foldl (putS x) (false, []))
theorem putS_next {l : List Itm} {x : Itm} {j : Nat} {s : Bool × List Itm} (hj : j < l.length) (h : (l.take j).foldl (putS x) (false, []) = s) : (l.take (j + 1)).foldl (putS x) (false, []) = putS x s l[j] := by
  rw [List.take_add_one, List.foldl_append, h, List.getElem?_eq_getElem hj]
  rfl
theorem app_bound {L : List Itm} {x : Itm} (h : L.length ≤ 1000001) : (L.flatMap Itm.cells).length + x.cells.length ≤ maxLen ∧ ((L.flatMap Itm.cells).length + x.cells.length) * 48 ≤ 140737488355328 := by
  rw [cells_len, show x.cells.length = 3 from rfl]
  constructor
  · simp only [maxLen]; omega
  · omega
theorem cellB {w W : World} {a : Addr} {v : Value} (hB : Below w.heap.size w W) (h : w.cell? a = some v) : W.cell? a = some v := (hB.cell (World.block_lt_of_cell? w _ h)).trans h
theorem putS_mem {x y : Itm} {l L : List Itm} {b : Bool} (h : ∀ z ∈ L, z = x ∨ z ∈ l) (hy : y ∈ l) : ∀ z ∈ (putS x (b, L) y).2, z = x ∨ z ∈ l := by
  intro z hz
  unfold putS at hz
  simp only [List.mem_append] at hz
  rcases hz with (hz | hz) | hz
  · exact h z hz
  · split at hz
    · exact .inl (by simpa using hz)
    · cases hz
  · split at hz
    · cases hz
    · exact .inr (by rw [List.mem_singleton.1 hz]; exact hy)
theorem putS_len {x y : Itm} {L : List Itm} {b : Bool} {j : Nat} (h : L.length ≤ j + (if b then 1 else 0)) : (putS x (b, L) y).2.length ≤ j + 1 + (if (putS x (b, L) y).1 then 1 else 0) := by
  unfold putS
  cases b <;> cases hl : Op.bytesLess y.p.toList x.p.toList <;> cases he : (y.p.toList == x.p.toList) <;> simp at h ⊢ <;> omega

end Go.Proofs.YtfbbjfbnkcklgaaGreatDoor
