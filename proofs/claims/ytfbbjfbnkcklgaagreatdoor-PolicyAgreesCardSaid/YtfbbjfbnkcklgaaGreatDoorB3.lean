/- small laws on what grows -/
import Derived.Test.YtfbbjfbnkcklgaaGreatDoorB
namespace Go.Proofs.YtfbbjfbnkcklgaaGreatDoor
open Go.RowKit

theorem Below.grownNew {B : Nat} {w a b : World} {row : Option Nat} (h : Below B w a) (hg : a.grownBy b row) (hB : B ≤ a.heap.size) (hr : ∀ k, row = some k → B ≤ k) : Below B w b :=
  ⟨hg.os.trans h.os, hg.tape.trans h.tape, hg.output.trans h.output, Nat.le_trans h.size hg.size, fun k hk => (hg.block k (Nat.lt_of_lt_of_le hk hB) (fun e => by have := hr k e.symm; omega)).trans (h.block k hk)⟩
theorem fresh_of {B n : Nat} {v : Value} {row : Option Nat} (ha : v.ownBlock = row ∨ v.ownBlock = some n) (hr : ∀ k, row = some k → B ≤ k) (hn : B ≤ n) : ∀ k, v.ownBlock = some k → B ≤ k := by
  intro k hk
  rcases ha with h | h
  · exact hr k (h.symm.trans hk)
  · rw [h] at hk; cases hk; exact hn

end Go.Proofs.YtfbbjfbnkcklgaaGreatDoor
