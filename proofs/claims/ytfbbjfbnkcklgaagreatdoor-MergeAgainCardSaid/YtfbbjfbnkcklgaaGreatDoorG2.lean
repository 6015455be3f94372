/- steps in memory; which are right; what one makes, and many -/
import Derived.Test.YtfbbjfbnkcklgaaGreatDoorQ1
import Derived.Test.YtfbbjfbnkcklgaaGreatDoorB5
namespace Go.Proofs.YtfbbjfbnkcklgaaGreatDoor
open Go.RowKit

/-- a step, with the place of its bytes -/
structure StI where
  k : Int
  p : ByteArray
  bA : Option Addr
  bc : Nat
  bs : List Int
instance : Inhabited StI := ⟨⟨0, ByteArray.empty, none, 0, []⟩⟩
def StI.abs (s : StI) : StA := ⟨s.k, s.p.toList, s.bs⟩
def StI.cells (s : StI) : List Value := [.int .i64 s.k, .string s.p, .slice s.bA s.bs.length s.bc]
structure StGood (w : World) (s : StI) : Prop where
  size : s.p.size ≤ 140737488351232
  len : s.bs.length ≤ 140737488351232
  src : Src w 1 (.slice s.bA s.bs.length s.bc) (nums s.bs)
  rng : ∀ b ∈ s.bs, 0 ≤ b ∧ b < 256
theorem StGood.below {w w' : World} {s : StI} (h : StGood w s) (hb : Below w.heap.size w w') : StGood w' s := ⟨h.size, h.len, h.src.below hb, h.rng⟩
theorem StGood.item {w : World} {s : StI} (h : StGood w s) : Good w ⟨s.p, false, s.bA, s.bc, s.bs⟩ := ⟨h.size, h.len, h.src, h.rng⟩
theorem st_len (s : StI) : s.cells.length = 3 := rfl
theorem st_one (s : StI) : ∀ u ∈ s.cells, u.oneCell' = true := by
  intro u hu
  simp [StI.cells] at hu
  rcases hu with rfl | rfl | rfl <;> rfl
/-- a slice of steps -/
structure Sts (w : World) (A : Option Addr) (c : Nat) (l : List StI) : Prop where
  recs : Recs StI.cells 3 w A c l
  max : l.length ≤ 1000000
  good : ∀ s ∈ l, StGood w s
theorem Sts.below {w w' : World} {A : Option Addr} {c : Nat} {l : List StI} (h : Sts w A c l) (hb : Below w.heap.size w w') : Sts w' A c l := ⟨h.recs.below hb, h.max, fun s hs => (h.good s hs).below hb⟩
theorem Sts.at {w : World} {A : Option Addr} {c : Nat} {l : List StI} (h : Sts w A c l) {i : Nat} (hi : i < l.length) : ∃ b off, A = some ⟨b, off, none⟩ ∧ w.cell? ⟨b, off + i * 3, none⟩ = some (.int .i64 l[i].k) ∧ w.cell? ⟨b, off + i * 3 + 1, none⟩ = some (.string l[i].p) ∧ w.cell? ⟨b, off + i * 3 + 2, none⟩ = some (.slice l[i].bA l[i].bs.length l[i].bc) ∧ StGood w l[i] := by
  obtain ⟨b, off, h0, h1⟩ := h.recs.cell i l[i] (List.getElem?_eq_getElem hi)
  exact ⟨b, off, h0, h1 0 _ rfl, h1 1 _ rfl, h1 2 _ rfl, h.good _ (List.getElem_mem hi)⟩
theorem Sts.none (w : World) : Sts w none 0 [] := ⟨Recs.none w, by simp, by simp⟩
theorem Sts.ofRow {w : World} {e : TypeId} {A : Option Addr} {n c : Nat} {l : List StI} (h : Row w e 3 (.slice A n c) (l.flatMap StI.cells)) (hg : ∀ s ∈ l, StGood w s) (hm : l.length ≤ 1000000) : n = l.length ∧ Sts w A c l := by
  obtain ⟨h1, h2⟩ := Recs.ofRow st_len (by omega) h
  exact ⟨h1, h2, hm, hg⟩

theorem stRight_k1 {s : StA} (h : ¬ 1 ≤ s.k) : stRight s = false := by unfold stRight; rw [decide_eq_false (show ¬ s.k ≥ 1 from h)]; rfl
theorem stRight_k3 {s : StA} (h : ¬ s.k ≤ 3) : stRight s = false := by unfold stRight; rw [decide_eq_false h, Bool.and_false]; rfl
theorem stRight_p {s : StA} (h : pathB s.p = false) : stRight s = false := by unfold stRight; rw [h, Bool.and_false]; rfl
theorem stRight_b {s : StA} (h : s.k ≠ 3) (h2 : s.b.length ≠ 0) : stRight s = false := by unfold stRight; simp [h, h2]
theorem stRight_n {s : StA} (h : ¬ s.b.length ≤ 2000) : stRight s = false := by unfold stRight; rw [decide_eq_false h, Bool.and_false]
theorem stRight_yes {s : StA} (h1 : 1 ≤ s.k) (h2 : s.k ≤ 3) (h3 : pathB s.p = true) (h4 : s.k = 3 ∨ s.b.length = 0) (h5 : s.b.length ≤ 2000) : stRight s = true := by
  unfold stRight
  simp only [Bool.and_eq_true, Bool.or_eq_true, decide_eq_true_eq, beq_iff_eq]
  exact ⟨⟨⟨⟨h1, h2⟩, h3⟩, h4⟩, h5⟩


end Go.Proofs.YtfbbjfbnkcklgaaGreatDoor