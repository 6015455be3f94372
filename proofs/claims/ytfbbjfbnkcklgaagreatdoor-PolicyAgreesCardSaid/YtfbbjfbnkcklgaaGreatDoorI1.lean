/- items in memory -/
import Derived.Test.YtfbbjfbnkcklgaaGreatDoorT6
import Derived.Test.YtfbbjfbnkcklgaaGreatDoorC1
import Derived.Test.YtfbbjfbnkcklgaaGreatDoorB4
namespace Go.Proofs.YtfbbjfbnkcklgaaGreatDoor
open Go.RowKit

/-- an item, with the place of its bytes -/
structure Itm where
  p : ByteArray
  d : Bool
  dA : Option Addr
  dc : Nat
  bs : List Int
/-- an item as such -/
structure AIt where
  p : List UInt8
  d : Bool
  b : List Int
  deriving DecidableEq
def Itm.abs (x : Itm) : AIt := ⟨x.p.toList, x.d, x.bs⟩
def Itm.cells (x : Itm) : List Value := [.string x.p, .bool x.d, .slice x.dA x.bs.length x.dc]
def Itm.val (x : Itm) : Value := .agg #[.string x.p, .bool x.d, .slice x.dA x.bs.length x.dc]
/-- what lies behind an item's bytes -/
structure Good (w : World) (x : Itm) : Prop where
  size : x.p.size ≤ 140737488351232
  len : x.bs.length ≤ 140737488351232
  src : Src w 1 (.slice x.dA x.bs.length x.dc) (nums x.bs)
  rng : ∀ b ∈ x.bs, 0 ≤ b ∧ b < 256
theorem Good.below {w w' : World} {x : Itm} (h : Good w x) (hb : Below w.heap.size w w') : Good w' x := ⟨h.size, h.len, h.src.below hb, h.rng⟩

/-- a slice of items, however many, whatever their bytes -/
structure TrW (w : World) (A : Option Addr) (c : Nat) (l : List Itm) : Prop where
  cap : l.length ≤ c
  nil : A = none → c = 0
  cell : ∀ (i : Nat) (x : Itm), l[i]? = some x → ∃ b off, A = some ⟨b, off, none⟩ ∧ w.cell? ⟨b, off + i * 3, none⟩ = some (.string x.p) ∧ w.cell? ⟨b, off + i * 3 + 1, none⟩ = some (.bool x.d) ∧ w.cell? ⟨b, off + i * 3 + 2, none⟩ = some (.slice x.dA x.bs.length x.dc)
/-- a slice of items -/
structure Tr (w : World) (A : Option Addr) (c : Nat) (l : List Itm) : Prop extends TrW w A c l where
  max : l.length ≤ 1000000
  good : ∀ x ∈ l, Good w x
theorem Tr.below {w w' : World} {A : Option Addr} {c : Nat} {l : List Itm} (h : Tr w A c l) (hb : Below w.heap.size w w') : Tr w' A c l :=
  ⟨⟨h.cap, h.nil, fun i x hx => by
    obtain ⟨b, off, h0, h1, h2, h3⟩ := h.cell i x hx
    exact ⟨b, off, h0, (hb.cell (World.block_lt_of_cell? w _ h1)).trans h1, (hb.cell (World.block_lt_of_cell? w _ h2)).trans h2, (hb.cell (World.block_lt_of_cell? w _ h3)).trans h3⟩⟩, h.max, fun x hx => (h.good x hx).below hb⟩
theorem Tr.at {w : World} {A : Option Addr} {c : Nat} {l : List Itm} (h : Tr w A c l) {i : Nat} (hi : i < l.length) : ∃ b off, A = some ⟨b, off, none⟩ ∧ w.cell? ⟨b, off + i * 3, none⟩ = some (.string l[i].p) ∧ w.cell? ⟨b, off + i * 3 + 1, none⟩ = some (.bool l[i].d) ∧ w.cell? ⟨b, off + i * 3 + 2, none⟩ = some (.slice l[i].dA l[i].bs.length l[i].dc) ∧ Good w l[i] := by
  obtain ⟨b, off, h0, h1, h2, h3⟩ := h.cell i l[i] (List.getElem?_eq_getElem hi)
  exact ⟨b, off, h0, h1, h2, h3, h.good _ (List.getElem_mem hi)⟩

theorem find_hit {α : Type} {l : List α} {p : α → Bool} {j : Nat} (hlt : j < l.length) (ht : (l.take j).find? p = none) (hq : p l[j] = true) : l.find? p = some l[j] := by
  have e : l = l.take j ++ l[j] :: l.drop (j + 1) := by rw [← List.drop_eq_getElem_cons hlt, List.take_append_drop]
  have h : (l.take j ++ l[j] :: l.drop (j + 1)).find? p = some l[j] := by rw [List.find?_append, ht, List.find?_cons_of_pos hq]; rfl
  rwa [← e] at h
theorem find_next {α : Type} {l : List α} {p : α → Bool} {j : Nat} (hlt : j < l.length) (ht : (l.take j).find? p = none) (hq : p l[j] = false) : (l.take (j + 1)).find? p = none := by
  rw [List.take_add_one, List.find?_append, ht, List.getElem?_eq_getElem hlt]
  simp [hq]

set_option maxRecDepth 100000 in
set_option maxHeartbeats 1600000 in
theorem reffind (A : Option Addr) (c : Nat) (l : List Itm) (q : ByteArray) (w : World) (h : Tr w A c l) : Calls Tryz.prog 45 #[.slice A l.length c, .string q] w fun e w' => Below w.heap.size w w' ∧
    ((∃ x, l.find? (fun x => x.p.toList == q.toList) = some x ∧ e = .returned (.tuple #[.agg #[.string x.p, .bool x.d, .slice x.dA x.bs.length x.dc], .bool true])) ∨ (l.find? (fun x => x.p.toList == q.toList) = none ∧ e = .returned (.tuple #[.agg #[.string ⟨#[]⟩, .bool false, .slice none 0 0], .bool false]))) := by
  go_enter Tryz.func45, Tryz.ntmps45
  go_wp2_with fail
  have hb0 : Below w.heap.size w (w.alloc (.cells #[.string ⟨#[]⟩, .bool false, .slice none 0 0] 42)) := (Below.refl _ w).alloc (Nat.le_refl _) _
  have h1 := h.below hb0
  have h48 := h.max
  have hblk := heap_alloc_new w (.cells #[.string ⟨#[]⟩, .bool false, .slice none 0 0] 42)
  generalize w.alloc (.cells #[.string ⟨#[]⟩, .bool false, .slice none 0 0] 42) = w1 at *
  have f0 := blkFree hblk 0
  have f1 := blkFree hblk 1
  have f2 := blkFree hblk 2
  have n0 : w1.cell? ⟨w.heap.size, 0, none⟩ = some _ := (blkCell hblk 0).trans rfl
  have n1 : w1.cell? ⟨w.heap.size, 1, none⟩ = some _ := (blkCell hblk 1).trans rfl
  have n2 : w1.cell? ⟨w.heap.size, 2, none⟩ = some _ := (blkCell hblk 2).trans rfl
  go_loopg [6] l.length (fun k i wr => ∃ j : Nat, j ≤ l.length ∧ k = l.length - j ∧ i = .int .i64 j ∧ wr = w1 ∧ (l.take j).find? (fun x => x.p.toList == q.toList) = none)
  case atStart => exact ⟨0, Nat.zero_le _, rfl, rfl, rfl, by simp⟩
  case round =>
    obtain ⟨j, hj, rfl, rfl, rfl, ht⟩ := hrel
    have HT := hid ht
    clear ht
    by_cases hlt : j < l.length
    · have i0 : (0 : Int) ≤ (j : Int) := by omega
      have i1 : (j : Int) < (l.length : Int) := by omega
      obtain ⟨b, off, rfl, c0, c1, c2, hg⟩ := h1.at hlt
      cases hq : (l[j].p.toList == q.toList)
      · go_wp2_with fail
        go_roundg (l.length - (j + 1))
        case measure => omega
        case rel => exact ⟨j + 1, by omega, rfl, by go_num, rfl, find_next hlt HT.out hq⟩
      · go_wp2_with fail
        have e0 := blkSet (blkSet (blkSet hblk 0 (.string l[j].p)) 1 (.bool l[j].d)) 2 (.slice l[j].dA l[j].bs.length l[j].dc)
        have eb := ((hb0.setCell (p := ⟨w.heap.size, 0, none⟩) (by simp) (.string l[j].p)).setCell (p := ⟨w.heap.size, 1, none⟩) (by simp) (.bool l[j].d)).setCell (p := ⟨w.heap.size, 2, none⟩) (by simp) (.slice l[j].dA l[j].bs.length l[j].dc)
        generalize World.setCell (World.setCell (World.setCell wr _ _) _ _) _ _ = V at *
        have m0 : V.cell? ⟨w.heap.size, 0, none⟩ = some (.string l[j].p) := (blkCell e0 0).trans rfl
        have m1 : V.cell? ⟨w.heap.size, 1, none⟩ = some (.bool l[j].d) := (blkCell e0 1).trans rfl
        have m2 : V.cell? ⟨w.heap.size, 2, none⟩ = some (.slice l[j].dA l[j].bs.length l[j].dc) := (blkCell e0 2).trans rfl
        refine bodyPost_ret (v := .tuple #[.agg #[.string l[j].p, .bool l[j].d, .slice l[j].dA l[j].bs.length l[j].dc], .bool true]) ?_ rfl ?_
        · simp [results, go_sem, m0, m1, m2]
        · exact ⟨eb, .inl ⟨_, find_hit hlt HT.out hq, rfl⟩⟩
    · obtain rfl : j = l.length := by omega
      go_wp2_with fail
      have e0 := blkSet (blkSet (blkSet hblk 0 (.string ⟨#[]⟩)) 1 (.bool false)) 2 (.slice none 0 0)
      have eb := ((hb0.setCell (p := ⟨w.heap.size, 0, none⟩) (by simp) (.string ⟨#[]⟩)).setCell (p := ⟨w.heap.size, 1, none⟩) (by simp) (.bool false)).setCell (p := ⟨w.heap.size, 2, none⟩) (by simp) (.slice none 0 0)
      generalize World.setCell (World.setCell (World.setCell wr _ _) _ _) _ _ = V at *
      have m0 : V.cell? ⟨w.heap.size, 0, none⟩ = some (.string ⟨#[]⟩) := (blkCell e0 0).trans rfl
      have m1 : V.cell? ⟨w.heap.size, 1, none⟩ = some (.bool false) := (blkCell e0 1).trans rfl
      have m2 : V.cell? ⟨w.heap.size, 2, none⟩ = some (.slice none 0 0) := (blkCell e0 2).trans rfl
      refine bodyPost_ret (v := .tuple #[.agg #[.string ⟨#[]⟩, .bool false, .slice none 0 0], .bool false]) ?_ rfl ?_
      · simp [results, go_sem, m0, m1, m2]
      · exact ⟨eb, .inr ⟨by simpa using HT.out, rfl⟩⟩
end Go.Proofs.YtfbbjfbnkcklgaaGreatDoor
