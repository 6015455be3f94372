/- rows of items; the reference's Under, without -/
import Derived.Test.YtfbbjfbnkcklgaaGreatDoorI5
namespace Go.Proofs.YtfbbjfbnkcklgaaGreatDoor
open Go.RowKit

theorem infoItem : (Tryz.prog.info? 42).map (fun i => (i.zero, i.size, i.bytes)) = some (some (.agg #[.string ByteArray.empty, .bool false, .slice none 0 0]), 3, 48) := by kernel_rfl

theorem cells_get : ∀ (l : List Itm) (i : Nat) (x : Itm) (k : Nat), l[i]? = some x → k < 3 → (l.flatMap Itm.cells)[i * 3 + k]? = x.cells[k]?
  | [], i, x, k, h, _ => by simp at h
  | y :: r, 0, x, k, h, hk => by
    simp at h
    subst h
    rw [List.flatMap_cons, List.getElem?_append_left (by simp [Itm.cells]; omega)]
    simp
  | y :: r, i + 1, x, k, h, hk => by
    rw [List.flatMap_cons, List.getElem?_append_right (by simp [Itm.cells]; omega), show (i + 1) * 3 + k - y.cells.length = i * 3 + k by simp [Itm.cells]; omega]
    exact cells_get r i x k (by simpa using h) hk
theorem cells_len (l : List Itm) : (l.flatMap Itm.cells).length = l.length * 3 := by
  induction l with
  | nil => rfl
  | cons x r ih => rw [List.flatMap_cons, List.length_append, ih]; simp [Itm.cells]; omega
theorem cells_one (l : List Itm) : ∀ u ∈ l.flatMap Itm.cells, u.oneCell' = true := by
  intro u hu
  obtain ⟨x, _, hx⟩ := List.mem_flatMap.1 hu
  simp [Itm.cells] at hx
  rcases hx with rfl | rfl | rfl <;> rfl

theorem Tr.ofRow {w : World} {e : TypeId} {A : Option Addr} {n c : Nat} {l : List Itm} (h : Row w e 3 (.slice A n c) (l.flatMap Itm.cells)) (hg : ∀ x ∈ l, Good w x) (hm : l.length ≤ 1000000) : n = l.length ∧ Tr w A c l := by
  obtain ⟨A', n', c', hv, hl, hn, hc, hh⟩ := h
  cases hv
  rw [cells_len] at hl
  obtain rfl : n = l.length := by omega
  refine ⟨rfl, ⟨hn, ?_, ?_⟩, hm, hg⟩
  · rintro rfl
    rcases hh with ⟨_, h⟩ | ⟨_, _, _, h, _⟩
    · exact h
    · cases h
  · intro i x hx
    have hi : i < l.length := (List.getElem?_eq_some_iff.1 hx).1
    rcases hh with ⟨_, rfl⟩ | ⟨b, off, cs, rfl, hb, hs, ht⟩
    · omega
    · have key : ∀ k u, k < 3 → x.cells[k]? = some u → w.cell? ⟨b, off + (i * 3 + k), none⟩ = some u := by
        intro k u hk hu
        rw [blkCell hb, ← hu, ← cells_get l i x k hx hk, ← ht, List.getElem?_take, if_pos (by omega), List.getElem?_drop]
        simp
      refine ⟨b, off, rfl, ?_, ?_, ?_⟩
      · exact key 0 _ (by omega) rfl
      · exact key 1 _ (by omega) rfl
      · exact key 2 _ (by omega) rfl
/-- the other way: what a slice of items has as a source -/
theorem Tr.src {w : World} {A : Option Addr} {c : Nat} {l : List Itm} (h : Tr w A c l) : Src w 3 (.slice A l.length c) (l.flatMap Itm.cells) := by
  refine ⟨A, l.length, c, rfl, cells_len l, h.cap, h.nil, ?_⟩
  intro j u hj
  have hjl : j < l.length * 3 := by rw [← cells_len]; exact (List.getElem?_eq_some_iff.1 hj).1
  have hi : j / 3 < l.length := by omega
  obtain ⟨b, off, hA, c0, c1, c2, _⟩ := h.at hi
  refine ⟨_, hA, ?_⟩
  rw [add_lit']
  have hc := cells_get l (j / 3) l[j / 3] (j % 3) (List.getElem?_eq_getElem hi) (by omega)
  rw [show j / 3 * 3 + j % 3 = j by omega, hj] at hc
  rcases (by omega : j % 3 = 0 ∨ j % 3 = 1 ∨ j % 3 = 2) with e | e | e
  · rw [e] at hc
    rw [show off + j = off + j / 3 * 3 by omega, c0, hc]; rfl
  · rw [e] at hc
    rw [show off + j = off + j / 3 * 3 + 1 by omega, c1, hc]; rfl
  · rw [e] at hc
    rw [show off + j = off + j / 3 * 3 + 2 by omega, c2, hc]; rfl

/-- a block of one item as a source -/
theorem Src.item {w : World} {b : Nat} {e : TypeId} (x : Itm) (h : w.heap[b]? = some (.cells #[.string x.p, .bool x.d, .slice x.dA x.bs.length x.dc] e (0, 0))) : Src w 3 (.slice (some ⟨b, 0, none⟩) 1 1) x.cells :=
  (Row.ofBlock (sz := 3) (n := 1) h rfl (by simp [maxLen])).src

/-- the result of a call: a slice of items -/
def ResTr (w : World) (v : Value) (l : List Itm) : Prop := ∃ A c, v = .slice A l.length c ∧ Tr w A c l

set_option maxRecDepth 100000 in
set_option maxHeartbeats 1600000 in
theorem refunder (A : Option Addr) (c : Nat) (l : List Itm) (q : ByteArray) (w : World) (h : Tr w A c l) (hq : q.size ≤ 140737488351232) :
    Calls Tryz.prog 70 #[.slice A l.length c, .string q] w fun e w' => (∃ B d, e = .returned (.slice B (l.filter (fun x => withinA q.toList x.p.toList)).length d) ∧ Tr w' B d (l.filter (fun x => withinA q.toList x.p.toList))) ∧ Below w.heap.size w w' := by
  obtain ⟨i0, hi0, hz0, hz1, hz2⟩ := info_parts infoItem
  have h48 := h.max
  go_enter Tryz.func70, Tryz.ntmps70
  go_wp2_with fail
  go_loopg [5, 6] l.length (fun k out i wr => ∃ (j : Nat) (pA : Option Addr) (pn pc : Nat), j ≤ l.length ∧ k = l.length - j ∧ i = .int .i64 j ∧ out = .slice pA pn pc ∧ Row wr 42 3 (.slice pA pn pc) (((l.take j).filter (fun x => withinA q.toList x.p.toList)).flatMap Itm.cells) ∧ Below w.heap.size w wr ∧
    (∀ k, (Value.slice pA pn pc).ownBlock = some k → w.heap.size ≤ k))
  case atStart => exact ⟨0, none, 0, 0, Nat.zero_le _, rfl, rfl, rfl, Row.nil _ _ _, Below.refl _ _, by simp [Value.ownBlock]⟩
  case round =>
    obtain ⟨j, pA, pn, pc, hj, rfl, rfl, rfl, hrow, hb, hf⟩ := hrel
    by_cases hlt : j < l.length
    · have k0 : (0 : Int) ≤ (j : Int) := by omega
      have k1 : (j : Int) < (l.length : Int) := by omega
      obtain ⟨b, off, hA, c0, c1, c2, hg⟩ := (h.below hb).at hlt
      have HW := hid (refwithin q l[j].p wr hq)
      subst hA
      have hnx : (l.take (j + 1)).filter (fun x => withinA q.toList x.p.toList) = (l.take j).filter (fun x => withinA q.toList x.p.toList) ++ (if withinA q.toList l[j].p.toList then [l[j]] else []) := by
        rw [List.take_add_one, List.filter_append, List.getElem?_eq_getElem hlt]
        simp [List.filter_cons]
      have HN := hid hnx
      have hle : ((l.take j).filter (fun x => withinA q.toList x.p.toList)).length ≤ j := Nat.le_trans (List.length_filter_le _ _) (by simp; omega)
      generalize (l.take j).filter (fun x => withinA q.toList x.p.toList) = L at *
      clear hnx
      cases hw : withinA q.toList l[j].p.toList
      · rw [hw] at HW
        go_wp2_with fail
        refine HW.out.mono ?_
        rintro e w' ⟨rfl, rfl⟩
        go_wp2_with fail
        go_roundg (l.length - (j + 1))
        case measure => omega
        case rel => exact ⟨j + 1, pA, pn, pc, by omega, rfl, by go_num, rfl, by rw [HN.out, hw]; simpa using hrow, hb, hf⟩
      · rw [hw] at HW
        have hc1 : (L.flatMap Itm.cells).length + l[j].cells.length ≤ maxLen := by rw [cells_len, show l[j].cells.length = 3 from rfl]; simp only [maxLen]; omega
        have hc2 : ((L.flatMap Itm.cells).length + l[j].cells.length) * 48 ≤ 140737488355328 := by rw [cells_len, show l[j].cells.length = 3 from rfl]; omega
        go_wp2_with fail
        refine HW.out.mono ?_
        rintro e w' ⟨rfl, rfl⟩
        go_wp2_with (at_builtin; refine wpList_append_row _ rfl _ _ 22 rfl 42 i0 (.agg #[.string ByteArray.empty, .bool false, .slice none 0 0]) 3 48 Tryz.underlying22 hi0 hz0 hz1 hz2 rfl (by decide) (.slice pA pn pc) (L.flatMap Itm.cells) rfl (by exact hrow.keep fun k hk => Below.heap_alloc wr _ _ (hrow.lt k hk)) (.slice (some ⟨wr.heap.size, 0, none⟩) 1 1) l[j].cells rfl (Src.item l[j] (heap_alloc_new _ _)) (by simp [Itm.cells, Value.oneCell']) hc1 hc2 ?_; intro bA bn bc w2 hr2 hg2 ha2)
        have hb2 : Below w.heap.size w w2 := Below.grownNew (hb.alloc hb.size (.cells #[.string l[j].p, .bool l[j].d, .slice l[j].dA l[j].bs.length l[j].dc] 42 (0, 0))) hg2 (by have := hb.size; simp; omega) hf
        have hf2 := fresh_of ha2 hf (by have := hb.size; simp; omega)
        go_roundg (l.length - (j + 1))
        case measure => omega
        case rel => exact ⟨j + 1, bA, bn, bc, by omega, rfl, by go_num, rfl, by rw [HN.out, hw, List.flatMap_append]; simpa using hr2, hb2, hf2⟩
    · obtain rfl : j = l.length := by omega
      rw [List.take_length] at hrow
      have hlen : ((l.filter fun x => withinA q.toList x.p.toList).length) ≤ l.length := List.length_filter_le _ _
      obtain ⟨rfl, ht⟩ := Tr.ofRow hrow (fun x hx => (h.good x (List.mem_filter.1 hx).1).below hb) (by omega)
      go_wp2_with fail
      go_ret
      exact ⟨⟨_, _, rfl, ht⟩, hb⟩

end Go.Proofs.YtfbbjfbnkcklgaaGreatDoor

/- the reference's without, put -/
namespace Go.Proofs.YtfbbjfbnkcklgaaGreatDoor
open Go.RowKit

end Go.Proofs.YtfbbjfbnkcklgaaGreatDoor
