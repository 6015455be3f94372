/- the reference's without, put -/
import Derived.Test.YtfoedcmcdpekoaaDoorI6
namespace Go.Proofs.YtfoedcmcdpekoaaDoor
open Go.RowKit

set_option maxRecDepth 100000 in
set_option maxHeartbeats 1600000 in
theorem refwithout (A : Option Addr) (c : Nat) (l : List Itm) (q : ByteArray) (w : World) (h : Tr w A c l) (hq : q.size ≤ 140737488351232) :
    Calls Tryd.prog 68 #[.slice A l.length c, .string q] w fun e w' => (∃ B d, e = .returned (.slice B (l.filter (fun x => !withinA q.toList x.p.toList)).length d) ∧ Tr w' B d (l.filter (fun x => !withinA q.toList x.p.toList))) ∧ Below w.heap.size w w' := by
  obtain ⟨i0, hi0, hz0, hz1, hz2⟩ := info_parts infoItem
  have h48 := h.max
  go_enter Tryd.func68, Tryd.ntmps68
  go_wp2_with fail
  go_loopg [5, 6] l.length (fun k out i wr => ∃ (j : Nat) (pA : Option Addr) (pn pc : Nat), j ≤ l.length ∧ k = l.length - j ∧ i = .int .i64 j ∧ out = .slice pA pn pc ∧ Row wr 30 3 (.slice pA pn pc) (((l.take j).filter (fun x => !withinA q.toList x.p.toList)).flatMap Itm.cells) ∧ Below w.heap.size w wr ∧
    (∀ k, (Value.slice pA pn pc).ownBlock = some k → w.heap.size ≤ k))
  case atStart => exact ⟨0, none, 0, 0, Nat.zero_le _, rfl, rfl, rfl, Row.nil _ _ _, Below.refl _ _, by simp [Value.ownBlock]⟩
  case round =>
    obtain ⟨j, pA, pn, pc, hj, rfl, rfl, rfl, hrow, hb, hf⟩ := hrel
    by_cases hlt : j < l.length
    · have k0 : (0 : Int) ≤ (j : Int) := by omega
      have k1 : (j : Int) < (l.length : Int) := by omega
      obtain ⟨b, off, hA, c0, c1, c2, hg⟩ := (h.below hb).at hlt
      have HW := hid (refwithin q l[j].p wr hq)
      subst hA
      have hnx : (l.take (j + 1)).filter (fun x => !withinA q.toList x.p.toList) = (l.take j).filter (fun x => !withinA q.toList x.p.toList) ++ (if withinA q.toList l[j].p.toList then [] else [l[j]]) := by
        rw [List.take_add_one, List.filter_append, List.getElem?_eq_getElem hlt]
        cases hw : withinA q.toList l[j].p.toList <;> simp [hw]
      have HN := hid hnx
      have hle : ((l.take j).filter (fun x => !withinA q.toList x.p.toList)).length ≤ j := Nat.le_trans (List.length_filter_le _ _) (by simp; omega)
      generalize (l.take j).filter (fun x => !withinA q.toList x.p.toList) = L at *
      clear hnx
      cases hw : withinA q.toList l[j].p.toList
      · rw [hw] at HW
        have hc1 : (L.flatMap Itm.cells).length + l[j].cells.length ≤ maxLen := by rw [cells_len, show l[j].cells.length = 3 from rfl]; simp only [maxLen]; omega
        have hc2 : ((L.flatMap Itm.cells).length + l[j].cells.length) * 48 ≤ 140737488355328 := by rw [cells_len, show l[j].cells.length = 3 from rfl]; omega
        go_wp2_with fail
        refine HW.out.mono ?_
        rintro e w' ⟨rfl, rfl⟩
        go_wp2_with (at_builtin; refine wpList_append_row _ rfl _ _ 26 rfl 30 i0 (.agg #[.string ByteArray.empty, .bool false, .slice none 0 0]) 3 48 Tryd.underlying26 hi0 hz0 hz1 hz2 rfl (by decide) (.slice pA pn pc) (L.flatMap Itm.cells) rfl (by exact hrow.keep fun k hk => Below.heap_alloc wr _ _ (hrow.lt k hk)) (.slice (some ⟨wr.heap.size, 0, none⟩) 1 1) l[j].cells rfl (Src.item l[j] (heap_alloc_new _ _)) (by simp [Itm.cells, Value.oneCell']) hc1 hc2 ?_; intro bA bn bc w2 hr2 hg2 ha2)
        have hb2 : Below w.heap.size w w2 := Below.grownNew (hb.alloc hb.size (.cells #[.string l[j].p, .bool l[j].d, .slice l[j].dA l[j].bs.length l[j].dc] 30 (0, 0))) hg2 (by have := hb.size; simp; omega) hf
        have hf2 := fresh_of ha2 hf (by have := hb.size; simp; omega)
        go_roundg (l.length - (j + 1))
        case measure => omega
        case rel => exact ⟨j + 1, bA, bn, bc, by omega, rfl, by go_num, rfl, by rw [HN.out, hw, List.flatMap_append]; simpa using hr2, hb2, hf2⟩
      · rw [hw] at HW
        go_wp2_with fail
        refine HW.out.mono ?_
        rintro e w' ⟨rfl, rfl⟩
        go_wp2_with fail
        go_roundg (l.length - (j + 1))
        case measure => omega
        case rel => exact ⟨j + 1, pA, pn, pc, by omega, rfl, by go_num, rfl, by rw [HN.out, hw]; simpa using hrow, hb, hf⟩
    · obtain rfl : j = l.length := by omega
      rw [List.take_length] at hrow
      have hlen : ((l.filter fun x => !withinA q.toList x.p.toList).length) ≤ l.length := List.length_filter_le _ _
      obtain ⟨rfl, ht⟩ := Tr.ofRow hrow (fun x hx => (h.good x (List.mem_filter.1 hx).1).below hb) (by omega)
      go_wp2_with fail
      go_ret
      exact ⟨⟨_, _, rfl, ht⟩, hb⟩

end Go.Proofs.YtfoedcmcdpekoaaDoor
