/- slices.Insert of one item into a row -/
import Derived.Test.YtfoedcmcdpekoaaDoorL1
namespace Go.Proofs.YtfoedcmcdpekoaaDoor
open Go.RowKit

theorem sizeItem (w : World) : (sizeOf 30).run Tryd.prog w = .ok 3 w := by
  obtain ⟨i0, hi0, hz0, hz1, hz2⟩ := info_parts infoItem
  simp [sizeOf, typeInfo, hi0, hz1]
theorem infoSize : (Tryd.prog.info? 30).map (·.size) = some 3 := by
  obtain ⟨i0, hi0, hz0, hz1, hz2⟩ := info_parts infoItem
  rw [hi0]; simp [hz1]

set_option maxRecDepth 100000 in
set_option maxHeartbeats 4000000 in
theorem insert_end (B : Option Addr) (d : Nat) (l : List Itm) (x : Itm) (vb : Nat) (w : World)
    (hrow : Row w 30 3 (.slice B l.length d) (l.flatMap Itm.cells)) (hlen : l.length ≤ 900000)
    (hv : w.heap[vb]? = some (.cells #[.string x.p, .bool x.d, .slice x.dA x.bs.length x.dc] 30 (0, 0))) :
    Calls Tryd.prog 69 #[.slice B l.length d, .int .i64 l.length, .slice (some ⟨vb, 0, none⟩) 1 1] w fun e w' => (∃ B' d', e = .returned (.slice B' (l.length + 1) d') ∧ Row w' 30 3 (.slice B' (l.length + 1) d') ((l ++ [x]).flatMap Itm.cells) ∧
      ((Value.slice B' (l.length + 1) d').ownBlock = (Value.slice B l.length d).ownBlock ∨ (Value.slice B' (l.length + 1) d').ownBlock = some w.heap.size)) ∧ w.grownBy w' (Value.slice B l.length d).ownBlock := by
  obtain ⟨i0, hi0, hz0, hz1, hz2⟩ := info_parts infoItem
  have hbd := app_bound (L := l) (x := x) (by omega)
  have hcap : l.length ≤ d := by obtain ⟨_, _, _, hv, _, hn, _⟩ := id hrow; cases hv; exact hn
  obtain ⟨A', n', c', w', hr, h2, h3, h4⟩ := run_append_row (P := Tryd.prog) w 40 40 30 i0 _ 3 48 Tryd.underlying40 hi0 hz0 hz1 hz2 rfl (by decide) _ _ hrow (.slice (some ⟨vb, 0, none⟩) 1 1) x.cells (Src.item x hv) (by simp [Itm.cells, Value.oneCell']) hbd.1 hbd.2
  obtain rfl : n' = l.length + 1 := by
    obtain ⟨_, _, _, hv, hl, _⟩ := id h2
    cases hv
    rw [List.length_append, cells_len] at hl
    simp [Itm.cells] at hl
    omega
  have hr' : (Builtin.append_ #[40, 26] 40 #[.slice B l.length d, .slice (some ⟨vb, 0, none⟩) 1 1]).run Tryd.prog w = .ok (.slice A' (l.length + 1) c') w' := by
    rw [append_types w Tryd.underlying40 Tryd.underlying26 hi0]
    exact hr
  have i1 : (0 : Int) ≤ (l.length : Int) := by omega
  have i2 : (l.length : Int) ≤ (d : Int) := by omega
  have HR := hid h2
  have HG := hid h3
  have HO := hid h4
  clear hr hrow h2 h3 h4 hbd
  by_cases hdl : d = l.length
  · subst hdl
    go_enter Tryd.func69, Tryd.ntmps69
    go_wp2_with (at_builtin; refine Lib.wpList_append_run _ rfl _ _ _ _ rfl _ _ rfl rfl _ _ hr' ?_)
    go_ret
    exact ⟨⟨A', c', rfl, by simpa using HR.out, HO.out⟩, HG.out⟩
  go_enter Tryd.func69, Tryd.ntmps69
  go_wp2_with (at_builtin; refine Lib.wpList_append_run _ rfl _ _ _ _ rfl _ _ rfl rfl _ _ hr' ?_)
  go_ret
  exact ⟨⟨A', c', rfl, by simpa using HR.out, HO.out⟩, HG.out⟩

end Go.Proofs.YtfoedcmcdpekoaaDoor
