/- copies between rows of items, appends of one item; for slices.Insert -/
import Derived.Test.YtfoedcmcdpekoaaDoorK9
import Derived.Lib.AppendZerosOnto
import Derived.Lib.Overlaps
import Derived.Laws.CopyRow
import Derived.Laws.Externs
import Derived.Shelf.RegionOpenPlain
namespace Go.Proofs.YtfoedcmcdpekoaaDoor
open Go.RowKit

section
variable {P : Program} (w : World)

/-- copy, elements of whatever size -/
theorem run_copy_sz (dT sT ty elem : TypeId) (sz g o dLen dCap m : Nat) (a : Addr) (sLen sCap : Nat) (cur : Array Value) (t : TypeId) (cs : List Value)
    (hu : P.underlying dT = some (.slice elem)) (hs : (P.info? elem).map (·.size) = some sz)
    (hg : w.heap[g]? = some (.cells cur t (0, 0))) (hm : Nat.min sLen dLen = m) (hn : cs.length = m * sz)
    (hsrc : ∀ j v, cs[j]? = some v → w.cell? (a.add j) = some v) (hfit : o + cs.length ≤ cur.size) (h1 : ∀ v ∈ cs, v.oneCell' = true) :
    (Builtin.copy_ #[dT, sT] ty #[.slice (some ⟨g, o, none⟩) dLen dCap, .slice (some a) sLen sCap]).run P w =
      .ok (goInt m) (w.setRow g (cur.toList.take o ++ cs ++ cur.toList.drop (o + cs.length)).toArray) := by
  have hl := run_firstCells_some (P := P) w sz m a sLen sCap cs hn hsrc
  have hst := run_storeCells_at P g o t cs 0 cur w hg (by simpa using hfit) h1
  simp only [Nat.add_zero] at hst
  cases hq : P.info? elem with
  | none => simp [hq] at hs
  | some i =>
    have hi : i.size = sz := by simpa [hq] using hs
    simp [Builtin.copy_, run_underlying hu, Builtin.lenOf, sizeOf, typeInfo, hq, hi, hm, hl, hst]

/-- two slice types of one element type: append does not tell them apart -/
theorem append_types {t t' e e' ty : TypeId} {i : TypeInfo} (ht : P.underlying t = some (.slice e)) (ht' : P.underlying t' = some (.slice e')) (hi : P.info? e = some i) (A B : Option Addr) (n c m d : Nat) :
    (Builtin.append_ #[t, t'] ty #[.slice A n c, .slice B m d]).run P w = (Builtin.append_ #[t, t] ty #[.slice A n c, .slice B m d]).run P w := by
  simp [Builtin.append_, run_underlying ht, run_underlying ht', sizeOf, typeInfo, hi, Builtin.lenOf]

theorem wp_copy_is {o : Oper} {a : Act} {K : Act → World → Prop} {Q : Exit → Act → World → Prop} (d s : Operand) (t t' : TypeId)
    (ho : o.op = .call { callee := .builtin .copy, args := #[d, s], argTypes := #[t, t'] }) (v u : Value) (hd : a.eval d = v) (hs : a.eval s = u) {v' : Value} {w' : World}
    (hr : (Builtin.copy_ #[t, t'] o.type #[v, u]).run P w = .ok v' w') (h : K (a.put o.dst v') w') : o.wp P a w K Q := by
  unfold Oper.wp execOp
  simp only [ho, resolve, invoke, builtin, Sem.run_bind, Sem.run_pure, Result.andThen_ok, List.map_toArray, List.map_cons, List.map_nil, hd, hs, hr]
  exact h

theorem wpList_copy_is {ops : Array Oper} {rest : List Oper} {o : Oper} {a : Act} {Q : Exit → Act → World → Prop} (hgd : o.guard = none) (d s : Operand) (t t' : TypeId)
    (ho : o.op = .call { callee := .builtin .copy, args := #[d, s], argTypes := #[t, t'] }) (v u : Value) (hd : a.eval d = v) (hs : a.eval s = u) {v' : Value} {w' : World}
    (hr : (Builtin.copy_ #[t, t'] o.type #[v, u]).run P w = .ok v' w') (h : wpList P ops Q rest (a.put o.dst v') w') : wpList P ops Q (o :: rest) a w :=
  wpList_plain hgd fun _ hK => wp_copy_is w d s t t' ho v u hd hs hr (hK _ _ h)

theorem step_copy_is {ops : Array Oper} {o : Oper} {a : Act} {K : Act → World → Prop} {Q : Exit → Act → World → Prop} {E : Prop}
    (hg : o.guard = none) (d x : Operand) (dT sT : TypeId) (hop : o.op = Op.call { callee := Callee.builtin Builtin.copy, args := #[d, x], argTypes := #[dT, sT] })
    (v u : Value) (hd : a.eval d = v) (hx : a.eval x = u) {v' : Value} {w' : World} (hr : (Builtin.copy_ #[dT, sT] o.type #[v, u]).run P w = .ok v' w') (hK : K (a.put o.dst v') w') :
    if Region.wanted o (yielded ops a.tmps) = true then Oper.wp P o a w K Q else E := by
  have hw : Region.wanted o (yielded ops a.tmps) = true := by simp [Region.wanted, hg]
  rw [if_pos hw]
  unfold Oper.wp
  simp [execOp, hop, resolve, invoke, builtin, hd, hx, hr, Result.andThen]
  exact hK
end

theorem setRow_belowN {N : Nat} {w W : World} (h : Below N w W) {g : Nat} (hg : N ≤ g) (row : Array Value) : Below N w (W.setRow g row) :=
  ⟨h.os, h.tape, h.output, by simpa using h.size, fun k hk => (setRow_other W g k row (by omega)).trans (h.block k hk)⟩

end Go.Proofs.YtfoedcmcdpekoaaDoor

/- slices.Insert of one item into a row -/
namespace Go.Proofs.YtfoedcmcdpekoaaDoor
open Go.RowKit

theorem sizeItem (w : World) : (sizeOf 30).run Tryd.prog w = .ok 3 w := by
  obtain ⟨i0, hi0, hz0, hz1, hz2⟩ := info_parts infoItem
  simp [sizeOf, typeInfo, hi0, hz1]
theorem infoSize : (Tryd.prog.info? 30).map (·.size) = some 3 := by
  obtain ⟨i0, hi0, hz0, hz1, hz2⟩ := info_parts infoItem
  rw [hi0]; simp [hz1]

set_option maxRecDepth 100000 in
set_option maxHeartbeats 4000000 in
theorem insert_end (B : Option Addr) (d : Nat) (l : List Itm) (x : Itm) (vb : Nat) (w : World)
    (hrow : Row w 30 3 (.slice B l.length d) (l.flatMap Itm.cells)) (hlen : l.length ≤ 900000)
    (hv : w.heap[vb]? = some (.cells #[.string x.p, .bool x.d, .slice x.dA x.bs.length x.dc] 30 (0, 0))) :
    Calls Tryd.prog 69 #[.slice B l.length d, .int .i64 l.length, .slice (some ⟨vb, 0, none⟩) 1 1] w fun e w' => (∃ B' d', e = .returned (.slice B' (l.length + 1) d') ∧ Row w' 30 3 (.slice B' (l.length + 1) d') ((l ++ [x]).flatMap Itm.cells) ∧
      ((Value.slice B' (l.length + 1) d').ownBlock = (Value.slice B l.length d).ownBlock ∨ (Value.slice B' (l.length + 1) d').ownBlock = some w.heap.size)) ∧ w.grownBy w' (Value.slice B l.length d).ownBlock := by
  obtain ⟨i0, hi0, hz0, hz1, hz2⟩ := info_parts infoItem
  have hbd := app_bound (L := l) (x := x) (by omega)
  have hcap : l.length ≤ d := by obtain ⟨_, _, _, hv, _, hn, _⟩ := id hrow; cases hv; exact hn
  obtain ⟨A', n', c', w', hr, h2, h3, h4⟩ := run_append_row (P := Tryd.prog) w 40 40 30 i0 _ 3 48 Tryd.underlying40 hi0 hz0 hz1 hz2 rfl (by decide) _ _ hrow (.slice (some ⟨vb, 0, none⟩) 1 1) x.cells (Src.item x hv) (by simp [Itm.cells, Value.oneCell']) hbd.1 hbd.2
  obtain rfl : n' = l.length + 1 := by
    obtain ⟨_, _, _, hv, hl, _⟩ := id h2
    cases hv
    rw [List.length_append, cells_len] at hl
    simp [Itm.cells] at hl
    omega
  have hr' : (Builtin.append_ #[40, 26] 40 #[.slice B l.length d, .slice (some ⟨vb, 0, none⟩) 1 1]).run Tryd.prog w = .ok (.slice A' (l.length + 1) c') w' := by
    rw [append_types w Tryd.underlying40 Tryd.underlying26 hi0]
    exact hr
  have i1 : (0 : Int) ≤ (l.length : Int) := by omega
  have i2 : (l.length : Int) ≤ (d : Int) := by omega
  have HR := hid h2
  have HG := hid h3
  have HO := hid h4
  clear hr hrow h2 h3 h4 hbd
  by_cases hdl : d = l.length
  · subst hdl
    go_enter Tryd.func69, Tryd.ntmps69
    go_wp2_with (at_builtin; refine Lib.wpList_append_run _ rfl _ _ _ _ rfl _ _ rfl rfl _ _ hr' ?_)
    go_ret
    exact ⟨⟨A', c', rfl, by simpa using HR.out, HO.out⟩, HG.out⟩
  go_enter Tryd.func69, Tryd.ntmps69
  go_wp2_with (at_builtin; refine Lib.wpList_append_run _ rfl _ _ _ _ rfl _ _ rfl rfl _ _ hr' ?_)
  go_ret
  exact ⟨⟨A', c', rfl, by simpa using HR.out, HO.out⟩, HG.out⟩

end Go.Proofs.YtfoedcmcdpekoaaDoor
