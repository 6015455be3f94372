/- copies between rows of items, appends of one item; for slices.Insert -/
import Derived.Test.YtheccdidfkcbbaaDoorK9
import Derived.Lib.AppendZerosOnto
import Derived.Lib.Overlaps
import Derived.Laws.CopyRow
import Derived.Laws.Externs
import Derived.Shelf.RegionOpenPlain
namespace Go.Proofs.YtheccdidfkcbbaaDoor
open Go.RowKit

section
variable {P : Program} (w : World)

/-- copy, elements of whatever size -/
theorem run_copy_sz (dT sT ty elem : TypeId) (sz g o dLen dCap m : Nat) (a : Addr) (sLen sCap : Nat) (cur : Array Value) (t : TypeId) (cs : List Value)
    (hu : P.underlying dT = some (.slice elem)) (hs : (P.info? elem).map (·.size) = some sz)
    (hg : w.heap[g]? = some (.cells cur t (0, 0))) (hm : Nat.min sLen dLen = m) (hn : cs.length = m * sz)
    (hsrc : ∀ j v, cs[j]? = some v → w.cell? (a.add j) = some v) (hfit : o + cs.length ≤ cur.size) (h1 : ∀ v ∈ cs, v.oneCell' = true) :
    (Builtin.copy_ #[dT, sT] ty #[.slice (some ⟨g, o, none⟩) dLen dCap, .slice (some a) sLen sCap]).run P w =
      .ok (goInt m) (w.setRow g (cur.toList.take o ++ cs ++ cur.toList.drop (o + cs.length)).toArray) := by
  have hl := run_firstCells_some (P := P) w sz m a sLen sCap cs hn hsrc
  have hst := run_storeCells_at P g o t cs 0 cur w hg (by simpa using hfit) h1
  simp only [Nat.add_zero] at hst
  cases hq : P.info? elem with
  | none => simp [hq] at hs
  | some i =>
    have hi : i.size = sz := by simpa [hq] using hs
    simp [Builtin.copy_, run_underlying hu, Builtin.lenOf, sizeOf, typeInfo, hq, hi, hm, hl, hst]

/-- two slice types of one element type: append does not tell them apart -/
theorem append_types {t t' e e' ty : TypeId} {i : TypeInfo} (ht : P.underlying t = some (.slice e)) (ht' : P.underlying t' = some (.slice e')) (hi : P.info? e = some i) (A B : Option Addr) (n c m d : Nat) :
    (Builtin.append_ #[t, t'] ty #[.slice A n c, .slice B m d]).run P w = (Builtin.append_ #[t, t] ty #[.slice A n c, .slice B m d]).run P w := by
  simp [Builtin.append_, run_underlying ht, run_underlying ht', sizeOf, typeInfo, hi, Builtin.lenOf]

theorem wp_copy_is {o : Oper} {a : Act} {K : Act → World → Prop} {Q : Exit → Act → World → Prop} (d s : Operand) (t t' : TypeId)
    (ho : o.op = .call { callee := .builtin .copy, args := #[d, s], argTypes := #[t, t'] }) (v u : Value) (hd : a.eval d = v) (hs : a.eval s = u) {v' : Value} {w' : World}
    (hr : (Builtin.copy_ #[t, t'] o.type #[v, u]).run P w = .ok v' w') (h : K (a.put o.dst v') w') : o.wp P a w K Q := by
  unfold Oper.wp execOp
  simp only [ho, resolve, invoke, builtin, Sem.run_bind, Sem.run_pure, Result.andThen_ok, List.map_toArray, List.map_cons, List.map_nil, hd, hs, hr]
  exact h

theorem wpList_copy_is {ops : Array Oper} {rest : List Oper} {o : Oper} {a : Act} {Q : Exit → Act → World → Prop} (hgd : o.guard = none) (d s : Operand) (t t' : TypeId)
    (ho : o.op = .call { callee := .builtin .copy, args := #[d, s], argTypes := #[t, t'] }) (v u : Value) (hd : a.eval d = v) (hs : a.eval s = u) {v' : Value} {w' : World}
    (hr : (Builtin.copy_ #[t, t'] o.type #[v, u]).run P w = .ok v' w') (h : wpList P ops Q rest (a.put o.dst v') w') : wpList P ops Q (o :: rest) a w :=
  wpList_plain hgd fun _ hK => wp_copy_is w d s t t' ho v u hd hs hr (hK _ _ h)

theorem step_copy_is {ops : Array Oper} {o : Oper} {a : Act} {K : Act → World → Prop} {Q : Exit → Act → World → Prop} {E : Prop}
    (hg : o.guard = none) (d x : Operand) (dT sT : TypeId) (hop : o.op = Op.call { callee := Callee.builtin Builtin.copy, args := #[d, x], argTypes := #[dT, sT] })
    (v u : Value) (hd : a.eval d = v) (hx : a.eval x = u) {v' : Value} {w' : World} (hr : (Builtin.copy_ #[dT, sT] o.type #[v, u]).run P w = .ok v' w') (hK : K (a.put o.dst v') w') :
    if Region.wanted o (yielded ops a.tmps) = true then Oper.wp P o a w K Q else E := by
  have hw : Region.wanted o (yielded ops a.tmps) = true := by simp [Region.wanted, hg]
  rw [if_pos hw]
  unfold Oper.wp
  simp [execOp, hop, resolve, invoke, builtin, hd, hx, hr, Result.andThen]
  exact hK
end

theorem setRow_belowN {N : Nat} {w W : World} (h : Below N w W) {g : Nat} (hg : N ≤ g) (row : Array Value) : Below N w (W.setRow g row) :=
  ⟨h.os, h.tape, h.output, by simpa using h.size, fun k hk => (setRow_other W g k row (by omega)).trans (h.block k hk)⟩

end Go.Proofs.YtheccdidfkcbbaaDoor

/- slices.Insert of one item into a row -/
namespace Go.Proofs.YtheccdidfkcbbaaDoor
open Go.RowKit

theorem sizeItem (w : World) : (sizeOf 31).run Tryd.prog w = .ok 3 w := by
  obtain ⟨i0, hi0, hz0, hz1, hz2⟩ := info_parts infoItem
  simp [sizeOf, typeInfo, hi0, hz1]
theorem infoSize : (Tryd.prog.info? 31).map (·.size) = some 3 := by
  obtain ⟨i0, hi0, hz0, hz1, hz2⟩ := info_parts infoItem
  rw [hi0]; simp [hz1]

set_option maxRecDepth 100000 in
set_option maxHeartbeats 4000000 in
theorem insert_end (B : Option Addr) (d : Nat) (l : List Itm) (x : Itm) (vb : Nat) (w : World)
    (hrow : Row w 31 3 (.slice B l.length d) (l.flatMap Itm.cells)) (hlen : l.length ≤ 900000)
    (hv : w.heap[vb]? = some (.cells #[.string x.p, .bool x.d, .slice x.dA x.bs.length x.dc] 31 (0, 0))) :
    Calls Tryd.prog 73 #[.slice B l.length d, .int .i64 l.length, .slice (some ⟨vb, 0, none⟩) 1 1] w fun e w' => (∃ B' d', e = .returned (.slice B' (l.length + 1) d') ∧ Row w' 31 3 (.slice B' (l.length + 1) d') ((l ++ [x]).flatMap Itm.cells) ∧
      ((Value.slice B' (l.length + 1) d').ownBlock = (Value.slice B l.length d).ownBlock ∨ (Value.slice B' (l.length + 1) d').ownBlock = some w.heap.size)) ∧ w.grownBy w' (Value.slice B l.length d).ownBlock := by
  obtain ⟨i0, hi0, hz0, hz1, hz2⟩ := info_parts infoItem
  have hbd := app_bound (L := l) (x := x) (by omega)
  have hcap : l.length ≤ d := by obtain ⟨_, _, _, hv, _, hn, _⟩ := id hrow; cases hv; exact hn
  obtain ⟨A', n', c', w', hr, h2, h3, h4⟩ := run_append_row (P := Tryd.prog) w 40 40 31 i0 _ 3 48 Tryd.underlying40 hi0 hz0 hz1 hz2 rfl (by decide) _ _ hrow (.slice (some ⟨vb, 0, none⟩) 1 1) x.cells (Src.item x hv) (by simp [Itm.cells, Value.oneCell']) hbd.1 hbd.2
  obtain rfl : n' = l.length + 1 := by
    obtain ⟨_, _, _, hv, hl, _⟩ := id h2
    cases hv
    rw [List.length_append, cells_len] at hl
    simp [Itm.cells] at hl
    omega
  have hr' : (Builtin.append_ #[40, 22] 40 #[.slice B l.length d, .slice (some ⟨vb, 0, none⟩) 1 1]).run Tryd.prog w = .ok (.slice A' (l.length + 1) c') w' := by
    rw [append_types w Tryd.underlying40 Tryd.underlying22 hi0]
    exact hr
  have i1 : (0 : Int) ≤ (l.length : Int) := by omega
  have i2 : (l.length : Int) ≤ (d : Int) := by omega
  have HR := hid h2
  have HG := hid h3
  have HO := hid h4
  clear hr hrow h2 h3 h4 hbd
  by_cases hdl : d = l.length
  · subst hdl
    go_enter Tryd.func73, Tryd.ntmps73
    go_wp2_with (at_builtin; refine Lib.wpList_append_run _ rfl _ _ _ _ rfl _ _ rfl rfl _ _ hr' ?_)
    go_ret
    exact ⟨⟨A', c', rfl, by simpa using HR.out, HO.out⟩, HG.out⟩
  go_enter Tryd.func73, Tryd.ntmps73
  go_wp2_with (at_builtin; refine Lib.wpList_append_run _ rfl _ _ _ _ rfl _ _ rfl rfl _ _ hr' ?_)
  go_ret
  exact ⟨⟨A', c', rfl, by simpa using HR.out, HO.out⟩, HG.out⟩

end Go.Proofs.YtheccdidfkcbbaaDoor

/- slices.Insert of one item into a row: there is room -/
namespace Go.Proofs.YtheccdidfkcbbaaDoor
open Go.RowKit

theorem cells_app (a b : List Itm) : (a ++ b).flatMap Itm.cells = a.flatMap Itm.cells ++ b.flatMap Itm.cells := List.flatMap_append
theorem cells_take (l : List Itm) (i : Nat) : (l.flatMap Itm.cells).take (i * 3) = (l.take i).flatMap Itm.cells := by
  induction l generalizing i with
  | nil => simp
  | cons x r ih =>
    cases i with
    | zero => simp
    | succ i => rw [List.flatMap_cons, List.take_append, List.take_of_length_le (by simp [Itm.cells]; omega), List.take_succ_cons, List.flatMap_cons, show (i + 1) * 3 - x.cells.length = i * 3 by simp [Itm.cells]; omega, ih]
theorem cells_drop (l : List Itm) (i : Nat) : (l.flatMap Itm.cells).drop (i * 3) = (l.drop i).flatMap Itm.cells := by
  induction l generalizing i with
  | nil => simp
  | cons x r ih =>
    cases i with
    | zero => simp
    | succ i => rw [List.flatMap_cons, List.drop_append, List.drop_of_length_le (by simp [Itm.cells]; omega), List.drop_succ_cons, List.nil_append, show (i + 1) * 3 - x.cells.length = i * 3 by simp [Itm.cells]; omega, ih]

theorem shift_list {c P D X : List Value} {o k m : Nat} (hP : P.length = k) (hX : X.length = 3) (hD : D.length = m) (hc : (c.drop o).take (k + m) = P ++ D) (hs : o + k + m + 3 ≤ c.length) (R1 R2 : List Value)
    (h1 : R1 = c.take (o + k + 3) ++ D ++ c.drop (o + k + 3 + m)) (h2 : R2 = R1.take (o + k) ++ X ++ R1.drop (o + k + 3)) : (R2.drop o).take (k + 3 + m) = P ++ X ++ D ∧ R2.length = c.length ∧ R1.length = c.length := by
  have e1 : c.take (o + k) = c.take o ++ P := by
    rw [List.take_add]
    congr 1
    have := congrArg (List.take k) hc
    rw [List.take_take, Nat.min_eq_left (by omega), List.take_left' hP] at this
    exact this
  have l1 : (c.take (o + k + 3)).length = o + k + 3 := by rw [List.length_take]; omega
  have l2 : (c.take o).length = o := by rw [List.length_take]; omega
  have t1 : R1.take (o + k) = c.take o ++ P := by
    rw [h1, List.append_assoc, List.take_append_of_le_length (by omega), List.take_take, Nat.min_eq_left (by omega), e1]
  have t2 : R1.drop (o + k + 3) = D ++ c.drop (o + k + 3 + m) := by
    rw [h1, List.append_assoc, List.drop_left' l1]
  have t3 : R2 = c.take o ++ (P ++ X ++ D ++ c.drop (o + k + 3 + m)) := by rw [h2, t1, t2]; simp
  refine ⟨?_, ?_, ?_⟩
  · rw [t3, List.drop_left' l2, List.take_left' (by simp; omega)]
  · rw [t3]; simp; omega
  · rw [h1]; simp; omega

set_option maxRecDepth 100000 in
set_option maxHeartbeats 4000000 in
theorem insert_room (b off d : Nat) (l : List Itm) (i : Nat) (x : Itm) (vb : Nat) (w : World) (hi : i < l.length) (hroom : l.length + 1 ≤ d)
    (hrow : Row w 31 3 (.slice (some ⟨b, off, none⟩) l.length d) (l.flatMap Itm.cells)) (hlen : l.length ≤ 900000) (hne : vb ≠ b)
    (hv : w.heap[vb]? = some (.cells #[.string x.p, .bool x.d, .slice x.dA x.bs.length x.dc] 31 (0, 0))) :
    Calls Tryd.prog 73 #[.slice (some ⟨b, off, none⟩) l.length d, .int .i64 i, .slice (some ⟨vb, 0, none⟩) 1 1] w fun e w' => (e = .returned (.slice (some ⟨b, off, none⟩) (l.length + 1) d) ∧ Row w' 31 3 (.slice (some ⟨b, off, none⟩) (l.length + 1) d) ((l.take i ++ x :: l.drop i).flatMap Itm.cells)) ∧ w.grownBy w' (some b) := by
  have hw1 : IntKind.i64.wrap ((i : Int) + 1) = (i : Int) + 1 := by rw [IntKind.wrap_i64]; omega
  have hw2 : wrap64 ((i : Int) + 1) = (i : Int) + 1 := by unfold wrap64; omega
  have hb1 : (0 : Int) ≤ (i : Int) + 1 := by omega
  have htn : ((i : Int) + 1).toNat = i + 1 := by omega
  have hb0 : (0 : Int) ≤ (i : Int) := by omega
  have hb2 : ¬ (d = i + 1) := by omega
  have hb3 : (i : Int) + 1 ≤ (l.length : Int) + 1 := by omega
  have hb5 : (i : Int) ≤ (l.length : Int) + 1 := by omega
  have hb4 : ¬ (d = i) := by omega
  have hb6 : (i : Int) ≤ (l.length : Int) := by omega
  have hb7 : ¬ ((i : Int) = (l.length : Int)) := by omega
  obtain ⟨_, _, _, hv', hl, hn, hc, hh⟩ := hrow
  cases hv'
  rcases hh with ⟨h, _⟩ | ⟨b', off', cs, h, hb, hs, ht⟩
  · cases h
  cases h
  have hsl := infoSize
  have hmax : d ≤ 9223372036854775807 := by simp only [maxLen] at hc; omega
  have hdl : ((l.drop i).flatMap Itm.cells).length = (l.length - i) * 3 := by rw [cells_len, List.length_drop]
  have hsrc1 : ∀ j v, ((l.drop i).flatMap Itm.cells)[j]? = some v → w.cell? ((⟨b, off + i * 3, none⟩ : Addr).add j) = some v := by
    intro j v hj
    have hjl : j < (l.length - i) * 3 := by rw [← hdl]; exact (List.getElem?_eq_some_iff.1 hj).1
    rw [add_lit', blkCell hb]
    rw [← cells_drop, List.getElem?_drop, ← ht, List.getElem?_take, if_pos (by omega), List.getElem?_drop] at hj
    rw [Nat.add_assoc]; simpa using hj
  have htk : (cs.toList.drop off).take (i * 3 + (l.length - i) * 3) = (l.take i).flatMap Itm.cells ++ (l.drop i).flatMap Itm.cells := by
    rw [show i * 3 + (l.length - i) * 3 = l.length * 3 by omega, ht, ← cells_app, List.take_append_drop]
  obtain ⟨R1, hR1⟩ : ∃ R1 : List Value, R1 = cs.toList.take (off + i * 3 + 3) ++ (l.drop i).flatMap Itm.cells ++ cs.toList.drop (off + i * 3 + 3 + (l.length - i) * 3) := ⟨_, rfl⟩
  obtain ⟨R2, hR2⟩ : ∃ R2 : List Value, R2 = R1.take (off + i * 3) ++ x.cells ++ R1.drop (off + i * 3 + 3) := ⟨_, rfl⟩
  obtain ⟨hfin, hlen2, hlen1⟩ := shift_list (X := x.cells) (by rw [cells_len, List.length_take]; omega) rfl hdl htk (by have := Array.length_toList (xs := cs); omega) R1 R2 hR1 hR2
  rw [Array.length_toList (xs := cs)] at hlen1 hlen2
  have hcp1 : ∀ ty dc sc, (Builtin.copy_ #[40, 40] ty #[.slice (some ⟨b, off + (i + 1) * 3, none⟩) (l.length - i) dc, .slice (some ⟨b, off + i * 3, none⟩) (l.length + 1 - i) sc]).run Tryd.prog w.drew = .ok (goInt (l.length - i : Nat)) (w.drew.setRow b R1.toArray) := fun ty dc sc => by
    have h := run_copy_sz (P := Tryd.prog) w.drew 40 40 ty 31 3 b (off + (i + 1) * 3) (l.length - i) dc (l.length - i) ⟨b, off + i * 3, none⟩ (l.length + 1 - i) sc cs 31 _ Tryd.underlying40 hsl hb (by simp only [Nat.min_def]; split <;> omega) hdl hsrc1 (by rw [hdl]; omega) (cells_one _)
    rw [h, hR1, hdl, show off + (i + 1) * 3 = off + i * 3 + 3 by omega]
  have hb1' : (w.drew.setRow b R1.toArray).heap[b]? = some (.cells R1.toArray 31 (0, 0)) := setRow_heap w.drew b cs _ _ _ hb
  have hv1' : (w.drew.setRow b R1.toArray).heap[vb]? = some (.cells #[.string x.p, .bool x.d, .slice x.dA x.bs.length x.dc] 31 (0, 0)) := (setRow_other w.drew b vb _ hne).trans hv
  have hcp2 : ∀ ty dc, (Builtin.copy_ #[40, 22] ty #[.slice (some ⟨b, off + i * 3, none⟩) (l.length + 1 - i) dc, .slice (some ⟨vb, 0, none⟩) 1 1]).run Tryd.prog (w.drew.setRow b R1.toArray) = .ok (goInt (1 : Nat)) ((w.drew.setRow b R1.toArray).setRow b R2.toArray) := fun ty dc => by
    have h := run_copy_sz (P := Tryd.prog) (w.drew.setRow b R1.toArray) 40 22 ty 31 3 b (off + i * 3) (l.length + 1 - i) dc 1 ⟨vb, 0, none⟩ 1 1 R1.toArray 31 x.cells Tryd.underlying40 hsl hb1' (by simp only [Nat.min_def]; split <;> omega) rfl (fun j v hj => by
      rw [add_lit', Nat.zero_add, blkCell hv1']; simpa [Itm.cells] using hj) (by rw [List.size_toArray, hlen1, show x.cells.length = 3 from rfl]; omega) (by simp [Itm.cells, Value.oneCell'])
    rw [h, hR2]; rfl
  have hov : ∀ lb cb, (callFunc 79 #[.slice (some ⟨vb, 0, none⟩) 1 1, .slice (some ⟨b, off + (i + 1) * 3, none⟩) lb cb]).run Tryd.prog w = .ok (.value (.bool false)) w := fun lb cb => by
    rw [run_callFunc_extern Tryd.func79 (by kernel_rfl) (by kernel_rfl) (by kernel_rfl) (e := Extern.SlicesOverlaps.overlaps #[22, 22] #[4]) (by kernel_rfl),
      Lib.run_overlaps_apart w 22 4 31 Tryd.underlying22 3 sizeItem ⟨vb, 0, none⟩ ⟨b, off + (i + 1) * 3, none⟩ 1 1 lb cb hne 31 31 3 cs.size (by simp [World.shape?, hv]) (by simp [World.shape?, hb]) (by omega) (blkFree hv 0) (blkFree hv 3)]
    rfl
  have HCP := hid hcp1
  have HCP2 := hid hcp2
  have HF : HidP (Row ((w.drew.setRow b R1.toArray).setRow b R2.toArray) 31 3 (.slice (some ⟨b, off, none⟩) (l.length + 1) d) ((l.take i ++ x :: l.drop i).flatMap Itm.cells)) := hid (by
    refine ⟨_, l.length + 1, d, rfl, by rw [cells_len]; simp; omega, hroom, hc, .inr ⟨b, off, R2.toArray, rfl, setRow_heap (w.drew.setRow b R1.toArray) b _ _ _ _ hb1', by rw [List.size_toArray, hlen2]; exact hs, ?_⟩⟩
    rw [show (l.length + 1) * 3 = i * 3 + 3 + (l.length - i) * 3 by omega]
    rw [hfin, cells_app, List.flatMap_cons]
    simp)
  have HOV := hid hov
  clear hcp1 hcp2 ht hsrc1 hov hdl hsl hl hs htk hR1 hR2 hfin hlen1 hlen2 hb1' hv1' hc
  go_enter Tryd.func73, Tryd.ntmps73
  go_wp2_with fail
  rw [HOV.out]
  rw [Oper.upon_value]
  go_wp2_with fail
  go_region_law (refine step_copy_is _ rfl _ _ 40 40 rfl (.slice (some ⟨b, off + (i + 1) * 3, none⟩) (l.length - i) (d - (i + 1))) (.slice (some ⟨b, off + i * 3, none⟩) (l.length + 1 - i) (d - i)) (by simp [Act.eval, Act.put]) (by simp [Act.eval, Act.put]) (HCP.out _ _ _) ?_)
  go_wp2_with fail
  rw [HCP2.out]
  simp only [Result.andThen]
  rw [Oper.upon_value]
  go_wp2_with fail
  go_ret
  exact ⟨⟨rfl, HF.out⟩, rfl, rfl, rfl, by simp, fun k hk hne => by
    rw [setRow_other _ _ _ _ (by rintro rfl; exact hne rfl), setRow_other _ _ _ _ (by rintro rfl; exact hne rfl)]; rfl⟩

end Go.Proofs.YtheccdidfkcbbaaDoor

/- slices.Insert of one item into a row: there is no room -/
namespace Go.Proofs.YtheccdidfkcbbaaDoor
open Go.RowKit

theorem grow_list {P D X Z : List Value} {k m : Nat} (hP : P.length = k) (hX : X.length = 3) (hD : D.length = m) (c R1 R2 : List Value) (hc : c = P ++ Z) (hs : k + m + 3 ≤ c.length)
    (h1 : R1 = c.take k ++ X ++ c.drop (k + 3)) (h2 : R2 = R1.take (k + 3) ++ D ++ R1.drop (k + 3 + m)) : R2.take (k + 3 + m) = P ++ X ++ D ∧ R2.length = c.length ∧ R1.length = c.length := by
  have e1 : c.take k = P := by rw [hc, List.take_left' hP]
  rw [e1] at h1
  have t1 : R1.take (k + 3) = P ++ X := by rw [h1, List.take_left' (by simp; omega)]
  rw [t1] at h2
  have l1 : R1.length = c.length := by rw [h1]; simp; omega
  refine ⟨?_, ?_, l1⟩
  · rw [h2, List.take_left' (by simp; omega)]
  · rw [h2]; simp; omega

set_option maxRecDepth 100000 in
set_option maxHeartbeats 8000000 in
theorem insert_grow (b off d : Nat) (l : List Itm) (i : Nat) (x : Itm) (vb : Nat) (w : World) (hi : i < l.length) (hroom : d < l.length + 1)
    (hrow : Row w 31 3 (.slice (some ⟨b, off, none⟩) l.length d) (l.flatMap Itm.cells)) (hlen : l.length ≤ 900000)
    (hv : w.heap[vb]? = some (.cells #[.string x.p, .bool x.d, .slice x.dA x.bs.length x.dc] 31 (0, 0))) :
    Calls Tryd.prog 73 #[.slice (some ⟨b, off, none⟩) l.length d, .int .i64 i, .slice (some ⟨vb, 0, none⟩) 1 1] w fun e w' => (∃ G, e = .returned (.slice (some ⟨w.heap.size, 0, none⟩) (l.length + 1) G) ∧ Row w' 31 3 (.slice (some ⟨w.heap.size, 0, none⟩) (l.length + 1) G) ((l.take i ++ x :: l.drop i).flatMap Itm.cells)) ∧ w.grownBy w' none := by
  obtain ⟨i0, hi0, hz0, hz1, hz2⟩ := info_parts infoItem
  have hw1 : IntKind.i64.wrap ((i : Int) + 1) = (i : Int) + 1 := by rw [IntKind.wrap_i64]; omega
  have hw2 : wrap64 ((i : Int) + 1) = (i : Int) + 1 := by unfold wrap64; omega
  have hb1 : (0 : Int) ≤ (i : Int) + 1 := by omega
  have htn : ((i : Int) + 1).toNat = i + 1 := by omega
  have hb0 : (0 : Int) ≤ (i : Int) := by omega
  have hdeq : d = l.length := by
    obtain ⟨_, _, _, hv', _, hn, _⟩ := id hrow
    cases hv'
    omega
  subst hdeq
  have hb2 : ¬ (l.length = i) := by omega
  have hb3 : (i : Int) + 1 ≤ (l.length : Int) + 1 := by omega
  have hb5 : (i : Int) ≤ (l.length : Int) + 1 := by omega
  have hb6 : (i : Int) ≤ (l.length : Int) := by omega
  have hb7 : ¬ ((i : Int) = (l.length : Int)) := by omega
  have hkk : (l.length : Int) + 1 - (i : Int) = ((l.length + 1 - i : Nat) : Int) := by omega
  have hik : i + (l.length + 1 - i) = l.length + 1 := by omega
  have hsl := infoSize
  have hblt := hrow.lt b rfl
  have hsrc : ∀ j v, (l.flatMap Itm.cells)[j]? = some v → w.cell? (⟨b, off + j, none⟩) = some v := by
    intro j v hj
    obtain ⟨_, _, _, hv', _, _, _, hh⟩ := hrow.src
    cases hv'
    obtain ⟨a, ha, hc⟩ := hh j v hj
    cases ha
    rwa [add_lit'] at hc
  have hvlt := blkLt hv
  have hold : (Builtin.firstCells i0.size i (.slice (some ⟨b, off, none⟩) i l.length)).run Tryd.prog w.drew = .ok ((l.take i).flatMap Itm.cells).toArray w.drew := by
    rw [hz1]
    exact run_firstCells_some w.drew 3 i ⟨b, off, none⟩ i l.length _ (by rw [cells_len, List.length_take]; omega) (fun j v hj => by
      rw [add_lit']
      rw [← cells_take, List.getElem?_take] at hj
      split at hj
      · exact hsrc j v hj
      · cases hj)
  have hbig : (l.length + 1) * 48 ≤ 140737488355328 := by omega
  have hrz : ∀ ty, (Builtin.append_ #[40, 3] ty #[.slice (some ⟨b, off, none⟩) i l.length, .int .i64 ((l.length : Int) + 1 - (i : Int))]).run Tryd.prog w =
      .ok (.slice (some ⟨w.heap.size, 0, none⟩) (l.length + 1) (grownCap w (l.length + 1) l.length 31)) (w.drew.alloc (.cells (((l.take i).flatMap Itm.cells).toArray ++ Builtin.zeroCells (Value.agg #[.string ByteArray.empty, .bool false, .slice none 0 0]).cells (l.length + 1 - i) ++ Builtin.zeroCells (Value.agg #[.string ByteArray.empty, .bool false, .slice none 0 0]).cells (grownCap w (l.length + 1) l.length 31 - (l.length + 1))) 31)) := fun ty => by
    have h := Lib.run_append_grow_zeros (P := Tryd.prog) w 40 3 ty 31 i0 _ .i64 .i64 Tryd.underlying40 Tryd.underlying3 hi0 hz0 (some ⟨b, off, none⟩) i l.length _ hold (l.length + 1 - i) (by omega) (by rw [hz1]; omega) (by omega) (by omega) (by rw [hz2]; omega) (by rw [hz2, hik]; exact growslice_fits (by omega) hbig)
    rw [hik] at h
    rw [hkk]
    exact h
  have hGn : l.length + 1 ≤ grownCap w (l.length + 1) l.length 31 := grownCap_ge w _ _ _
  have hGm : grownCap w (l.length + 1) l.length 31 ≤ maxLen := grownCap_le_maxLen w _ _ _ (by simp only [maxLen]; omega)
  generalize grownCap w (l.length + 1) l.length 31 = G at *
  obtain ⟨Z, hZ⟩ : ∃ Z : List Value, Z = (Builtin.zeroCells (Value.agg #[.string ByteArray.empty, .bool false, .slice none 0 0]).cells (l.length + 1 - i)).toList ++ (Builtin.zeroCells (Value.agg #[.string ByteArray.empty, .bool false, .slice none 0 0]).cells (G - (l.length + 1))).toList := ⟨_, rfl⟩
  have hzl : Z.length = (G - i) * 3 := by
    simp only [hZ, List.length_append, Array.length_toList, size_zeroCells]
    show (l.length + 1 - i) * 3 + (G - (l.length + 1)) * 3 = _
    omega
  obtain ⟨C, hC⟩ : ∃ C : List Value, C = (l.take i).flatMap Itm.cells ++ Z := ⟨_, rfl⟩
  have hpl : ((l.take i).flatMap Itm.cells).length = i * 3 := by rw [cells_len, List.length_take]; omega
  have hdl : ((l.drop i).flatMap Itm.cells).length = (l.length - i) * 3 := by rw [cells_len, List.length_drop]
  have hCl : C.length = G * 3 := by rw [hC, List.length_append, hpl, hzl]; omega
  have hROW : ((l.take i).flatMap Itm.cells).toArray ++ Builtin.zeroCells (Value.agg #[.string ByteArray.empty, .bool false, .slice none 0 0]).cells (l.length + 1 - i) ++ Builtin.zeroCells (Value.agg #[.string ByteArray.empty, .bool false, .slice none 0 0]).cells (G - (l.length + 1)) = C.toArray := by
    rw [hC, hZ]
    apply Array.toList_inj.1
    simp
  rw [hROW] at hrz
  obtain ⟨R1, hR1⟩ : ∃ R1 : List Value, R1 = C.take (i * 3) ++ x.cells ++ C.drop (i * 3 + 3) := ⟨_, rfl⟩
  obtain ⟨R2, hR2⟩ : ∃ R2 : List Value, R2 = R1.take (i * 3 + 3) ++ (l.drop i).flatMap Itm.cells ++ R1.drop (i * 3 + 3 + (l.length - i) * 3) := ⟨_, rfl⟩
  obtain ⟨hfin, hlen2, hlen1⟩ := grow_list (X := x.cells) (Z := Z) hpl rfl hdl C R1 R2 hC (by rw [hCl]; omega) hR1 hR2
  have hc1 : (w.drew.alloc (.cells C.toArray 31 (0, 0))).heap[w.heap.size]? = some (.cells C.toArray 31 (0, 0)) := heap_alloc_new w.drew _
  have hv1 : (w.drew.alloc (.cells C.toArray 31 (0, 0))).heap[vb]? = some (.cells #[.string x.p, .bool x.d, .slice x.dA x.bs.length x.dc] 31 (0, 0)) := (heap_alloc_old w.drew _ hvlt).trans hv
  have hcpA : ∀ ty dc, (Builtin.copy_ #[40, 22] ty #[.slice (some ⟨w.heap.size, i * 3, none⟩) (l.length + 1 - i) dc, .slice (some ⟨vb, 0, none⟩) 1 1]).run Tryd.prog (w.drew.alloc (.cells C.toArray 31 (0, 0))) = .ok (goInt (1 : Nat)) ((w.drew.alloc (.cells C.toArray 31 (0, 0))).setRow w.heap.size R1.toArray) := fun ty dc => by
    have h := run_copy_sz (P := Tryd.prog) (w.drew.alloc (.cells C.toArray 31 (0, 0))) 40 22 ty 31 3 w.heap.size (i * 3) (l.length + 1 - i) dc 1 ⟨vb, 0, none⟩ 1 1 C.toArray 31 x.cells Tryd.underlying40 hsl hc1 (by simp only [Nat.min_def]; split <;> omega) rfl (fun j v hj => by
      rw [add_lit', Nat.zero_add, blkCell hv1]; simpa [Itm.cells] using hj) (by rw [List.size_toArray, hCl, show x.cells.length = 3 from rfl]; omega) (by simp [Itm.cells, Value.oneCell'])
    rw [h, hR1]; rfl
  have hc2 : ((w.drew.alloc (.cells C.toArray 31 (0, 0))).setRow w.heap.size R1.toArray).drew.heap[w.heap.size]? = some (.cells R1.toArray 31 (0, 0)) := setRow_heap (w.drew.alloc (.cells C.toArray 31 (0, 0))) _ _ _ _ _ hc1
  have hcpB : ∀ ty dc sc, (Builtin.copy_ #[40, 40] ty #[.slice (some ⟨w.heap.size, (i + 1) * 3, none⟩) (l.length - i) dc, .slice (some ⟨b, off + i * 3, none⟩) (l.length - i) sc]).run Tryd.prog ((w.drew.alloc (.cells C.toArray 31 (0, 0))).setRow w.heap.size R1.toArray).drew = .ok (goInt (l.length - i : Nat)) (((w.drew.alloc (.cells C.toArray 31 (0, 0))).setRow w.heap.size R1.toArray).drew.setRow w.heap.size R2.toArray) := fun ty dc sc => by
    have h := run_copy_sz (P := Tryd.prog) ((w.drew.alloc (.cells C.toArray 31 (0, 0))).setRow w.heap.size R1.toArray).drew 40 40 ty 31 3 w.heap.size ((i + 1) * 3) (l.length - i) dc (l.length - i) ⟨b, off + i * 3, none⟩ (l.length - i) sc R1.toArray 31 _ Tryd.underlying40 hsl hc2 (by simp only [Nat.min_def]; split <;> omega) hdl (fun j v hj => by
      rw [← cells_drop, List.getElem?_drop] at hj
      have h1 := hsrc _ v hj
      rw [add_lit', Nat.add_assoc]
      have hblk : ((w.drew.alloc (.cells C.toArray 31 (0, 0))).setRow w.heap.size R1.toArray).drew.heap[b]? = w.heap[b]? := (setRow_other _ _ _ _ (by omega)).trans (heap_alloc_old w.drew _ hblt)
      rw [World.cell?_of_block (w := w) (a := ⟨b, off + (i * 3 + j), none⟩) hblk]
      exact h1) (by rw [List.size_toArray, hlen1, hCl, hdl]; omega) (cells_one _)
    rw [h, hR2, hdl, show (i + 1) * 3 = i * 3 + 3 by omega]
  have HRZ := hid hrz
  have HA := hid hcpA
  have HB := hid hcpB
  have HF : HidP (Row (((w.drew.alloc (.cells C.toArray 31 (0, 0))).setRow w.heap.size R1.toArray).drew.setRow w.heap.size R2.toArray) 31 3 (.slice (some ⟨w.heap.size, 0, none⟩) (l.length + 1) G) ((l.take i ++ x :: l.drop i).flatMap Itm.cells)) := hid (by
    refine ⟨_, l.length + 1, G, rfl, by rw [cells_len]; simp; omega, hGn, hGm, .inr ⟨w.heap.size, 0, R2.toArray, rfl, setRow_heap ((w.drew.alloc (.cells C.toArray 31 (0, 0))).setRow w.heap.size R1.toArray).drew _ _ _ _ _ hc2, by rw [List.size_toArray, hlen2, hCl]; omega, ?_⟩⟩
    rw [show (l.length + 1) * 3 = i * 3 + 3 + (l.length - i) * 3 by omega, List.drop_zero]
    rw [hfin, cells_app, List.flatMap_cons]
    simp)
  have hG2 : G ≤ 9223372036854775807 := by simp only [maxLen] at hGm; omega
  have hg4 : ¬ (G = i) := by omega
  have hg5 : ¬ (G = i + 1) := by omega
  clear hrz hcpA hcpB hrow hsrc hold hZ hzl hC hpl hdl hCl hROW hR1 hR2 hfin hlen1 hlen2 hc1 hc2 hv1 hsl hGm hbig hkk hik
  go_enter Tryd.func73, Tryd.ntmps73
  go_wp2_with (at_builtin; refine Lib.wpList_append_run _ rfl _ _ _ _ rfl _ _ rfl rfl _ _ (HRZ.out _) ?_)
  rw [show (w.alloc (.cells C.toArray 31 (0, 0))).drew = w.drew.alloc (.cells C.toArray 31 (0, 0)) from rfl, HA.out]
  simp only [Result.andThen]
  rw [Oper.upon_value]
  go_wp2_with fail
  go_region_law (refine step_copy_is _ rfl _ _ 40 40 rfl (.slice (some ⟨w.heap.size, (i + 1) * 3, none⟩) (l.length - i) (G - (i + 1))) (.slice (some ⟨b, off + i * 3, none⟩) (l.length - i) (l.length - i)) (by simp [Act.eval, Act.put]) (by simp [Act.eval, Act.put]) (by exact HB.out _ _ _) ?_)
  go_wp2_with fail
  go_ret
  refine ⟨⟨G, rfl, HF.out⟩, rfl, rfl, rfl, by simp, fun k hk _ => ?_⟩
  exact (setRow_other _ _ _ _ (by omega)).trans ((setRow_other (w.drew.alloc (.cells C.toArray 31 (0, 0))) _ _ _ (by omega)).trans (heap_alloc_old w.drew _ hk))

end Go.Proofs.YtheccdidfkcbbaaDoor

/- (Tree).put -/
namespace Go.Proofs.YtheccdidfkcbbaaDoor
open Go.RowKit

theorem place_ahead {l : List Itm} {q : List UInt8} {i : Nat} (h : PlaceAt l q i) (hs : sortedI l) : (l.map Itm.abs).filter (fun y => Op.bytesLess y.p q) = (l.map Itm.abs).take i := by
  conv => lhs; rw [← List.take_append_drop i (l.map Itm.abs), List.filter_append]
  rw [List.filter_eq_self.2, List.filter_eq_nil_iff.2, List.append_nil]
  · intro y hy
    obtain ⟨k, hk, e⟩ := List.getElem_of_mem hy
    rw [List.getElem_drop, List.getElem_map] at e
    have hkl : i + k < l.length := by rw [List.length_drop, List.length_map] at hk; omega
    rw [← e]
    show ¬ Op.bytesLess l[i + k].p.toList q = true
    rcases Nat.eq_zero_or_pos k with rfl | hp
    · rw [h.behind _ (List.getElem?_eq_getElem hkl)]; simp
    · rw [less_asymm (h.more hs (List.getElem?_eq_getElem hkl) (by omega))]; simp
  · intro y hy
    obtain ⟨k, hk, e⟩ := List.getElem_of_mem hy
    rw [List.getElem_take, List.getElem_map] at e
    rw [List.length_take, List.length_map] at hk
    rw [← e]
    exact h.less hs (List.getElem?_eq_getElem (by omega)) (by omega)
theorem place_behind {l : List Itm} {q : List UInt8} {i : Nat} (h : PlaceAt l q i) (hs : sortedI l) : (l.map Itm.abs).filter (fun y => Op.bytesLess q y.p) = (l.map Itm.abs).drop (if placeB l q i then i + 1 else i) := by
  have hlow : ∀ y ∈ (l.map Itm.abs).take (if placeB l q i then i + 1 else i), ¬ Op.bytesLess q y.p = true := by
    intro y hy
    obtain ⟨k, hk, e⟩ := List.getElem_of_mem hy
    rw [List.getElem_take, List.getElem_map] at e
    rw [List.length_take, List.length_map] at hk
    rw [← e]
    show ¬ Op.bytesLess q l[k].p.toList = true
    rcases Nat.lt_or_ge k i with h1 | h1
    · rw [less_asymm (h.less hs (List.getElem?_eq_getElem (by omega)) h1)]; simp
    · cases hp : placeB l q i
      · rw [hp] at hk; simp at hk; omega
      · rw [hp] at hk
        obtain ⟨hi, hq⟩ := placeB_lt hp
        obtain rfl : k = i := by simp at hk; omega
        have e2 : Op.bytesLess q l[k].p.toList = false := by conv => lhs; arg 1; rw [← hq]
                                                             exact less_irrefl _
        rw [e2]; simp
  have hhigh : ∀ y ∈ (l.map Itm.abs).drop (if placeB l q i then i + 1 else i), Op.bytesLess q y.p = true := by
    intro y hy
    cases hp : placeB l q i
    · rw [hp] at hy
      simp only [Bool.false_eq_true, if_false] at hy
      obtain ⟨k, hk, e⟩ := List.getElem_of_mem hy
      rw [List.getElem_drop, List.getElem_map] at e
      rw [List.length_drop, List.length_map] at hk
      rw [← e]
      show Op.bytesLess q l[i + k].p.toList = true
      rcases Nat.eq_zero_or_pos k with rfl | hpos
      · have hb := h.behind _ (List.getElem?_eq_getElem (by omega : i < l.length))
        show Op.bytesLess q l[i].p.toList = true
        cases hql : Op.bytesLess q l[i].p.toList
        · have he := less_total hql hb
          have : placeB l q i = true := by unfold placeB; rw [List.getElem?_eq_getElem (by omega : i < l.length)]; simp [← he]
          rw [hp] at this; cases this
        · rfl
      · exact h.more hs (List.getElem?_eq_getElem (by omega)) (by omega)
    · rw [hp] at hy
      simp only [if_true] at hy
      obtain ⟨k, hk, e⟩ := List.getElem_of_mem hy
      rw [List.getElem_drop, List.getElem_map] at e
      rw [List.length_drop, List.length_map] at hk
      rw [← e]
      exact h.more hs (List.getElem?_eq_getElem (by omega : i + 1 + k < l.length)) (by omega)
  conv => lhs; rw [← List.take_append_drop (if placeB l q i then i + 1 else i) (l.map Itm.abs), List.filter_append]
  rw [List.filter_eq_nil_iff.2 hlow, List.filter_eq_self.2 hhigh, List.nil_append]
theorem put_is {l : List Itm} {x : AIt} {i : Nat} (h : PlaceAt l x.p i) (hs : sortedI l) (hp : placeB l x.p i = true) : (l.map Itm.abs).set i x = putA (l.map Itm.abs) x := by
  obtain ⟨hi, _⟩ := placeB_lt hp
  unfold putA
  rw [place_ahead h hs, place_behind h hs, if_pos hp, List.set_eq_take_append_cons_drop, if_pos (by simpa using hi)]
theorem put_not {l : List Itm} {x : AIt} {i : Nat} (h : PlaceAt l x.p i) (hs : sortedI l) (hp : placeB l x.p i = false) : (l.map Itm.abs).take i ++ x :: (l.map Itm.abs).drop i = putA (l.map Itm.abs) x := by
  unfold putA
  rw [place_ahead h hs, place_behind h hs, hp]
  simp

theorem cells_set3 {l : List Itm} {i : Nat} (hi : i < l.length) (x : Itm) : (((l.flatMap Itm.cells).set (i * 3) (.string x.p)).set (i * 3 + 1) (.bool x.d)).set (i * 3 + 2) (.slice x.dA x.bs.length x.dc) = (l.set i x).flatMap Itm.cells := by
  induction l generalizing i with
  | nil => simp at hi
  | cons y r ih =>
    cases i with
    | zero => simp [Itm.cells]
    | succ i =>
      have h1 := ih (i := i) (by simpa using hi)
      have e : ∀ (xs : List Value) k u, (y.cells ++ xs).set ((i + 1) * 3 + k) u = y.cells ++ xs.set (i * 3 + k) u := fun xs k u => by
        rw [List.set_append_right _ _ (by simp [Itm.cells]; omega), show (i + 1) * 3 + k - y.cells.length = i * 3 + k by simp [Itm.cells]; omega]
      simp only [List.flatMap_cons, List.set_cons_succ]
      have e0 := e (r.flatMap Itm.cells) 0 (.string x.p)
      simp only [Nat.add_zero] at e0
      rw [e0, e, e, h1]
theorem Good.grown {w w' : World} {x : Itm} {row : Option Nat} (h : Good w x) (hg : w.grownBy w' row) (hn : ∀ k, (Value.slice x.dA x.bs.length x.dc).ownBlock = some k → row ≠ some k) : Good w' x :=
  ⟨h.size, h.len, h.src.keep fun k hk hl => hg.block k hl (fun e => hn k hk e.symm), h.rng⟩

end Go.Proofs.YtheccdidfkcbbaaDoor

/- (Tree).put -/
namespace Go.Proofs.YtheccdidfkcbbaaDoor
open Go.RowKit

set_option maxRecDepth 100000 in
set_option maxHeartbeats 4000000 in
theorem insert_walk (B : Option Addr) (d : Nat) (l : List Itm) (i : Nat) (x : Itm) (vb : Nat) (w : World) (hi : i ≤ l.length)
    (hrow : Row w 31 3 (.slice B l.length d) (l.flatMap Itm.cells)) (hlen : l.length ≤ 900000) (hne : ∀ k, (Value.slice B l.length d).ownBlock = some k → k ≠ vb)
    (hv : w.heap[vb]? = some (.cells #[.string x.p, .bool x.d, .slice x.dA x.bs.length x.dc] 31 (0, 0))) :
    Calls Tryd.prog 73 #[.slice B l.length d, .int .i64 i, .slice (some ⟨vb, 0, none⟩) 1 1] w fun e w' => (∃ B' d', e = .returned (.slice B' (l.length + 1) d') ∧ Row w' 31 3 (.slice B' (l.length + 1) d') ((l.take i ++ x :: l.drop i).flatMap Itm.cells)) ∧ w.grownBy w' (Value.slice B l.length d).ownBlock := by
  rcases Nat.lt_or_ge i l.length with hlt | hge
  · obtain ⟨b, off, rfl, _⟩ := hrow.at3 hlt
    rcases Nat.lt_or_ge d (l.length + 1) with hr | hr
    · refine (insert_grow b off d l i x vb w hlt hr hrow hlen hv).mono ?_
      rintro e w' ⟨⟨G, rfl, h2⟩, h3⟩
      exact ⟨⟨_, _, rfl, h2⟩, ⟨h3.os, h3.tape, h3.output, h3.size, fun k hk _ => h3.block k hk (by simp)⟩⟩
    · refine (insert_room b off d l i x vb w hlt hr hrow hlen (fun e => hne b rfl e.symm) hv).mono ?_
      rintro e w' ⟨⟨rfl, h2⟩, h3⟩
      exact ⟨⟨_, _, rfl, h2⟩, h3⟩
  · obtain rfl : i = l.length := by omega
    refine (insert_end B d l x vb w hrow hlen hv).mono ?_
    rintro e w' ⟨⟨B', d', rfl, h2, _⟩, h3⟩
    refine ⟨⟨_, _, rfl, ?_⟩, h3⟩
    rw [List.take_length, List.drop_length]
    exact h2

set_option maxRecDepth 100000 in
set_option maxHeartbeats 4000000 in
theorem put_walk (A : Option Addr) (c : Nat) (l : List Itm) (x : Itm) (w : World) (h : Tr w A c l) (hx : Good w x) (hlen : l.length ≤ 900000) (hs : sortedA (l.map Itm.abs)) :
    Calls Tryd.prog 63 #[.slice A l.length c, .agg #[.string x.p, .bool x.d, .slice x.dA x.bs.length x.dc]] w fun e w' => (∃ B d l', e = .returned (.slice B l'.length d) ∧ Tr w' B d l' ∧ l'.map Itm.abs = putA (l.map Itm.abs) x.abs) ∧ Below w.heap.size w w' := by
  have hsi := sortedI_of hs
  have HT := hid h
  clear h hs
  go_enter Tryd.func63, Tryd.ntmps63
  go_wp2_with fail
  have hbx := heap_alloc_new w (.cells #[.string x.p, .bool x.d, .slice x.dA x.bs.length x.dc] 31 (0, 0))
  have hb1 : Below w.heap.size w (w.alloc (.cells #[.string x.p, .bool x.d, .slice x.dA x.bs.length x.dc] 31 (0, 0))) := (Below.refl _ w).alloc (Nat.le_refl _) _
  have hs0 : (w.alloc (.cells #[.string x.p, .bool x.d, .slice x.dA x.bs.length x.dc] 31 (0, 0))).heap.size = w.heap.size + 1 := by simp
  generalize w.alloc (.cells #[.string x.p, .bool x.d, .slice x.dA x.bs.length x.dc] 31 (0, 0)) = w1 at *
  refine (place_walk A c l x.p w1 (HT.out.below hb1)).mono ?_
  rintro e w2 ⟨⟨i, rfl, hp⟩, hb2⟩
  have hbx2 := (hb2.block _ (by omega)).trans hbx
  have hb2' := thenB hb1 hb2
  have hil := hp.le
  have HP := hid hp
  clear hp
  go_wp2_with fail
  refine (own_walk A c l w2 (HT.out.below hb2')).mono ?_
  rintro e w3 ⟨⟨B, d, l', rfl, hrow, hfr, hma, hgo⟩, hb3⟩
  have hbx3 := (hb3.block _ (by have := hb2.size; omega)).trans hbx2
  have hb3' := thenB hb2' hb3
  have hll : l'.length = l.length := by have := congrArg List.length hma; simpa using this
  have hil' : i ≤ l'.length := by omega
  have hlen2 : l'.length ≤ 900000 := by omega
  replace hll := hid hll
  have hsz3 := hb3.size
  have hsz2 := hb2.size
  have x0 : w3.cell? ⟨w.heap.size, 0, none⟩ = some (.string x.p) := (blkCell hbx3 0).trans rfl
  have x1 : w3.cell? ⟨w.heap.size, 1, none⟩ = some (.bool x.d) := (blkCell hbx3 1).trans rfl
  have x2 : w3.cell? ⟨w.heap.size, 2, none⟩ = some (.slice x.dA x.bs.length x.dc) := (blkCell hbx3 2).trans rfl
  have HMA := hid hma
  have HGO := hid hgo
  have HROW := hid hrow
  clear hma hgo
  cases hpb : placeB l x.p.toList i
  · have HPUT := hid (put_not (x := x.abs) HP.out hsi hpb)
    have HI := hid (insert_walk B d l' i x w3.heap.size (w3.alloc (.cells #[.string x.p, .bool x.d, .slice x.dA x.bs.length x.dc] 31 (0, 0))) hil' (hrow.below (thenA (Below.refl _ w3) _)) hlen2 (fun k hk => by have := hrow.lt k hk; omega) (heap_alloc_new _ _))
    clear hrow
    go_wp2_with fail
    refine HI.out.mono ?_
    rintro e w4 ⟨⟨B', d', rfl, hrow4⟩, hg4⟩
    have hb4 : Below w.heap.size w w4 := Below.grownNew (thenA hb3' _) hg4 (by simp; omega) (fun k hk => by have := hfr k hk; omega)
    have hlen' : (l'.take i ++ x :: l'.drop i).length = l'.length + 1 := by simp; omega
    have ht := (Tr.ofRow (n := l'.length + 1) hrow4 (fun y hy => by
      rcases List.mem_append.1 hy with hy | hy
      · obtain ⟨h1, h2⟩ := HGO.out y (List.mem_of_mem_take hy)
        exact (h1.below (thenA (Below.refl _ w3) _)).grown hg4 (fun k hk => (h2 k hk).2)
      · rcases List.mem_cons.1 hy with rfl | hy
        · exact hx.below hb4
        · obtain ⟨h1, h2⟩ := HGO.out y (List.mem_of_mem_drop hy)
          exact (h1.below (thenA (Below.refl _ w3) _)).grown hg4 (fun k hk => (h2 k hk).2)) (by omega)).2
    have HTT := hid ht
    have HLN := hid hlen'
    clear ht hrow4 hlen'
    go_wp2_with fail
    go_ret
    refine ⟨⟨B', d', l'.take i ++ x :: l'.drop i, by rw [HLN.out]; rfl, HTT.out, ?_⟩, hb4⟩
    rw [List.map_append, List.map_cons, List.map_take, List.map_drop, HMA.out]
    exact HPUT.out
  · have HPUT := hid (put_is (x := x.abs) HP.out hsi hpb)
    obtain ⟨hi, _⟩ := placeB_lt hpb
    have hi' : i < l'.length := by rw [hll.out]; exact hi
    obtain ⟨b, off, hB, c0, c1, c2, hfz⟩ := hrow.at3 hi'
    have hbb : w2.heap.size ≤ b := hfr b (by rw [hB]; rfl)
    subst hB
    have k0 : (0 : Int) ≤ (i : Int) := by omega
    have k1 : (i : Int) < (l'.length : Int) := by omega
    have f0 := hfz (off + i * 3)
    have f1 := hfz (off + i * 3 + 1)
    have f2 := hfz (off + i * 3 + 2)
    have hr0 := ((hrow.set (i * 3) (.string x.p)).set (i * 3 + 1) (.bool x.d)).set (i * 3 + 2) (.slice x.dA x.bs.length x.dc)
    rw [cells_set3 hi' x, show off + (i * 3 + 1) = off + i * 3 + 1 by omega, show off + (i * 3 + 2) = off + i * 3 + 2 by omega] at hr0
    have hbW := ((hb3'.setCell (p := ⟨b, off + i * 3, none⟩) (by show w.heap.size ≤ b; omega) (.string x.p)).setCell (p := ⟨b, off + i * 3 + 1, none⟩) (by show w.heap.size ≤ b; omega) (.bool x.d)).setCell (p := ⟨b, off + i * 3 + 2, none⟩) (by show w.heap.size ≤ b; omega) (.slice x.dA x.bs.length x.dc)
    have HR0 := hid hr0
    have HBW := hid hbW
    have hgood : HidP (∀ y ∈ l'.set i x, Good (((w3.setCell ⟨b, off + i * 3, none⟩ (.string x.p)).setCell ⟨b, off + i * 3 + 1, none⟩ (.bool x.d)).setCell ⟨b, off + i * 3 + 2, none⟩ (.slice x.dA x.bs.length x.dc)) y) := hid (fun y hy => by
      rcases List.mem_or_eq_of_mem_set hy with hy | rfl
      · obtain ⟨h1, h2⟩ := HGO.out y hy
        have hne : ∀ k, (Value.slice y.dA y.bs.length y.dc).ownBlock = some k → k ≠ b := fun k hk e => (h2 k hk).2 (by rw [e]; rfl)
        exact ((h1.set (p := ⟨b, off + i * 3, none⟩) hne _).set (p := ⟨b, off + i * 3 + 1, none⟩) hne _).set (p := ⟨b, off + i * 3 + 2, none⟩) hne _
      · exact hx.below hbW)
    have hlen' : HidP ((l'.set i x).length = l'.length) := hid (List.length_set)
    clear hrow hr0 hbW
    go_wp2_with fail
    go_ret
    obtain ⟨_, ht⟩ := Tr.ofRow (n := l'.length) HR0.out hgood.out (by rw [hlen'.out]; omega)
    refine ⟨⟨some ⟨b, off, none⟩, d, l'.set i x, by rw [hlen'.out]; rfl, ht, ?_⟩, HBW.out⟩
    rw [List.map_set, HMA.out]
    exact HPUT.out

end Go.Proofs.YtheccdidfkcbbaaDoor
