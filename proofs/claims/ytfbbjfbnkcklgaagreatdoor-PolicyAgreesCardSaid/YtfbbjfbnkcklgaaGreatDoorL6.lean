/- copies between rows of items, appends of one item; for slices.Insert -/
import Derived.Test.YtfbbjfbnkcklgaaGreatDoorK9
import Derived.Lib.AppendZerosOnto
import Derived.Lib.Overlaps
import Derived.Laws.CopyRow
import Derived.Laws.Externs
import Derived.Shelf.RegionOpenPlain
namespace Go.Proofs.YtfbbjfbnkcklgaaGreatDoor
open Go.RowKit

section
variable {P : Program} (w : World)

/-- copy, elements of whatever size -/
theorem run_copy_sz (dT sT ty elem : TypeId) (sz g o dLen dCap m : Nat) (a : Addr) (sLen sCap : Nat) (cur : Array Value) (t : TypeId) (cs : List Value)
    (hu : P.underlying dT = some (.slice elem)) (hs : (P.info? elem).map (·.size) = some sz)
    (hg : w.heap[g]? = some (.cells cur t (0, 0))) (hm : Nat.min sLen dLen = m) (hn : cs.length = m * sz)
    (hsrc : ∀ j v, cs[j]? = some v → w.cell? (a.add j) = some v) (hfit : o + cs.length ≤ cur.size) (h1 : ∀ v ∈ cs, v.oneCell' = true) :
    (Builtin.copy_ #[dT, sT] ty #[.slice (some ⟨g, o, none⟩) dLen dCap, .slice (some a) sLen sCap]).run P w =
      .ok (goInt m) (w.setRow g (cur.toList.take o ++ cs ++ cur.toList.drop (o + cs.length)).toArray) := by
  have hl := run_firstCells_some (P := P) w sz m a sLen sCap cs hn hsrc
  have hst := run_storeCells_at P g o t cs 0 cur w hg (by simpa using hfit) h1
  simp only [Nat.add_zero] at hst
  cases hq : P.info? elem with
  | none => simp [hq] at hs
  | some i =>
    have hi : i.size = sz := by simpa [hq] using hs
    simp [Builtin.copy_, run_underlying hu, Builtin.lenOf, sizeOf, typeInfo, hq, hi, hm, hl, hst]

/-- two slice types of one element type: append does not tell them apart -/
theorem append_types {t t' e e' ty : TypeId} {i : TypeInfo} (ht : P.underlying t = some (.slice e)) (ht' : P.underlying t' = some (.slice e')) (hi : P.info? e = some i) (A B : Option Addr) (n c m d : Nat) :
    (Builtin.append_ #[t, t'] ty #[.slice A n c, .slice B m d]).run P w = (Builtin.append_ #[t, t] ty #[.slice A n c, .slice B m d]).run P w := by
  simp [Builtin.append_, run_underlying ht, run_underlying ht', sizeOf, typeInfo, hi, Builtin.lenOf]

theorem wp_copy_is {o : Oper} {a : Act} {K : Act → World → Prop} {Q : Exit → Act → World → Prop} (d s : Operand) (t t' : TypeId)
    (ho : o.op = .call { callee := .builtin .copy, args := #[d, s], argTypes := #[t, t'] }) (v u : Value) (hd : a.eval d = v) (hs : a.eval s = u) {v' : Value} {w' : World}
    (hr : (Builtin.copy_ #[t, t'] o.type #[v, u]).run P w = .ok v' w') (h : K (a.put o.dst v') w') : o.wp P a w K Q := by
  unfold Oper.wp execOp
  simp only [ho, resolve, invoke, builtin, Sem.run_bind, Sem.run_pure, Result.andThen_ok, List.map_toArray, List.map_cons, List.map_nil, hd, hs, hr]
  exact h

theorem wpList_copy_is {ops : Array Oper} {rest : List Oper} {o : Oper} {a : Act} {Q : Exit → Act → World → Prop} (hgd : o.guard = none) (d s : Operand) (t t' : TypeId)
    (ho : o.op = .call { callee := .builtin .copy, args := #[d, s], argTypes := #[t, t'] }) (v u : Value) (hd : a.eval d = v) (hs : a.eval s = u) {v' : Value} {w' : World}
    (hr : (Builtin.copy_ #[t, t'] o.type #[v, u]).run P w = .ok v' w') (h : wpList P ops Q rest (a.put o.dst v') w') : wpList P ops Q (o :: rest) a w :=
  wpList_plain hgd fun _ hK => wp_copy_is w d s t t' ho v u hd hs hr (hK _ _ h)

theorem step_copy_is {ops : Array Oper} {o : Oper} {a : Act} {K : Act → World → Prop} {Q : Exit → Act → World → Prop} {E : Prop}
    (hg : o.guard = none) (d x : Operand) (dT sT : TypeId) (hop : o.op = Op.call { callee := Callee.builtin Builtin.copy, args := #[d, x], argTypes := #[dT, sT] })
    (v u : Value) (hd : a.eval d = v) (hx : a.eval x = u) {v' : Value} {w' : World} (hr : (Builtin.copy_ #[dT, sT] o.type #[v, u]).run P w = .ok v' w') (hK : K (a.put o.dst v') w') :
    if Region.wanted o (yielded ops a.tmps) = true then Oper.wp P o a w K Q else E := by
  have hw : Region.wanted o (yielded ops a.tmps) = true := by simp [Region.wanted, hg]
  rw [if_pos hw]
  unfold Oper.wp
  simp [execOp, hop, resolve, invoke, builtin, hd, hx, hr, Result.andThen]
  exact hK
end

theorem setRow_belowN {N : Nat} {w W : World} (h : Below N w W) {g : Nat} (hg : N ≤ g) (row : Array Value) : Below N w (W.setRow g row) :=
  ⟨h.os, h.tape, h.output, by simpa using h.size, fun k hk => (setRow_other W g k row (by omega)).trans (h.block k hk)⟩

end Go.Proofs.YtfbbjfbnkcklgaaGreatDoor

/- slices.Insert of one item into a row -/
namespace Go.Proofs.YtfbbjfbnkcklgaaGreatDoor
open Go.RowKit

theorem sizeItem (w : World) : (sizeOf 42).run Tryz.prog w = .ok 3 w := by
  obtain ⟨i0, hi0, hz0, hz1, hz2⟩ := info_parts infoItem
  simp [sizeOf, typeInfo, hi0, hz1]
theorem infoSize : (Tryz.prog.info? 42).map (·.size) = some 3 := by
  obtain ⟨i0, hi0, hz0, hz1, hz2⟩ := info_parts infoItem
  rw [hi0]; simp [hz1]

end Go.Proofs.YtfbbjfbnkcklgaaGreatDoor

/- slices.Insert of one item into a row: there is room -/
namespace Go.Proofs.YtfbbjfbnkcklgaaGreatDoor
open Go.RowKit

theorem cells_app (a b : List Itm) : (a ++ b).flatMap Itm.cells = a.flatMap Itm.cells ++ b.flatMap Itm.cells := List.flatMap_append
theorem cells_take (l : List Itm) (i : Nat) : (l.flatMap Itm.cells).take (i * 3) = (l.take i).flatMap Itm.cells := by
  induction l generalizing i with
  | nil => simp
  | cons x r ih =>
    cases i with
    | zero => simp
    | succ i => rw [List.flatMap_cons, List.take_append, List.take_of_length_le (by simp [Itm.cells]; omega), List.take_succ_cons, List.flatMap_cons, show (i + 1) * 3 - x.cells.length = i * 3 by simp [Itm.cells]; omega, ih]
theorem cells_drop (l : List Itm) (i : Nat) : (l.flatMap Itm.cells).drop (i * 3) = (l.drop i).flatMap Itm.cells := by
  induction l generalizing i with
  | nil => simp
  | cons x r ih =>
    cases i with
    | zero => simp
    | succ i => rw [List.flatMap_cons, List.drop_append, List.drop_of_length_le (by simp [Itm.cells]; omega), List.drop_succ_cons, List.nil_append, show (i + 1) * 3 - x.cells.length = i * 3 by simp [Itm.cells]; omega, ih]

theorem shift_list {c P D X : List Value} {o k m : Nat} (hP : P.length = k) (hX : X.length = 3) (hD : D.length = m) (hc : (c.drop o).take (k + m) = P ++ D) (hs : o + k + m + 3 ≤ c.length) (R1 R2 : List Value)
    (h1 : R1 = c.take (o + k + 3) ++ D ++ c.drop (o + k + 3 + m)) (h2 : R2 = R1.take (o + k) ++ X ++ R1.drop (o + k + 3)) : (R2.drop o).take (k + 3 + m) = P ++ X ++ D ∧ R2.length = c.length ∧ R1.length = c.length := by
  have e1 : c.take (o + k) = c.take o ++ P := by
    rw [List.take_add]
    congr 1
    have := congrArg (List.take k) hc
    rw [List.take_take, Nat.min_eq_left (by omega), List.take_left' hP] at this
    exact this
  have l1 : (c.take (o + k + 3)).length = o + k + 3 := by rw [List.length_take]; omega
  have l2 : (c.take o).length = o := by rw [List.length_take]; omega
  have t1 : R1.take (o + k) = c.take o ++ P := by
    rw [h1, List.append_assoc, List.take_append_of_le_length (by omega), List.take_take, Nat.min_eq_left (by omega), e1]
  have t2 : R1.drop (o + k + 3) = D ++ c.drop (o + k + 3 + m) := by
    rw [h1, List.append_assoc, List.drop_left' l1]
  have t3 : R2 = c.take o ++ (P ++ X ++ D ++ c.drop (o + k + 3 + m)) := by rw [h2, t1, t2]; simp
  refine ⟨?_, ?_, ?_⟩
  · rw [t3, List.drop_left' l2, List.take_left' (by simp; omega)]
  · rw [t3]; simp; omega
  · rw [h1]; simp; omega

end Go.Proofs.YtfbbjfbnkcklgaaGreatDoor

/- slices.Insert of one item into a row: there is no room -/
namespace Go.Proofs.YtfbbjfbnkcklgaaGreatDoor
open Go.RowKit

theorem grow_list {P D X Z : List Value} {k m : Nat} (hP : P.length = k) (hX : X.length = 3) (hD : D.length = m) (c R1 R2 : List Value) (hc : c = P ++ Z) (hs : k + m + 3 ≤ c.length)
    (h1 : R1 = c.take k ++ X ++ c.drop (k + 3)) (h2 : R2 = R1.take (k + 3) ++ D ++ R1.drop (k + 3 + m)) : R2.take (k + 3 + m) = P ++ X ++ D ∧ R2.length = c.length ∧ R1.length = c.length := by
  have e1 : c.take k = P := by rw [hc, List.take_left' hP]
  rw [e1] at h1
  have t1 : R1.take (k + 3) = P ++ X := by rw [h1, List.take_left' (by simp; omega)]
  rw [t1] at h2
  have l1 : R1.length = c.length := by rw [h1]; simp; omega
  refine ⟨?_, ?_, l1⟩
  · rw [h2, List.take_left' (by simp; omega)]
  · rw [h2]; simp; omega

end Go.Proofs.YtfbbjfbnkcklgaaGreatDoor

/- (Tree).put -/
namespace Go.Proofs.YtfbbjfbnkcklgaaGreatDoor
open Go.RowKit

theorem place_ahead {l : List Itm} {q : List UInt8} {i : Nat} (h : PlaceAt l q i) (hs : sortedI l) : (l.map Itm.abs).filter (fun y => Op.bytesLess y.p q) = (l.map Itm.abs).take i := by
  conv => lhs; rw [← List.take_append_drop i (l.map Itm.abs), List.filter_append]
  rw [List.filter_eq_self.2, List.filter_eq_nil_iff.2, List.append_nil]
  · intro y hy
    obtain ⟨k, hk, e⟩ := List.getElem_of_mem hy
    rw [List.getElem_drop, List.getElem_map] at e
    have hkl : i + k < l.length := by rw [List.length_drop, List.length_map] at hk; omega
    rw [← e]
    show ¬ Op.bytesLess l[i + k].p.toList q = true
    rcases Nat.eq_zero_or_pos k with rfl | hp
    · rw [h.behind _ (List.getElem?_eq_getElem hkl)]; simp
    · rw [less_asymm (h.more hs (List.getElem?_eq_getElem hkl) (by omega))]; simp
  · intro y hy
    obtain ⟨k, hk, e⟩ := List.getElem_of_mem hy
    rw [List.getElem_take, List.getElem_map] at e
    rw [List.length_take, List.length_map] at hk
    rw [← e]
    exact h.less hs (List.getElem?_eq_getElem (by omega)) (by omega)
theorem place_behind {l : List Itm} {q : List UInt8} {i : Nat} (h : PlaceAt l q i) (hs : sortedI l) : (l.map Itm.abs).filter (fun y => Op.bytesLess q y.p) = (l.map Itm.abs).drop (if placeB l q i then i + 1 else i) := by
  have hlow : ∀ y ∈ (l.map Itm.abs).take (if placeB l q i then i + 1 else i), ¬ Op.bytesLess q y.p = true := by
    intro y hy
    obtain ⟨k, hk, e⟩ := List.getElem_of_mem hy
    rw [List.getElem_take, List.getElem_map] at e
    rw [List.length_take, List.length_map] at hk
    rw [← e]
    show ¬ Op.bytesLess q l[k].p.toList = true
    rcases Nat.lt_or_ge k i with h1 | h1
    · rw [less_asymm (h.less hs (List.getElem?_eq_getElem (by omega)) h1)]; simp
    · cases hp : placeB l q i
      · rw [hp] at hk; simp at hk; omega
      · rw [hp] at hk
        obtain ⟨hi, hq⟩ := placeB_lt hp
        obtain rfl : k = i := by simp at hk; omega
        have e2 : Op.bytesLess q l[k].p.toList = false := by conv => lhs; arg 1; rw [← hq]
                                                             exact less_irrefl _
        rw [e2]; simp
  have hhigh : ∀ y ∈ (l.map Itm.abs).drop (if placeB l q i then i + 1 else i), Op.bytesLess q y.p = true := by
    intro y hy
    cases hp : placeB l q i
    · rw [hp] at hy
      simp only [Bool.false_eq_true, if_false] at hy
      obtain ⟨k, hk, e⟩ := List.getElem_of_mem hy
      rw [List.getElem_drop, List.getElem_map] at e
      rw [List.length_drop, List.length_map] at hk
      rw [← e]
      show Op.bytesLess q l[i + k].p.toList = true
      rcases Nat.eq_zero_or_pos k with rfl | hpos
      · have hb := h.behind _ (List.getElem?_eq_getElem (by omega : i < l.length))
        show Op.bytesLess q l[i].p.toList = true
        cases hql : Op.bytesLess q l[i].p.toList
        · have he := less_total hql hb
          have : placeB l q i = true := by unfold placeB; rw [List.getElem?_eq_getElem (by omega : i < l.length)]; simp [← he]
          rw [hp] at this; cases this
        · rfl
      · exact h.more hs (List.getElem?_eq_getElem (by omega)) (by omega)
    · rw [hp] at hy
      simp only [if_true] at hy
      obtain ⟨k, hk, e⟩ := List.getElem_of_mem hy
      rw [List.getElem_drop, List.getElem_map] at e
      rw [List.length_drop, List.length_map] at hk
      rw [← e]
      exact h.more hs (List.getElem?_eq_getElem (by omega : i + 1 + k < l.length)) (by omega)
  conv => lhs; rw [← List.take_append_drop (if placeB l q i then i + 1 else i) (l.map Itm.abs), List.filter_append]
  rw [List.filter_eq_nil_iff.2 hlow, List.filter_eq_self.2 hhigh, List.nil_append]
theorem put_is {l : List Itm} {x : AIt} {i : Nat} (h : PlaceAt l x.p i) (hs : sortedI l) (hp : placeB l x.p i = true) : (l.map Itm.abs).set i x = putA (l.map Itm.abs) x := by
  obtain ⟨hi, _⟩ := placeB_lt hp
  unfold putA
  rw [place_ahead h hs, place_behind h hs, if_pos hp, List.set_eq_take_append_cons_drop, if_pos (by simpa using hi)]
theorem put_not {l : List Itm} {x : AIt} {i : Nat} (h : PlaceAt l x.p i) (hs : sortedI l) (hp : placeB l x.p i = false) : (l.map Itm.abs).take i ++ x :: (l.map Itm.abs).drop i = putA (l.map Itm.abs) x := by
  unfold putA
  rw [place_ahead h hs, place_behind h hs, hp]
  simp

theorem cells_set3 {l : List Itm} {i : Nat} (hi : i < l.length) (x : Itm) : (((l.flatMap Itm.cells).set (i * 3) (.string x.p)).set (i * 3 + 1) (.bool x.d)).set (i * 3 + 2) (.slice x.dA x.bs.length x.dc) = (l.set i x).flatMap Itm.cells := by
  induction l generalizing i with
  | nil => simp at hi
  | cons y r ih =>
    cases i with
    | zero => simp [Itm.cells]
    | succ i =>
      have h1 := ih (i := i) (by simpa using hi)
      have e : ∀ (xs : List Value) k u, (y.cells ++ xs).set ((i + 1) * 3 + k) u = y.cells ++ xs.set (i * 3 + k) u := fun xs k u => by
        rw [List.set_append_right _ _ (by simp [Itm.cells]; omega), show (i + 1) * 3 + k - y.cells.length = i * 3 + k by simp [Itm.cells]; omega]
      simp only [List.flatMap_cons, List.set_cons_succ]
      have e0 := e (r.flatMap Itm.cells) 0 (.string x.p)
      simp only [Nat.add_zero] at e0
      rw [e0, e, e, h1]
theorem Good.grown {w w' : World} {x : Itm} {row : Option Nat} (h : Good w x) (hg : w.grownBy w' row) (hn : ∀ k, (Value.slice x.dA x.bs.length x.dc).ownBlock = some k → row ≠ some k) : Good w' x :=
  ⟨h.size, h.len, h.src.keep fun k hk hl => hg.block k hl (fun e => hn k hk e.symm), h.rng⟩

end Go.Proofs.YtfbbjfbnkcklgaaGreatDoor

/- (Tree).put -/
namespace Go.Proofs.YtfbbjfbnkcklgaaGreatDoor
open Go.RowKit

end Go.Proofs.YtfbbjfbnkcklgaaGreatDoor
