/- MergeSpec: the walk (printed by gen/genF9.py) -/
import Derived.Test.YtfbbjfbnkcklgaaGreatDoorF7
import Derived.Test.YtfbbjfbnkcklgaaGreatDoorB7
namespace Go.Proofs.YtfbbjfbnkcklgaaGreatDoor
open Go.RowKit

theorem out_bad {o a b : List AIt} (h : (mOut o a b).code ≠ 0) : ((mOut o a b).code = 1 ∨ (mOut o a b).code = 2) ∧ (mOut o a b).A = [] ∧ (mOut o a b).B = [] ∧ (mOut o a b).O = [] := by
  unfold mOut at h ⊢
  cases h1 : right3 o a b
  · simp
  · cases h2 : bigB o a b
    · rw [h1, h2] at h; simp at h
    · simp

/-- one record of an item, in a block of its own -/
structure BoxI (w : World) (b : Nat) (x : Itm) : Prop where
  blk : w.heap[b]? = some (.cells #[.string x.p, .bool x.d, .slice x.dA x.bs.length x.dc] 42 (0, 0))
theorem BoxI.below {w w' : World} {b : Nat} {x : Itm} (h : BoxI w b x) (hb : Below w.heap.size w w') : BoxI w' b x := ⟨(hb.block _ (blkLt h.blk)).trans h.blk⟩
theorem BoxI.cells {w : World} {b : Nat} {x : Itm} (h : BoxI w b x) : w.cell? ⟨b, 0, none⟩ = some (.string x.p) ∧ w.cell? ⟨b, 1, none⟩ = some (.bool x.d) ∧ w.cell? ⟨b, 2, none⟩ = some (.slice x.dA x.bs.length x.dc) :=
  ⟨(blkCell h.blk 0).trans rfl, (blkCell h.blk 1).trans rfl, (blkCell h.blk 2).trans rfl⟩
theorem BoxI.stored {w : World} {b : Nat} (x : Itm) (h : w.heap[b]? = some (.cells #[.string ⟨#[]⟩, .bool false, .slice none 0 0] 42 (0, 0))) : BoxI (((w.setCell ⟨b, 0, none⟩ (.string x.p)).setCell ⟨b, 1, none⟩ (.bool x.d)).setCell ⟨b, 2, none⟩ (.slice x.dA x.bs.length x.dc)) b x := ⟨(blkSet (blkSet (blkSet h 0 (.string x.p)) 1 (.bool x.d)) 2 (.slice x.dA x.bs.length x.dc)).trans rfl⟩
theorem far3 {w : World} {b c : Nat} {o : Obj} (h : w.heap[c]? = some o) (hne : c ≠ b) (u0 u1 u2 : Value) : (((w.setCell ⟨b, 0, none⟩ u0).setCell ⟨b, 1, none⟩ u1).setCell ⟨b, 2, none⟩ u2).heap[c]? = some o := blkFar (p := ⟨b, 2, none⟩) (blkFar (p := ⟨b, 1, none⟩) (blkFar (p := ⟨b, 0, none⟩) h hne u0) hne u1) hne u2
theorem below3 {w W : World} {b : Nat} (h : Below w.heap.size w W) (hb : w.heap.size ≤ b) (u0 u1 u2 : Value) : Below w.heap.size w (((W.setCell ⟨b, 0, none⟩ u0).setCell ⟨b, 1, none⟩ u1).setCell ⟨b, 2, none⟩ u2) := ((h.setCell (p := ⟨b, 0, none⟩) hb u0).setCell (p := ⟨b, 1, none⟩) hb u1).setCell (p := ⟨b, 2, none⟩) hb u2

theorem item_no (i : Nat) (n : Int) : (#[Value.string ⟨#[]⟩, Value.bool false, Value.slice none 0 0] : Array Value)[i]? ≠ some (Value.int .u8 n) := by
  intro h
  rw [← Array.getElem?_toList] at h
  have := List.mem_of_getElem? h
  simp at this
theorem Good.aside3 {w : World} {x : Itm} {b : Nat} (h : Good w x) (hq : w.heap[b]? = some (.cells #[.string ⟨#[]⟩, .bool false, .slice none 0 0] 42 (0, 0))) (u0 u1 u2 : Value) : Good (((w.setCell ⟨b, 0, none⟩ u0).setCell ⟨b, 1, none⟩ u1).setCell ⟨b, 2, none⟩ u2) x :=
  (GoodR.of h hq item_no).later (KR.setR (KR.setR (KR.setR (Keep.refl _ w) 0 u0) 1 u1) 2 u2)
theorem same_is {x y : Itm} {w : World} {b : Bool} (hx : Good w x) (hy : Good w y) (h : decide (x.abs = y.abs) = b) :
    Calls Tryz.prog 18 #[.agg #[.string x.p, .bool x.d, .slice x.dA x.bs.length x.dc], .agg #[.string y.p, .bool y.d, .slice y.dA y.bs.length y.dc]] w fun e w' => e = .returned (.bool b) ∧ Below w.heap.size w w' := by
  have h1 := refsameitem x y w hx hy
  rwa [sameI_abs, h] at h1
def ValG (T : List AIt) (t : Txt) (v : Value) (W : World) : Prop := ∃ x : Itm, v = .agg #[.string x.p, .bool x.d, .slice x.dA x.bs.length x.dc] ∧ Good W x ∧ x.abs = valA T t
def PtrG (base : Nat) (v : Value) (W : World) : Prop := ∃ b, v = .pointer (some ⟨b, 0, none⟩) ∧ base ≤ b ∧ W.heap[b]? = some (.cells #[.string ⟨#[]⟩, .bool false, .slice none 0 0] 42 (0, 0))
def specDst : Nat → Nat
  | 3 => 106 | 7 => 110 | 11 => 114 | 12 => 15 | 13 => 16 | _ => 17
def specG (A B O : List AIt) (t : Txt) (base : Nat) : Nat → Value → World → Prop
  | 3 => ValG A t | 7 => ValG B t | 11 => ValG O t | _ => PtrG base
def specR : Nat → Nat → Value → Value → Prop := fun i j u v => 12 ≤ i → 12 ≤ j → u ≠ v
theorem ValG.mono {T : List AIt} {t : Txt} {v : Value} {w w' : World} (hb : Below w.heap.size w w') (h : ValG T t v w) : ValG T t v w' := by
  obtain ⟨x, h1, h2, h3⟩ := h
  exact ⟨x, h1, h2.below hb, h3⟩
theorem PtrG.mono {base : Nat} {v : Value} {w w' : World} (hb : Below w.heap.size w w') (h : PtrG base v w) : PtrG base v w' := by
  obtain ⟨b, h1, h2, h3⟩ := h
  exact ⟨b, h1, h2, (hb.block _ (blkLt h3)).trans h3⟩
theorem specG_mono {A B O : List AIt} {t : Txt} {base : Nat} (j : Nat) (v : Value) (w w' : World) (hb : Below w.heap.size w w') (h : specG A B O t base j v w) : specG A B O t base j v w' := by
  unfold specG at h ⊢
  split at h
  · exact ValG.mono hb h
  · exact ValG.mono hb h
  · exact ValG.mono hb h
  · exact PtrG.mono hb h
theorem oper_call {P : Program} {o : Oper} {a : Act} {w : World} {K : Act → World → Prop} {Q : Exit → Act → World → Prop}
    (f : FuncId) (xs : Array Operand) (ats : Array TypeId) (ho : o.op = .call { callee := .value (.func f), args := xs, argTypes := ats }) {fn : Func} (hf : P.funcs[f]? = some fn)
    (hname : (fn.name == "runtime.NumGoroutine") = false) (hb : fn.body.isNone = false) (args : List Value) (ha : xs.toList.map a.eval = args) {R : Ending → World → Prop} (hc : Calls P f args.toArray w R)
    (h : ∀ e w', R e w' → ∃ v, e = .returned v ∧ K (a.put o.dst v) w') : Oper.wp P o a w K Q := by
  have hex : execOp a.eval o = callFunc f (#[] ++ xs.map a.eval ++ #[]) := by
    obtain ⟨dst, op, ty, pos, after, guard⟩ := o
    subst ho
    rfl
  unfold Oper.wp
  rw [hex, show #[] ++ xs.map a.eval ++ #[] = args.toArray by rw [← ha]; simp [← List.map_toArray], run_callFunc_go hf hname hb]
  refine hc.mono fun e w' hR => ?_
  obtain ⟨v, rfl, hk⟩ := h e w' hR
  exact hk
theorem oper_alloc_item {o : Oper} {a : Act} {w : World} {K : Act → World → Prop} {Q : Exit → Act → World → Prop} (ho : o.op = .alloc 42)
    (h : K (a.put o.dst (.pointer (some ⟨w.heap.size, 0, none⟩))) (w.alloc (.cells #[.string ⟨#[]⟩, .bool false, .slice none 0 0] 42 (0, 0)))) : Oper.wp Tryz.prog o a w K Q := by
  obtain ⟨dst, op, ty, pos, after, guard⟩ := o
  subst ho
  go_simp
  first | done | exact h
theorem spec_new {A B O : List AIt} {t : Txt} {base : Nat} {w : World} {i : Nat} (j : Nat) (u : Value) (hg : specG A B O t base j u w) : specR i j (.pointer (some ⟨w.heap.size, 0, none⟩)) u ∧ specR j i u (.pointer (some ⟨w.heap.size, 0, none⟩)) := by
  have key : 12 ≤ j → u ≠ .pointer (some ⟨w.heap.size, 0, none⟩) := fun hj e => by
    unfold specG at hg
    split at hg
    · omega
    · omega
    · omega
    · obtain ⟨b, h1, _, h3⟩ := hg
      rw [e] at h1
      have h4 := blkLt h3
      simp at h1
      all_goals omega
  exact ⟨fun _ hj e => key hj e.symm, fun hj _ e => key hj e⟩
theorem specR_call {i j : Nat} {u v : Value} (h : i < 12) : specR i j u v ∧ specR j i v u := ⟨fun h' => by omega, fun _ h' => by omega⟩

set_option maxRecDepth 100000 in
set_option maxHeartbeats 8000000 in
theorem mergespec_walk (o a b : TrI) (w : World) (qo : TrQ w o.A o.c o.l) (qa : TrQ w a.A a.c a.l) (qb : TrQ w b.A b.c b.l) :
    Calls Tryz.prog 4 #[.slice o.A o.l.length o.c, .slice a.A a.l.length a.c, .slice b.A b.l.length b.c] w fun e w' => e = .returned (.bool true) ∧ Below w.heap.size w w' := by
  have HA := hid alive22_walk
  have HL := hid (light3 o a b w qo qa qb)
  have hb0 := thenA (Below.refl _ w) (.cells #[.slice o.A o.l.length o.c, .slice a.A a.l.length a.c, .slice b.A b.l.length b.c] 22 (0, 0))
  cases hv : lightB o.l 62 && (lightB a.l 62 && lightB b.l 62)
  · rw [hv] at HL
    clear hv qo qa qb
    go_enter Tryz.func4, Tryz.ntmps4
    go_wp2_with fail
    refine HL.out.mono ?_
    rintro e w1 ⟨rfl, rfl⟩
    go_wp2_with fail
    refine (HA.out _).mono ?_
    rintro e w2 ⟨rfl, hb2⟩
    have hb3 := thenB hb0 hb2
    go_wp2_with fail
    go_ret
    exact ⟨rfl, hb3⟩
  rw [hv] at HL
  rw [Bool.and_eq_true, Bool.and_eq_true] at hv
  have ho := qo.tr hv.1 (by omega)
  have ha := qa.tr hv.2.1 (by omega)
  have hbb := qb.tr hv.2.2 (by omega)
  have n1 := light_len hv.1
  have n2 := light_len hv.2.1
  have n3 := light_len hv.2.2
  have HO := hid ho
  have HAA := hid ha
  have HB := hid hbb
  have HN : HidP (o.l.length ≤ 62 ∧ a.l.length ≤ 62 ∧ b.l.length ≤ 62) := hid ⟨by omega, by omega, by omega⟩
  have HM1 := hid (merge_ri (ho.below hb0) (ha.below hb0) (hbb.below hb0) (by omega) (by omega) (by omega) rfl)
  clear hv qo qa qb ho ha hbb n1 n2 n3
  obtain ⟨n, hn⟩ : ∃ n, (mOut (o.l.map Itm.abs) (a.l.map Itm.abs) (b.l.map Itm.abs)).code = n := ⟨_, rfl⟩
  rw [hn] at HM1
  go_enter Tryz.func4, Tryz.ntmps4
  go_wp2_with fail
  refine HL.out.mono ?_
  rintro e w0 ⟨rfl, rfl⟩
  go_wp2_with fail
  refine HM1.out.mono ?_
  rintro e w1 ⟨⟨x1, rfl, hx1, e1⟩, hb1⟩
  have hbx := thenA (Below.refl _ w1) (.cells #[.slice x1.a.A x1.a.l.length x1.a.c, .slice x1.b.A x1.b.l.length x1.b.c, .slice x1.o.A x1.o.l.length x1.o.c, .slice x1.cA x1.LC.length x1.cc] 28 (0, 0))
  have hb1' := thenB (thenB hb0 hb1) hbx
  have q1 := heap_alloc_new w1 (.cells #[.slice x1.a.A x1.a.l.length x1.a.c, .slice x1.b.A x1.b.l.length x1.b.c, .slice x1.o.A x1.o.l.length x1.o.c, .slice x1.cA x1.LC.length x1.cc] 28 (0, 0))
  have HX1 := hid (hx1.below hbx)
  have HE1 := hid e1
  clear hx1 e1 hb1 hbx hb0 HM1 HL
  obtain ⟨p0, p1, p2, p3⟩ := cells4 q1
  by_cases h0 : n = 0
  case neg =>
    obtain ⟨hc, hA, hB, hO⟩ := out_bad (o := (o.l.map Itm.abs)) (a := (a.l.map Itm.abs)) (b := (b.l.map Itm.abs)) (by rw [hn]; exact h0)
    rw [hn] at hc
    have he := HE1.out
    unfold RI.abs at he
    rw [hA, hB, hO] at he
    simp only [Prod.mk.injEq, List.map_eq_nil_iff] at he
    have l1 : x1.a.l.length = 0 := by rw [he.1]; rfl
    have l2 : x1.b.l.length = 0 := by rw [he.2.1]; rfl
    have l3 : x1.o.l.length = 0 := by rw [he.2.2.1]; rfl
    have hw : wrap64 (wrap64 ((x1.a.l.length : Int) + (x1.b.l.length : Int)) + (x1.o.l.length : Int)) = 0 := by rw [l1, l2, l3]; first | kernel_rfl | (simp [wrap64]; done) | (unfold wrap64; omega)
    clear he hA hB hO q1 l1 l2 l3 HX1 HE1 hn
    rcases hc with rfl | rfl
    · go_wp2_with fail
      refine (HA.out _).mono ?_
      rintro e w3 ⟨rfl, hb3⟩
      have hb4 := thenB hb1' hb3
      go_wp2_with fail
      go_ret
      exact ⟨rfl, hb4⟩
    · go_wp2_with fail
      refine (HA.out _).mono ?_
      rintro e w3 ⟨rfl, hb3⟩
      have hb4 := thenB hb1' hb3
      go_wp2_with fail
      go_ret
      exact ⟨rfl, hb4⟩
  subst h0
  have HZ := hid hn
  obtain ⟨hr, hbig, hout⟩ := out_zero (o := (o.l.map Itm.abs)) (a := (a.l.map Itm.abs)) (b := (b.l.map Itm.abs)) hn
  have hmade := right_made hr hbig
  have he := HE1.out
  rw [hout] at he
  unfold RI.abs at he
  simp only [Prod.mk.injEq] at he
  obtain ⟨ea, eb, eo, ec⟩ := he
  have HR1 : HidP (∀ W, Below (w1.alloc (.cells #[.slice x1.a.A x1.a.l.length x1.a.c, .slice x1.b.A x1.b.l.length x1.b.c, .slice x1.o.A x1.o.l.length x1.o.c, .slice x1.cA x1.LC.length x1.cc] 28 (0, 0))).heap.size (w1.alloc (.cells #[.slice x1.a.A x1.a.l.length x1.a.c, .slice x1.b.A x1.b.l.length x1.b.c, .slice x1.o.A x1.o.l.length x1.o.c, .slice x1.cA x1.LC.length x1.cc] 28 (0, 0))) W → Calls Tryz.prog 15 #[.slice x1.a.A x1.a.l.length x1.a.c] W fun e w' => e = .returned (.bool true) ∧ Below W.heap.size W w') := hid (fun W hW => by
    have := right_walk x1.a.A x1.a.c x1.a.l W (HX1.out.a.below hW)
    rwa [ea, show rightA (mA (o.l.map Itm.abs) (a.l.map Itm.abs) (b.l.map Itm.abs)) = true from right_iff.2 hmade.a] at this)
  have HR2 : HidP (∀ W, Below (w1.alloc (.cells #[.slice x1.a.A x1.a.l.length x1.a.c, .slice x1.b.A x1.b.l.length x1.b.c, .slice x1.o.A x1.o.l.length x1.o.c, .slice x1.cA x1.LC.length x1.cc] 28 (0, 0))).heap.size (w1.alloc (.cells #[.slice x1.a.A x1.a.l.length x1.a.c, .slice x1.b.A x1.b.l.length x1.b.c, .slice x1.o.A x1.o.l.length x1.o.c, .slice x1.cA x1.LC.length x1.cc] 28 (0, 0))) W → Calls Tryz.prog 15 #[.slice x1.b.A x1.b.l.length x1.b.c] W fun e w' => e = .returned (.bool true) ∧ Below W.heap.size W w') := hid (fun W hW => by
    have := right_walk x1.b.A x1.b.c x1.b.l W (HX1.out.b.below hW)
    rwa [eb, show rightA (mB (o.l.map Itm.abs) (a.l.map Itm.abs) (b.l.map Itm.abs)) = true from right_iff.2 hmade.b] at this)
  have HR3 : HidP (∀ W, Below (w1.alloc (.cells #[.slice x1.a.A x1.a.l.length x1.a.c, .slice x1.b.A x1.b.l.length x1.b.c, .slice x1.o.A x1.o.l.length x1.o.c, .slice x1.cA x1.LC.length x1.cc] 28 (0, 0))).heap.size (w1.alloc (.cells #[.slice x1.a.A x1.a.l.length x1.a.c, .slice x1.b.A x1.b.l.length x1.b.c, .slice x1.o.A x1.o.l.length x1.o.c, .slice x1.cA x1.LC.length x1.cc] 28 (0, 0))) W → Calls Tryz.prog 15 #[.slice x1.o.A x1.o.l.length x1.o.c] W fun e w' => e = .returned (.bool true) ∧ Below W.heap.size W w') := hid (fun W hW => by
    have := right_walk x1.o.A x1.o.c x1.o.l W (HX1.out.o.below hW)
    rwa [eo, show rightA (mO (o.l.map Itm.abs) (a.l.map Itm.abs) (b.l.map Itm.abs)) = true from right_iff.2 hmade.o] at this)
  have HRR := hid hr
  have HQ1 := hid q1
  have EA := hid ea
  have EB := hid eb
  have EO := hid eo
  have EC := hid ec
  clear hn hr hbig hout hmade ea eb eo ec q1
  go_wp2_with fail
  refine (HR1.out _ (Below.refl _ _)).mono ?_
  rintro e w3 ⟨rfl, hc1⟩
  have p0 := cellB hc1 p0
  have p1 := cellB hc1 p1
  have p2 := cellB hc1 p2
  go_wp2_with fail
  refine (HR2.out _ hc1).mono ?_
  rintro e w4 ⟨rfl, hc2⟩
  have p0 := cellB hc2 p0
  have p2 := cellB hc2 p2
  go_wp2_with fail
  refine (HR3.out _ (thenB hc1 hc2)).mono ?_
  rintro e w5 ⟨rfl, hc3⟩
  have p0 := cellB hc3 p0
  go_wp2_with fail
  obtain ⟨ti, hi0, hz0, hz1, hz2⟩ := info_parts infoItem
  have hbw := thenB hb1' (thenB hc1 (thenB hc2 hc3))
  have hba := thenA (Below.refl _ w5) (.cells #[] 42 (0, 0))
  have p0a : (w5.alloc (.cells #[] 42 (0, 0))).cell? ⟨w1.heap.size, 0, none⟩ = some (.slice x1.a.A x1.a.l.length x1.a.c) := cellA p0 _
  have hrow1 : Row (w5.alloc (.cells #[] 42 (0, 0))) 42 3 (.slice (some ⟨w5.heap.size, 0, none⟩) 0 0) ([].flatMap Itm.cells) := ⟨_, 0, 0, rfl, rfl, Nat.le_refl _, Nat.zero_le _, .inr ⟨w5.heap.size, 0, #[], rfl, heap_alloc_new w5 _, by simp, by simp⟩⟩
  have hs1 := (HO.out.below (thenB hbw hba)).src
  have hlr : x1.a.l.length ≤ 62 := by
    have he2 := HE1.out
    unfold RI.abs at he2
    simp only [Prod.mk.injEq] at he2
    have h1 := congrArg List.length he2.1
    rw [List.length_map] at h1
    have h2 := (made_len HZ.out).1
    omega
  have hn := HN.out
  have bd1 := apps_bound (L := []) (l := o.l) (by simp; omega)
  have bd2 := apps_bound (L := [] ++ o.l) (l := a.l) (by simp; omega)
  have bd3 := apps_bound (L := ([] ++ o.l) ++ a.l) (l := b.l) (by simp; omega)
  have bd4 := apps_bound (L := (([] ++ o.l) ++ a.l) ++ b.l) (l := x1.a.l) (by simp; omega)
  go_region_held3 (fun W => Below w5.heap.size w5 W ∧ W.cell? ⟨w1.heap.size, 0, none⟩ = some (.slice x1.a.A x1.a.l.length x1.a.c)) (first | exact ⟨hB9, p9⟩ | exact ⟨hB8, p8⟩ | exact ⟨hB7, p7⟩ | exact ⟨hB6, p6⟩ | exact ⟨⟨hba.os, hba.tape, hba.output, hba.size, hba.block⟩, p0a⟩ | exact ⟨⟨rfl, rfl, rfl, Nat.le_refl _, fun _ _ => rfl⟩, p0⟩) (first | (refine step_append_row _ (by rfl) _ _ 22 (by rfl) 42 ti (.agg #[.string ByteArray.empty, .bool false, .slice none 0 0]) 3 48 Tryz.underlying22 hi0 hz0 hz1 hz2 rfl (by decide) (.slice (some ⟨w5.heap.size, 0, none⟩) 0 0) (([]).flatMap Itm.cells) (by rfl) (by exact hrow1.keep (fun _ _ => rfl)) (.slice o.A o.l.length o.c) (o.l.flatMap Itm.cells) (by rfl) (by exact hs1.keep (fun _ _ _ => rfl)) (itms_one _) (by exact bd1.1) (by exact bd1.2) ?_; intro A6 n6 c6 w6 hr6 hg6 ha6; have hB6 : Below w5.heap.size w5 w6 := Below.grownNew hba ⟨hg6.os, hg6.tape, hg6.output, hg6.size, hg6.block⟩ (by simp) (fun k hk => by cases hk; exact Nat.le_refl _); have hf6 := fresh_of (B := w5.heap.size) ha6 (fun k hk => by cases hk; exact Nat.le_refl _) (by simp); have p6 := cellB hB6 p0; have hrow2 : Row w6 42 3 (.slice A6 n6 c6) (([] ++ o.l).flatMap Itm.cells) := (by rw [List.flatMap_append]; exact hr6); have hs2 := (HAA.out.below (thenB hbw hB6)).src) | (refine step_append_row _ (by rfl) _ _ 22 (by rfl) 42 ti (.agg #[.string ByteArray.empty, .bool false, .slice none 0 0]) 3 48 Tryz.underlying22 hi0 hz0 hz1 hz2 rfl (by decide) (.slice A6 n6 c6) ((([] ++ o.l)).flatMap Itm.cells) (by rfl) (by exact hrow2.keep (fun _ _ => rfl)) (.slice a.A a.l.length a.c) (a.l.flatMap Itm.cells) (by rfl) (by exact hs2.keep (fun _ _ _ => rfl)) (itms_one _) (by exact bd2.1) (by exact bd2.2) ?_; intro A7 n7 c7 w7 hr7 hg7 ha7; have hB7 : Below w5.heap.size w5 w7 := Below.grownNew hB6 ⟨hg7.os, hg7.tape, hg7.output, hg7.size, hg7.block⟩ hB6.size hf6; have hf7 := fresh_of (B := w5.heap.size) ha7 hf6 hB6.size; have p7 := cellB hB7 p0; have hrow3 : Row w7 42 3 (.slice A7 n7 c7) ((([] ++ o.l) ++ a.l).flatMap Itm.cells) := (by rw [List.flatMap_append]; exact hr7); have hs3 := (HB.out.below (thenB hbw hB7)).src) | (refine step_append_row _ (by rfl) _ _ 22 (by rfl) 42 ti (.agg #[.string ByteArray.empty, .bool false, .slice none 0 0]) 3 48 Tryz.underlying22 hi0 hz0 hz1 hz2 rfl (by decide) (.slice A7 n7 c7) (((([] ++ o.l) ++ a.l)).flatMap Itm.cells) (by rfl) (by exact hrow3.keep (fun _ _ => rfl)) (.slice b.A b.l.length b.c) (b.l.flatMap Itm.cells) (by rfl) (by exact hs3.keep (fun _ _ _ => rfl)) (itms_one _) (by exact bd3.1) (by exact bd3.2) ?_; intro A8 n8 c8 w8 hr8 hg8 ha8; have hB8 : Below w5.heap.size w5 w8 := Below.grownNew hB7 ⟨hg8.os, hg8.tape, hg8.output, hg8.size, hg8.block⟩ hB7.size hf7; have hf8 := fresh_of (B := w5.heap.size) ha8 hf7 hB7.size; have p8 := cellB hB8 p0; have hrow4 : Row w8 42 3 (.slice A8 n8 c8) (((([] ++ o.l) ++ a.l) ++ b.l).flatMap Itm.cells) := (by rw [List.flatMap_append]; exact hr8); have hs4 := (HX1.out.a.below (thenB (thenB hc1 (thenB hc2 hc3)) hB8)).src) | (refine step_append_row22 (by rfl) _ _ 22 25 (by rfl) 42 42 ti (.agg #[.string ByteArray.empty, .bool false, .slice none 0 0]) 3 48 Tryz.underlying22 Tryz.underlying25 hi0 hz0 hz1 hz2 rfl (by decide) (.slice A8 n8 c8) ((((([] ++ o.l) ++ a.l) ++ b.l)).flatMap Itm.cells) (by rfl) (by exact hrow4.keep (fun _ _ => rfl)) (.slice x1.a.A x1.a.l.length x1.a.c) (x1.a.l.flatMap Itm.cells) (by rfl) (by exact hs4.keep (fun _ _ _ => rfl)) (itms_one _) (by exact bd4.1) (by exact bd4.2) ?_; intro A9 n9 c9 w9 hr9 hg9 ha9; have hB9 : Below w5.heap.size w5 w9 := Below.grownNew hB8 ⟨hg9.os, hg9.tape, hg9.output, hg9.size, hg9.block⟩ hB8.size hf8; have hf9 := fresh_of (B := w5.heap.size) ha9 hf8 hB8.size; have p9 := cellB hB9 p0; have hrow5 : Row w9 42 3 (.slice A9 n9 c9) ((((([] ++ o.l) ++ a.l) ++ b.l) ++ x1.a.l).flatMap Itm.cells) := (by rw [List.flatMap_append]; exact hr9)))
  have hbw9 := thenB hbw hB9
  have hw29 := thenB (thenB hc1 (thenB hc2 hc3)) hB9
  have hgd : ∀ y ∈ (((([] ++ o.l) ++ a.l) ++ b.l) ++ x1.a.l), Good w9 y := fun y hy => by
    simp only [List.nil_append, List.mem_append] at hy
    rcases hy with ((hy | hy) | hy) | hy
    · exact (HO.out.good y hy).below hbw9
    · exact (HAA.out.good y hy).below hbw9
    · exact (HB.out.good y hy).below hbw9
    · exact (HX1.out.a.good y hy).below hw29
  obtain ⟨hn9, ht9⟩ := Tr.ofRow hrow5 hgd (by simp; omega)
  have hP : HidP (∀ y ∈ (((([] ++ o.l) ++ a.l) ++ b.l) ++ x1.a.l), y.p.toList ≠ []) := hid (fun y hy => by
    have he2 := HE1.out
    unfold RI.abs at he2
    simp only [Prod.mk.injEq] at he2
    obtain ⟨_, hbig, hout⟩ := out_zero HZ.out
    have hmade := right_made HRR.out hbig
    have key : ∀ (T : List AIt) (l : List Itm), RightP T → l.map Itm.abs = T → y ∈ l → y.p.toList ≠ [] := fun T l hT hl hy => path_ne (hT.path (x := y.abs) (by rw [← hl]; exact List.mem_map_of_mem hy))
    simp only [List.nil_append, List.mem_append] at hy
    rcases hy with ((hy | hy) | hy) | hy
    · exact key _ _ HRR.out.o rfl hy
    · exact key _ _ HRR.out.a rfl hy
    · exact key _ _ HRR.out.b rfl hy
    · exact key _ _ hmade.a (he2.1.trans (by rw [hout])) hy)
  generalize (((([] ++ o.l) ++ a.l) ++ b.l) ++ x1.a.l) = P at *
  subst hn9
  have HT9 := hid ht9
  have HBW9 := hid hbw9
  have HX9 := hid (HX1.out.below hw29)
  have HQ9 := hid ((hw29.block _ (blkLt HQ1.out)).trans HQ1.out)
  have h9max := ht9.max
  clear hrow1 hrow2 hrow3 hrow4 hrow5 hr6 hr7 hr8 hr9 hg6 hg7 hg8 hg9 ha6 ha7 ha8 ha9 hf6 hf7 hf8 hf9 hs1 hs2 hs3 hs4 bd1 bd2 bd3 bd4 p0 p1 p2 p3 p0a p6 p7 p8 p9 hgd ht9
  go_wp2_with fail
  go_loopg [10] P.length (fun k i wr => ∃ j : Nat, j ≤ P.length ∧ k = P.length - j ∧ i = .int .i64 j ∧ Below w9.heap.size w9 wr)
  case atStart => exact ⟨0, Nat.zero_le _, rfl, rfl, Below.refl _ _⟩
  case round =>
    obtain ⟨j, hj, rfl, rfl, hbr⟩ := hrel
    by_cases hlt : j < P.length
    · have i0 : (0 : Int) ≤ (j : Int) := by omega
      have i1 : (j : Int) < (P.length : Int) := by omega
      obtain ⟨pb, po, hA, k0, k1, k2, hg⟩ := (HT9.out.below hbr).at hlt
      subst hA
      have hbwr := thenB HBW9.out hbr
      have HV1 := hid (value_walk o.A o.c o.l P[j].p wr (HO.out.below hbwr))
      go_wp2_with fail
      refine HV1.out.mono ?_
      rintro e wa ⟨⟨xo, rfl, go1, eo1⟩, hv1⟩
      have HV2 := hid (value_walk a.A a.c a.l P[j].p wa (HAA.out.below (thenB hbwr hv1)))
      go_wp2_with fail
      refine HV2.out.mono ?_
      rintro e wb ⟨⟨xa, rfl, go2, eo2⟩, hv2⟩
      have HV3 := hid (value_walk b.A b.c b.l P[j].p wb (HB.out.below (thenB hbwr (thenB hv1 hv2))))
      go_wp2_with fail
      refine HV3.out.mono ?_
      rintro e wc ⟨⟨xb, rfl, go3, eo3⟩, hv3⟩
      clear HV1 HV2 HV3
      go_wp2_with fail
      have b12 : BoxI (((wc.alloc (.cells #[.string xo.p, .bool xo.d, .slice xo.dA xo.bs.length xo.dc] 42 (0, 0))).alloc (.cells #[.string xa.p, .bool xa.d, .slice xa.dA xa.bs.length xa.dc] 42 (0, 0))).alloc (.cells #[.string xb.p, .bool xb.d, .slice xb.dA xb.bs.length xb.dc] 42 (0, 0))) wc.heap.size xo := ⟨(heap_alloc_old _ _ (by simp; omega)).trans ((heap_alloc_old _ _ (by simp)).trans (heap_alloc_new wc _))⟩
      have b13 : BoxI (((wc.alloc (.cells #[.string xo.p, .bool xo.d, .slice xo.dA xo.bs.length xo.dc] 42 (0, 0))).alloc (.cells #[.string xa.p, .bool xa.d, .slice xa.dA xa.bs.length xa.dc] 42 (0, 0))).alloc (.cells #[.string xb.p, .bool xb.d, .slice xb.dA xb.bs.length xb.dc] 42 (0, 0))) (wc.heap.size + 1) xa := ⟨(heap_alloc_old _ _ (by simp)).trans (by have := heap_alloc_new (wc.alloc (.cells #[.string xo.p, .bool xo.d, .slice xo.dA xo.bs.length xo.dc] 42 (0, 0))) (.cells #[.string xa.p, .bool xa.d, .slice xa.dA xa.bs.length xa.dc] 42 (0, 0)); rwa [World.size_alloc] at this)⟩
      have b14 : BoxI (((wc.alloc (.cells #[.string xo.p, .bool xo.d, .slice xo.dA xo.bs.length xo.dc] 42 (0, 0))).alloc (.cells #[.string xa.p, .bool xa.d, .slice xa.dA xa.bs.length xa.dc] 42 (0, 0))).alloc (.cells #[.string xb.p, .bool xb.d, .slice xb.dA xb.bs.length xb.dc] 42 (0, 0))) (wc.heap.size + 1 + 1) xb := ⟨by have := heap_alloc_new ((wc.alloc (.cells #[.string xo.p, .bool xo.d, .slice xo.dA xo.bs.length xo.dc] 42 (0, 0))).alloc (.cells #[.string xa.p, .bool xa.d, .slice xa.dA xa.bs.length xa.dc] 42 (0, 0))) (.cells #[.string xb.p, .bool xb.d, .slice xb.dA xb.bs.length xb.dc] 42 (0, 0)); rwa [World.size_alloc, World.size_alloc] at this⟩
      have hW0 := thenA (thenA (thenA (Below.refl _ wc) (.cells #[.string xo.p, .bool xo.d, .slice xo.dA xo.bs.length xo.dc] 42 (0, 0))) (.cells #[.string xa.p, .bool xa.d, .slice xa.dA xa.bs.length xa.dc] 42 (0, 0))) (.cells #[.string xb.p, .bool xb.d, .slice xb.dA xb.bs.length xb.dc] 42 (0, 0))
      generalize (((wc.alloc (.cells #[.string xo.p, .bool xo.d, .slice xo.dA xo.bs.length xo.dc] 42 (0, 0))).alloc (.cells #[.string xa.p, .bool xa.d, .slice xa.dA xa.bs.length xa.dc] 42 (0, 0))).alloc (.cells #[.string xb.p, .bool xb.d, .slice xb.dA xb.bs.length xb.dc] 42 (0, 0))) = W0 at *
      have hvb := thenB (thenB hv1 (thenB hv2 hv3)) hW0
      have hR0 := thenB hbr hvb
      have hb00 := thenB hbwr hvb
      obtain ⟨p0, p1, p2, p3⟩ := cells4 ((hR0.block _ (blkLt HQ9.out)).trans HQ9.out)
      have HG1 := hid (go1.below (thenB hv2 (thenB hv3 hW0)))
      have HG2 := hid (go2.below (thenB hv3 hW0))
      have HG3 := hid (go3.below hW0)
      have V1 := hid eo1
      have V2 := hid eo2
      have V3 := hid eo3
      have HB12 := hid b12
      have HB13 := hid b13
      have HB14 := hid b14
      have hl12 : wc.heap.size + 1 + 1 < W0.heap.size := blkLt b14.blk
      have HS : HidP (∀ W, Below W0.heap.size W0 W → (Below W0.heap.size W0 W ∧ W.cell? ⟨w1.heap.size, 0, none⟩ = some (.slice x1.a.A x1.a.l.length x1.a.c) ∧ W.cell? ⟨w1.heap.size, 1, none⟩ = some (.slice x1.b.A x1.b.l.length x1.b.c) ∧ W.cell? ⟨w1.heap.size, 2, none⟩ = some (.slice x1.o.A x1.o.l.length x1.o.c))) := hid (fun W hW => ⟨hW, cellB hW p0, cellB hW p1, cellB hW p2⟩)
      have hs0 := HS.out W0.drew ⟨rfl, rfl, rfl, Nat.le_refl _, fun _ _ => rfl⟩
      have HP3 := hid p3
      clear go1 go2 go3 eo1 eo2 eo3 b12 b13 b14 hW0 hv1 hv2 hv3 hvb p0 p1 p2 p3 hg k0 k1 k2
      refine wp_region_held_drew (S := fun W => Below W0.heap.size W0 W ∧ W.cell? ⟨w1.heap.size, 0, none⟩ = some (.slice x1.a.A x1.a.l.length x1.a.c) ∧ W.cell? ⟨w1.heap.size, 1, none⟩ = some (.slice x1.b.A x1.b.l.length x1.b.c) ∧ W.cell? ⟨w1.heap.size, 2, none⟩ = some (.slice x1.o.A x1.o.l.length x1.o.c)) (by kernel_rfl) hs0 (fun hHeld => ?_)
      refine wpAnyH_take (i := 0) (oi := _) (v := ?_) rfl (by kernel_rfl) (by kernel_rfl) (by kernel_rfl) (fun _ _ _ h => h) (Or.inl ⟨by rfl, by intro W hSw; (try dsimp only at hSw); go_simp; try with_reducible rfl⟩) (by assumption) ?_
      try simp only [Act.put, List.setIfInBounds_toArray, List.set_cons_zero, List.set_cons_succ]
      refine wpAnyH_take (i := 1) (oi := _) (v := ?_) rfl (by kernel_rfl) (by kernel_rfl) (by kernel_rfl) (fun _ _ _ h => h) (Or.inl ⟨by rfl, by intro W hSw; (try dsimp only at hSw); go_simp; try with_reducible rfl⟩) (by assumption) ?_
      try simp only [Act.put, List.setIfInBounds_toArray, List.set_cons_zero, List.set_cons_succ]
      refine wpAnyH_take (i := 2) (oi := _) (v := ?_) rfl (by kernel_rfl) (by kernel_rfl) (by kernel_rfl) (fun _ _ _ h => h) (Or.inl ⟨by rfl, by intro W hSw; (try dsimp only at hSw); go_simp; try with_reducible rfl⟩) (by assumption) ?_
      try simp only [Act.put, List.setIfInBounds_toArray, List.set_cons_zero, List.set_cons_succ]
      refine wpAnyH_take (i := 4) (oi := _) (v := ?_) rfl (by kernel_rfl) (by kernel_rfl) (by kernel_rfl) (fun _ _ _ h => h) (Or.inl ⟨by rfl, by intro W hSw; (try dsimp only at hSw); go_simp; try with_reducible rfl⟩) (by assumption) ?_
      try simp only [Act.put, List.setIfInBounds_toArray, List.set_cons_zero, List.set_cons_succ]
      refine wpAnyH_take (i := 5) (oi := _) (v := ?_) rfl (by kernel_rfl) (by kernel_rfl) (by kernel_rfl) (fun _ _ _ h => h) (Or.inl ⟨by rfl, by intro W hSw; (try dsimp only at hSw); go_simp; try with_reducible rfl⟩) (by assumption) ?_
      try simp only [Act.put, List.setIfInBounds_toArray, List.set_cons_zero, List.set_cons_succ]
      refine wpAnyH_take (i := 6) (oi := _) (v := ?_) rfl (by kernel_rfl) (by kernel_rfl) (by kernel_rfl) (fun _ _ _ h => h) (Or.inl ⟨by rfl, by intro W hSw; (try dsimp only at hSw); go_simp; try with_reducible rfl⟩) (by assumption) ?_
      try simp only [Act.put, List.setIfInBounds_toArray, List.set_cons_zero, List.set_cons_succ]
      refine wpAnyH_take (i := 8) (oi := _) (v := ?_) rfl (by kernel_rfl) (by kernel_rfl) (by kernel_rfl) (fun _ _ _ h => h) (Or.inl ⟨by rfl, by intro W hSw; (try dsimp only at hSw); go_simp; try with_reducible rfl⟩) (by assumption) ?_
      try simp only [Act.put, List.setIfInBounds_toArray, List.set_cons_zero, List.set_cons_succ]
      refine wpAnyH_take (i := 9) (oi := _) (v := ?_) rfl (by kernel_rfl) (by kernel_rfl) (by kernel_rfl) (fun _ _ _ h => h) (Or.inl ⟨by rfl, by intro W hSw; (try dsimp only at hSw); go_simp; try with_reducible rfl⟩) (by assumption) ?_
      try simp only [Act.put, List.setIfInBounds_toArray, List.set_cons_zero, List.set_cons_succ]
      refine wpAnyH_take (i := 10) (oi := _) (v := ?_) rfl (by kernel_rfl) (by kernel_rfl) (by kernel_rfl) (fun _ _ _ h => h) (Or.inl ⟨by rfl, by intro W hSw; (try dsimp only at hSw); go_simp; try with_reducible rfl⟩) (by assumption) ?_
      try simp only [Act.put, List.setIfInBounds_toArray, List.set_cons_zero, List.set_cons_succ]
      refine flow_region (ks := [3, 7, 11, 12, 13, 14]) specDst (specG (mA (o.l.map Itm.abs) (a.l.map Itm.abs) (b.l.map Itm.abs)) (mB (o.l.map Itm.abs) (a.l.map Itm.abs) (b.l.map Itm.abs)) (mO (o.l.map Itm.abs) (a.l.map Itm.abs) (b.l.map Itm.abs)) P[j].p.toList W0.heap.size) specR 3 (by kernel_rfl) (by kernel_rfl) (by kernel_rfl) (by decide) (by simp [specDst]) (by decide) hs0 specG_mono ?step ?fin
      case step =>
        intro i hi a' w' hF hS hpre
        try dsimp only at hS
        simp only [List.mem_cons, List.not_mem_nil, or_false] at hi
        rcases hi with rfl | rfl | rfl | rfl | rfl | rfl
        · refine ⟨_, rfl, rfl, fun K hK => ?_⟩
          have hv := value_walk x1.a.A x1.a.c x1.a.l P[j].p w' (HX9.out.a.below (thenB hR0 hS.1))
          rw [EA.out] at hv
          refine oper_call 16 _ _ (by rfl) Tryz.func16 (by kernel_rfl) (by kernel_rfl) [.slice x1.a.A x1.a.l.length x1.a.c, .string P[j].p] (by show [a'.eval (.tmp 104), a'.eval (.tmp 105)] = _; rw [hF.eval (by decide), hF.eval (by decide)]; kernel_rfl) hv ?_
          rintro e w2 ⟨⟨x, rfl, hg, hx⟩, hb2⟩
          exact ⟨_, rfl, hK _ _ hb2 (HS.out _ (thenB hS.1 hb2)) ⟨x, rfl, hg, hx⟩ fun j' _ _ _ => specR_call (by decide)⟩
        · refine ⟨_, rfl, rfl, fun K hK => ?_⟩
          have hv := value_walk x1.b.A x1.b.c x1.b.l P[j].p w' (HX9.out.b.below (thenB hR0 hS.1))
          rw [EB.out] at hv
          refine oper_call 16 _ _ (by rfl) Tryz.func16 (by kernel_rfl) (by kernel_rfl) [.slice x1.b.A x1.b.l.length x1.b.c, .string P[j].p] (by show [a'.eval (.tmp 108), a'.eval (.tmp 109)] = _; rw [hF.eval (by decide), hF.eval (by decide)]; kernel_rfl) hv ?_
          rintro e w2 ⟨⟨x, rfl, hg, hx⟩, hb2⟩
          exact ⟨_, rfl, hK _ _ hb2 (HS.out _ (thenB hS.1 hb2)) ⟨x, rfl, hg, hx⟩ fun j' _ _ _ => specR_call (by decide)⟩
        · refine ⟨_, rfl, rfl, fun K hK => ?_⟩
          have hv := value_walk x1.o.A x1.o.c x1.o.l P[j].p w' (HX9.out.o.below (thenB hR0 hS.1))
          rw [EO.out] at hv
          refine oper_call 16 _ _ (by rfl) Tryz.func16 (by kernel_rfl) (by kernel_rfl) [.slice x1.o.A x1.o.l.length x1.o.c, .string P[j].p] (by show [a'.eval (.tmp 112), a'.eval (.tmp 113)] = _; rw [hF.eval (by decide), hF.eval (by decide)]; kernel_rfl) hv ?_
          rintro e w2 ⟨⟨x, rfl, hg, hx⟩, hb2⟩
          exact ⟨_, rfl, hK _ _ hb2 (HS.out _ (thenB hS.1 hb2)) ⟨x, rfl, hg, hx⟩ fun j' _ _ _ => specR_call (by decide)⟩
        · refine ⟨_, rfl, rfl, fun K hK => ?_⟩
          refine oper_alloc_item (by rfl) ?_
          exact hK _ _ (thenA (Below.refl _ _) _) (HS.out _ (thenA hS.1 _)) ⟨_, rfl, hS.1.size, heap_alloc_new _ _⟩ fun j' _ _ hg => spec_new j' _ hg
        · refine ⟨_, rfl, rfl, fun K hK => ?_⟩
          refine oper_alloc_item (by rfl) ?_
          exact hK _ _ (thenA (Below.refl _ _) _) (HS.out _ (thenA hS.1 _)) ⟨_, rfl, hS.1.size, heap_alloc_new _ _⟩ fun j' _ _ hg => spec_new j' _ hg
        · refine ⟨_, rfl, rfl, fun K hK => ?_⟩
          refine oper_alloc_item (by rfl) ?_
          exact hK _ _ (thenA (Below.refl _ _) _) (HS.out _ (thenA hS.1 _)) ⟨_, rfl, hS.1.size, heap_alloc_new _ _⟩ fun j' _ _ hg => spec_new j' _ hg
      case fin =>
        intro a' w' hF hS hG hR
        try dsimp only at hS
        have hx := hS.1
        have g3 : ValG (mA (o.l.map Itm.abs) (a.l.map Itm.abs) (b.l.map Itm.abs)) P[j].p.toList (a'.tmps.getD 106 undef) w' := hG 3 (by simp)
        have g7 : ValG (mB (o.l.map Itm.abs) (a.l.map Itm.abs) (b.l.map Itm.abs)) P[j].p.toList (a'.tmps.getD 110 undef) w' := hG 7 (by simp)
        have g11 : ValG (mO (o.l.map Itm.abs) (a.l.map Itm.abs) (b.l.map Itm.abs)) P[j].p.toList (a'.tmps.getD 114 undef) w' := hG 11 (by simp)
        have g12 : PtrG W0.heap.size (a'.tmps.getD 15 undef) w' := hG 12 (by simp)
        have g13 : PtrG W0.heap.size (a'.tmps.getD 16 undef) w' := hG 13 (by simp)
        have g14 : PtrG W0.heap.size (a'.tmps.getD 17 undef) w' := hG 14 (by simp)
        obtain ⟨xu, eu, gu, au⟩ := g3
        obtain ⟨xv, ev, gv, av⟩ := g7
        obtain ⟨xw, ew, gw, aw⟩ := g11
        obtain ⟨b15, e15, l15, q15⟩ := g12
        obtain ⟨b16, e16, l16, q16⟩ := g13
        obtain ⟨b17, e17, l17, q17⟩ := g14
        have n56 : b15 ≠ b16 := fun e => hR 12 (by simp) 13 (by simp) (by decide) (by decide) (by decide) (by show a'.tmps.getD 15 undef = a'.tmps.getD 16 undef; rw [e15, e16, e])
        have n57 : b15 ≠ b17 := fun e => hR 12 (by simp) 14 (by simp) (by decide) (by decide) (by decide) (by show a'.tmps.getD 15 undef = a'.tmps.getD 17 undef; rw [e15, e17, e])
        have n67 : b16 ≠ b17 := fun e => hR 13 (by simp) 14 (by simp) (by decide) (by decide) (by decide) (by show a'.tmps.getD 16 undef = a'.tmps.getD 17 undef; rw [e16, e17, e])
        have hact := hF.act
        simp only [List.foldl_cons, List.foldl_nil, specDst, eu, ev, ew, e15, e16, e17, List.setIfInBounds_toArray, List.set_cons_zero, List.set_cons_succ] at hact
        clear hF hG hR eu ev ew e15 e16 e17
        subst hact
        have y0 := (blkCell q15 0).trans (rfl : _ = some (Value.string ⟨#[]⟩))
        have y1 := (blkCell q15 1).trans (rfl : _ = some (Value.bool false))
        have y2 := (blkCell q15 2).trans (rfl : _ = some (Value.slice none 0 0))
        have f0 := blkFree q15 0
        have f1 := blkFree q15 1
        have f2 := blkFree q15 2
        refine wpAnyH_ready (rs := [15]) (by kernel_rfl) (by simp) ?_
        refine AllReadyH.cons (o := _) rfl (fun K hK => ?_) AllReadyH.nil
        go_simp
        refine hK.out _ _ (HS.out _ (below3 hx l15 _ _ _)) (fun hHeld => ?_)
        clear hK K y0 y1 y2 f0 f1 f2
        have q16' := far3 q16 n56.symm (.string xu.p) (.bool xu.d) (.slice xu.dA xu.bs.length xu.dc)
        have q17' := far3 q17 n57.symm (.string xu.p) (.bool xu.d) (.slice xu.dA xu.bs.length xu.dc)
        have k15 := BoxI.stored xu q15
        have gu1 := gu.aside3 q15 (.string xu.p) (.bool xu.d) (.slice xu.dA xu.bs.length xu.dc)
        have gv1 := gv.aside3 q15 (.string xu.p) (.bool xu.d) (.slice xu.dA xu.bs.length xu.dc)
        have gw1 := gw.aside3 q15 (.string xu.p) (.bool xu.d) (.slice xu.dA xu.bs.length xu.dc)
        have hx1' := below3 hx l15 (.string xu.p) (.bool xu.d) (.slice xu.dA xu.bs.length xu.dc)
        clear q15 q16 q17 gu gv gw hx hS
        generalize (((w'.setCell ⟨b15, 0, none⟩ (.string xu.p)).setCell ⟨b15, 1, none⟩ (.bool xu.d)).setCell ⟨b15, 2, none⟩ (.slice xu.dA xu.bs.length xu.dc)) = D1 at *
        have y0 := (blkCell q16' 0).trans (rfl : _ = some (Value.string ⟨#[]⟩))
        have y1 := (blkCell q16' 1).trans (rfl : _ = some (Value.bool false))
        have y2 := (blkCell q16' 2).trans (rfl : _ = some (Value.slice none 0 0))
        have f0 := blkFree q16' 0
        have f1 := blkFree q16' 1
        have f2 := blkFree q16' 2
        refine wpAnyH_ready (rs := [16]) (by kernel_rfl) (by simp) ?_
        refine AllReadyH.cons (o := _) rfl (fun K hK => ?_) AllReadyH.nil
        go_simp
        refine hK.out _ _ (HS.out _ (below3 hx1' l16 _ _ _)) (fun hHeld => ?_)
        clear hK K y0 y1 y2 f0 f1 f2
        have q17'' := far3 q17' n67.symm (.string xv.p) (.bool xv.d) (.slice xv.dA xv.bs.length xv.dc)
        have k15' : BoxI (((D1.setCell ⟨b16, 0, none⟩ (.string xv.p)).setCell ⟨b16, 1, none⟩ (.bool xv.d)).setCell ⟨b16, 2, none⟩ (.slice xv.dA xv.bs.length xv.dc)) b15 xu := ⟨far3 k15.blk n56 _ _ _⟩
        have k16 := BoxI.stored xv q16'
        have gu2 := gu1.aside3 q16' (.string xv.p) (.bool xv.d) (.slice xv.dA xv.bs.length xv.dc)
        have gv2 := gv1.aside3 q16' (.string xv.p) (.bool xv.d) (.slice xv.dA xv.bs.length xv.dc)
        have gw2 := gw1.aside3 q16' (.string xv.p) (.bool xv.d) (.slice xv.dA xv.bs.length xv.dc)
        have hx2' := below3 hx1' l16 (.string xv.p) (.bool xv.d) (.slice xv.dA xv.bs.length xv.dc)
        clear q16' q17' gu1 gv1 gw1 hx1' k15
        generalize (((D1.setCell ⟨b16, 0, none⟩ (.string xv.p)).setCell ⟨b16, 1, none⟩ (.bool xv.d)).setCell ⟨b16, 2, none⟩ (.slice xv.dA xv.bs.length xv.dc)) = D2 at *
        have y0 := (blkCell q17'' 0).trans (rfl : _ = some (Value.string ⟨#[]⟩))
        have y1 := (blkCell q17'' 1).trans (rfl : _ = some (Value.bool false))
        have y2 := (blkCell q17'' 2).trans (rfl : _ = some (Value.slice none 0 0))
        have f0 := blkFree q17'' 0
        have f1 := blkFree q17'' 1
        have f2 := blkFree q17'' 2
        refine wpAnyH_ready (rs := [17]) (by kernel_rfl) (by simp) ?_
        refine AllReadyH.cons (o := _) rfl (fun K hK => ?_) AllReadyH.nil
        go_simp
        refine hK.out _ _ (HS.out _ (below3 hx2' l17 _ _ _)) (fun hHeld => ?_)
        clear hK K y0 y1 y2 f0 f1 f2
        have k15'' : BoxI (((D2.setCell ⟨b17, 0, none⟩ (.string xw.p)).setCell ⟨b17, 1, none⟩ (.bool xw.d)).setCell ⟨b17, 2, none⟩ (.slice xw.dA xw.bs.length xw.dc)) b15 xu := ⟨far3 k15'.blk n57 _ _ _⟩
        have k16' : BoxI (((D2.setCell ⟨b17, 0, none⟩ (.string xw.p)).setCell ⟨b17, 1, none⟩ (.bool xw.d)).setCell ⟨b17, 2, none⟩ (.slice xw.dA xw.bs.length xw.dc)) b16 xv := ⟨far3 k16.blk n67 _ _ _⟩
        have k17 := BoxI.stored xw q17''
        have gu3 := gu2.aside3 q17'' (.string xw.p) (.bool xw.d) (.slice xw.dA xw.bs.length xw.dc)
        have gv3 := gv2.aside3 q17'' (.string xw.p) (.bool xw.d) (.slice xw.dA xw.bs.length xw.dc)
        have gw3 := gw2.aside3 q17'' (.string xw.p) (.bool xw.d) (.slice xw.dA xw.bs.length xw.dc)
        have hx3' := below3 hx2' l17 (.string xw.p) (.bool xw.d) (.slice xw.dA xw.bs.length xw.dc)
        clear q17'' gu2 gv2 gw2 hx2' k15' k16
        generalize (((D2.setCell ⟨b17, 0, none⟩ (.string xw.p)).setCell ⟨b17, 1, none⟩ (.bool xw.d)).setCell ⟨b17, 2, none⟩ (.slice xw.dA xw.bs.length xw.dc)) = D3 at *
        refine wpAnyH_done (by kernel_rfl) ?_ _
        have hR3 := thenB hR0 hx3'
        have HR := hid hR3
        have pc := cellB hx3' HP3.out
        have SP := spec_at HRR.out (t := P[j].p.toList) (hP.out _ (List.getElem_mem hlt))
        have HIN : HidP (Calls Tryz.prog 17 #[.slice x1.cA x1.LC.length x1.cc, .string P[j].p] D3 fun e w' => e = .returned (.bool ((mgS (o.l.map Itm.abs) (a.l.map Itm.abs) (b.l.map Itm.abs)).any fun q => withinA q P[j].p.toList)) ∧ Below D3.heap.size D3 w') := hid (by
          have h1 := lawin_walk x1.cA x1.cc x1.LC P[j].p D3 (HX9.out.c.below hR3) HX9.out.n (fun q hq => str_small (conf_path HRR.out (by rw [← EC.out]; exact List.mem_map_of_mem hq)))
          rwa [show (x1.LC.any fun q => withinA q.toList P[j].p.toList) = ((mgS (o.l.map Itm.abs) (a.l.map Itm.abs) (b.l.map Itm.abs)).any fun q => withinA q P[j].p.toList) by rw [← EC.out, List.any_map]; rfl] at h1)
        replace HB12 := hid (HB12.out.below hx3')
        replace HB13 := hid (HB13.out.below hx3')
        replace HB14 := hid (HB14.out.below hx3')
        replace HG1 := hid (HG1.out.below hx3')
        replace HG2 := hid (HG2.out.below hx3')
        replace HG3 := hid (HG3.out.below hx3')
        have K15 := hid k15''
        have K16 := hid k16'
        have K17 := hid k17
        have GU := hid gu3
        have GV := hid gv3
        have GW := hid gw3
        have HSP := hid SP
        have AU := hid au
        have AV := hid av
        have AW := hid aw
        clear k15'' k16' k17 gu3 gv3 gw3 hx3' hR3 SP au av aw HP3 HS hs0 hHeld
        cases hc : ((mgS (o.l.map Itm.abs) (a.l.map Itm.abs) (b.l.map Itm.abs)).any fun q => withinA q P[j].p.toList)
        · rw [hc] at HIN
          have HUV : HidP (decide (xu.abs = xv.abs) = true) := hid (decide_eq_true (by rw [AU.out, AV.out]; exact HSP.out.outB hc))
          have HUW : HidP (decide (xu.abs = xw.abs) = true) := hid (decide_eq_true (by rw [AU.out, AW.out]; exact HSP.out.outO hc))
          have HAO : HidP (decide (xa.abs = xo.abs) = true → decide (xu.abs = xb.abs) = true) := hid (fun h => decide_eq_true (by have h := of_decide_eq_true h; rw [V2.out, V1.out] at h; rw [AU.out, V3.out]; exact HSP.out.ao hc h))
          have HBO : HidP (decide (xb.abs = xo.abs) = true → decide (xu.abs = xa.abs) = true) := hid (fun h => decide_eq_true (by have h := of_decide_eq_true h; rw [V3.out, V1.out] at h; rw [AU.out, V2.out]; exact HSP.out.bo hc h))
          have HAB : HidP (decide (xa.abs = xb.abs) = true → decide (xu.abs = xa.abs) = true) := hid (fun h => decide_eq_true (by have h := of_decide_eq_true h; rw [V2.out, V3.out] at h; rw [AU.out, V2.out]; exact HSP.out.ab hc h))
          clear hc HSP
          go_wp2_with fail
          refine HIN.out.mono ?_
          rintro e Wc ⟨rfl, hWc⟩
          clear HIN pc
          obtain ⟨c0, c1, c2⟩ := (K15.out.below hWc).cells
          obtain ⟨d0, d1, d2⟩ := (K16.out.below hWc).cells
          have hs101 := hid (same_is (GU.out.below hWc) (GV.out.below hWc) HUV.out)
          go_wp2_with fail
          refine hs101.out.mono ?_
          rintro e W101 ⟨rfl, hk101⟩
          have hW101 := thenB hWc hk101
          clear hs101 c0 c1 c2 d0 d1 d2 hk101
          obtain ⟨c0, c1, c2⟩ := (K15.out.below hW101).cells
          obtain ⟨d0, d1, d2⟩ := (K17.out.below hW101).cells
          have hs102 := hid (same_is (GU.out.below hW101) (GW.out.below hW101) HUW.out)
          go_wp2_with fail
          refine hs102.out.mono ?_
          rintro e W102 ⟨rfl, hk102⟩
          have hW102 := thenB hW101 hk102
          clear hs102 c0 c1 c2 d0 d1 d2 hk102
          obtain ⟨s1, hs1⟩ : ∃ s1, decide (xa.abs = xo.abs) = s1 := ⟨_, rfl⟩
          obtain ⟨s2, hs2⟩ : ∃ s2, decide (xb.abs = xo.abs) = s2 := ⟨_, rfl⟩
          obtain ⟨s3, hs3⟩ : ∃ s3, decide (xa.abs = xb.abs) = s3 := ⟨_, rfl⟩
          have HS1 := hid hs1
          have HS2 := hid hs2
          have HS3 := hid hs3
          clear hs1 hs2 hs3
          cases s1
          · obtain ⟨c0, c1, c2⟩ := (HB13.out.below hW102).cells
            obtain ⟨d0, d1, d2⟩ := (HB12.out.below hW102).cells
            have hs123 := hid (same_is (HG2.out.below hW102) (HG1.out.below hW102) HS1.out)
            go_wp2_with fail
            refine hs123.out.mono ?_
            rintro e W123 ⟨rfl, hk123⟩
            have hW123 := thenB hW102 hk123
            clear hs123 c0 c1 c2 d0 d1 d2 hk123
            cases s2
            · obtain ⟨c0, c1, c2⟩ := (HB14.out.below hW123).cells
              obtain ⟨d0, d1, d2⟩ := (HB12.out.below hW123).cells
              have hs144 := hid (same_is (HG3.out.below hW123) (HG1.out.below hW123) HS2.out)
              go_wp2_with fail
              refine hs144.out.mono ?_
              rintro e W144 ⟨rfl, hk144⟩
              have hW144 := thenB hW123 hk144
              clear hs144 c0 c1 c2 d0 d1 d2 hk144
              cases s3
              · obtain ⟨c0, c1, c2⟩ := (HB13.out.below hW144).cells
                obtain ⟨d0, d1, d2⟩ := (HB14.out.below hW144).cells
                have hs165 := hid (same_is (HG2.out.below hW144) (HG3.out.below hW144) HS3.out)
                go_wp2_with fail
                refine hs165.out.mono ?_
                rintro e W165 ⟨rfl, hk165⟩
                have hW165 := thenB hW144 hk165
                clear hs165 c0 c1 c2 d0 d1 d2 hk165
                go_wp2_with fail
                go_roundg (P.length - (j + 1))
                case measure => omega
                case rel => exact ⟨j + 1, by omega, rfl, by go_num, thenB HR.out hW165⟩
              · obtain ⟨c0, c1, c2⟩ := (HB13.out.below hW144).cells
                obtain ⟨d0, d1, d2⟩ := (HB14.out.below hW144).cells
                have hs165 := hid (same_is (HG2.out.below hW144) (HG3.out.below hW144) HS3.out)
                go_wp2_with fail
                refine hs165.out.mono ?_
                rintro e W165 ⟨rfl, hk165⟩
                have hW165 := thenB hW144 hk165
                clear hs165 c0 c1 c2 d0 d1 d2 hk165
                obtain ⟨c0, c1, c2⟩ := (K15.out.below hW165).cells
                obtain ⟨d0, d1, d2⟩ := (HB13.out.below hW165).cells
                have hs166 := hid (same_is (GU.out.below hW165) (HG2.out.below hW165) (HAB.out HS3.out))
                go_wp2_with fail
                refine hs166.out.mono ?_
                rintro e W166 ⟨rfl, hk166⟩
                have hW166 := thenB hW165 hk166
                clear hs166 c0 c1 c2 d0 d1 d2 hk166
                go_wp2_with fail
                go_roundg (P.length - (j + 1))
                case measure => omega
                case rel => exact ⟨j + 1, by omega, rfl, by go_num, thenB HR.out hW166⟩
            · obtain ⟨c0, c1, c2⟩ := (HB14.out.below hW123).cells
              obtain ⟨d0, d1, d2⟩ := (HB12.out.below hW123).cells
              have hs144 := hid (same_is (HG3.out.below hW123) (HG1.out.below hW123) HS2.out)
              go_wp2_with fail
              refine hs144.out.mono ?_
              rintro e W144 ⟨rfl, hk144⟩
              have hW144 := thenB hW123 hk144
              clear hs144 c0 c1 c2 d0 d1 d2 hk144
              obtain ⟨c0, c1, c2⟩ := (K15.out.below hW144).cells
              obtain ⟨d0, d1, d2⟩ := (HB13.out.below hW144).cells
              have hs145 := hid (same_is (GU.out.below hW144) (HG2.out.below hW144) (HBO.out HS2.out))
              go_wp2_with fail
              refine hs145.out.mono ?_
              rintro e W145 ⟨rfl, hk145⟩
              have hW145 := thenB hW144 hk145
              clear hs145 c0 c1 c2 d0 d1 d2 hk145
              cases s3
              · obtain ⟨c0, c1, c2⟩ := (HB13.out.below hW145).cells
                obtain ⟨d0, d1, d2⟩ := (HB14.out.below hW145).cells
                have hs166 := hid (same_is (HG2.out.below hW145) (HG3.out.below hW145) HS3.out)
                go_wp2_with fail
                refine hs166.out.mono ?_
                rintro e W166 ⟨rfl, hk166⟩
                have hW166 := thenB hW145 hk166
                clear hs166 c0 c1 c2 d0 d1 d2 hk166
                go_wp2_with fail
                go_roundg (P.length - (j + 1))
                case measure => omega
                case rel => exact ⟨j + 1, by omega, rfl, by go_num, thenB HR.out hW166⟩
              · obtain ⟨c0, c1, c2⟩ := (HB13.out.below hW145).cells
                obtain ⟨d0, d1, d2⟩ := (HB14.out.below hW145).cells
                have hs166 := hid (same_is (HG2.out.below hW145) (HG3.out.below hW145) HS3.out)
                go_wp2_with fail
                refine hs166.out.mono ?_
                rintro e W166 ⟨rfl, hk166⟩
                have hW166 := thenB hW145 hk166
                clear hs166 c0 c1 c2 d0 d1 d2 hk166
                obtain ⟨c0, c1, c2⟩ := (K15.out.below hW166).cells
                obtain ⟨d0, d1, d2⟩ := (HB13.out.below hW166).cells
                have hs167 := hid (same_is (GU.out.below hW166) (HG2.out.below hW166) (HAB.out HS3.out))
                go_wp2_with fail
                refine hs167.out.mono ?_
                rintro e W167 ⟨rfl, hk167⟩
                have hW167 := thenB hW166 hk167
                clear hs167 c0 c1 c2 d0 d1 d2 hk167
                go_wp2_with fail
                go_roundg (P.length - (j + 1))
                case measure => omega
                case rel => exact ⟨j + 1, by omega, rfl, by go_num, thenB HR.out hW167⟩
          · obtain ⟨c0, c1, c2⟩ := (HB13.out.below hW102).cells
            obtain ⟨d0, d1, d2⟩ := (HB12.out.below hW102).cells
            have hs123 := hid (same_is (HG2.out.below hW102) (HG1.out.below hW102) HS1.out)
            go_wp2_with fail
            refine hs123.out.mono ?_
            rintro e W123 ⟨rfl, hk123⟩
            have hW123 := thenB hW102 hk123
            clear hs123 c0 c1 c2 d0 d1 d2 hk123
            obtain ⟨c0, c1, c2⟩ := (K15.out.below hW123).cells
            obtain ⟨d0, d1, d2⟩ := (HB14.out.below hW123).cells
            have hs124 := hid (same_is (GU.out.below hW123) (HG3.out.below hW123) (HAO.out HS1.out))
            go_wp2_with fail
            refine hs124.out.mono ?_
            rintro e W124 ⟨rfl, hk124⟩
            have hW124 := thenB hW123 hk124
            clear hs124 c0 c1 c2 d0 d1 d2 hk124
            cases s2
            · obtain ⟨c0, c1, c2⟩ := (HB14.out.below hW124).cells
              obtain ⟨d0, d1, d2⟩ := (HB12.out.below hW124).cells
              have hs145 := hid (same_is (HG3.out.below hW124) (HG1.out.below hW124) HS2.out)
              go_wp2_with fail
              refine hs145.out.mono ?_
              rintro e W145 ⟨rfl, hk145⟩
              have hW145 := thenB hW124 hk145
              clear hs145 c0 c1 c2 d0 d1 d2 hk145
              cases s3
              · obtain ⟨c0, c1, c2⟩ := (HB13.out.below hW145).cells
                obtain ⟨d0, d1, d2⟩ := (HB14.out.below hW145).cells
                have hs166 := hid (same_is (HG2.out.below hW145) (HG3.out.below hW145) HS3.out)
                go_wp2_with fail
                refine hs166.out.mono ?_
                rintro e W166 ⟨rfl, hk166⟩
                have hW166 := thenB hW145 hk166
                clear hs166 c0 c1 c2 d0 d1 d2 hk166
                go_wp2_with fail
                go_roundg (P.length - (j + 1))
                case measure => omega
                case rel => exact ⟨j + 1, by omega, rfl, by go_num, thenB HR.out hW166⟩
              · obtain ⟨c0, c1, c2⟩ := (HB13.out.below hW145).cells
                obtain ⟨d0, d1, d2⟩ := (HB14.out.below hW145).cells
                have hs166 := hid (same_is (HG2.out.below hW145) (HG3.out.below hW145) HS3.out)
                go_wp2_with fail
                refine hs166.out.mono ?_
                rintro e W166 ⟨rfl, hk166⟩
                have hW166 := thenB hW145 hk166
                clear hs166 c0 c1 c2 d0 d1 d2 hk166
                obtain ⟨c0, c1, c2⟩ := (K15.out.below hW166).cells
                obtain ⟨d0, d1, d2⟩ := (HB13.out.below hW166).cells
                have hs167 := hid (same_is (GU.out.below hW166) (HG2.out.below hW166) (HAB.out HS3.out))
                go_wp2_with fail
                refine hs167.out.mono ?_
                rintro e W167 ⟨rfl, hk167⟩
                have hW167 := thenB hW166 hk167
                clear hs167 c0 c1 c2 d0 d1 d2 hk167
                go_wp2_with fail
                go_roundg (P.length - (j + 1))
                case measure => omega
                case rel => exact ⟨j + 1, by omega, rfl, by go_num, thenB HR.out hW167⟩
            · obtain ⟨c0, c1, c2⟩ := (HB14.out.below hW124).cells
              obtain ⟨d0, d1, d2⟩ := (HB12.out.below hW124).cells
              have hs145 := hid (same_is (HG3.out.below hW124) (HG1.out.below hW124) HS2.out)
              go_wp2_with fail
              refine hs145.out.mono ?_
              rintro e W145 ⟨rfl, hk145⟩
              have hW145 := thenB hW124 hk145
              clear hs145 c0 c1 c2 d0 d1 d2 hk145
              obtain ⟨c0, c1, c2⟩ := (K15.out.below hW145).cells
              obtain ⟨d0, d1, d2⟩ := (HB13.out.below hW145).cells
              have hs146 := hid (same_is (GU.out.below hW145) (HG2.out.below hW145) (HBO.out HS2.out))
              go_wp2_with fail
              refine hs146.out.mono ?_
              rintro e W146 ⟨rfl, hk146⟩
              have hW146 := thenB hW145 hk146
              clear hs146 c0 c1 c2 d0 d1 d2 hk146
              cases s3
              · obtain ⟨c0, c1, c2⟩ := (HB13.out.below hW146).cells
                obtain ⟨d0, d1, d2⟩ := (HB14.out.below hW146).cells
                have hs167 := hid (same_is (HG2.out.below hW146) (HG3.out.below hW146) HS3.out)
                go_wp2_with fail
                refine hs167.out.mono ?_
                rintro e W167 ⟨rfl, hk167⟩
                have hW167 := thenB hW146 hk167
                clear hs167 c0 c1 c2 d0 d1 d2 hk167
                go_wp2_with fail
                go_roundg (P.length - (j + 1))
                case measure => omega
                case rel => exact ⟨j + 1, by omega, rfl, by go_num, thenB HR.out hW167⟩
              · obtain ⟨c0, c1, c2⟩ := (HB13.out.below hW146).cells
                obtain ⟨d0, d1, d2⟩ := (HB14.out.below hW146).cells
                have hs167 := hid (same_is (HG2.out.below hW146) (HG3.out.below hW146) HS3.out)
                go_wp2_with fail
                refine hs167.out.mono ?_
                rintro e W167 ⟨rfl, hk167⟩
                have hW167 := thenB hW146 hk167
                clear hs167 c0 c1 c2 d0 d1 d2 hk167
                obtain ⟨c0, c1, c2⟩ := (K15.out.below hW167).cells
                obtain ⟨d0, d1, d2⟩ := (HB13.out.below hW167).cells
                have hs168 := hid (same_is (GU.out.below hW167) (HG2.out.below hW167) (HAB.out HS3.out))
                go_wp2_with fail
                refine hs168.out.mono ?_
                rintro e W168 ⟨rfl, hk168⟩
                have hW168 := thenB hW167 hk168
                clear hs168 c0 c1 c2 d0 d1 d2 hk168
                go_wp2_with fail
                go_roundg (P.length - (j + 1))
                case measure => omega
                case rel => exact ⟨j + 1, by omega, rfl, by go_num, thenB HR.out hW168⟩
        · rw [hc] at HIN
          have HUA : HidP (decide (xu.abs = xa.abs) = true) := hid (decide_eq_true (by rw [AU.out, V2.out]; exact HSP.out.inA hc))
          have HVB : HidP (decide (xv.abs = xb.abs) = true) := hid (decide_eq_true (by rw [AV.out, V3.out]; exact HSP.out.inB hc))
          have HWO : HidP (decide (xw.abs = xo.abs) = true) := hid (decide_eq_true (by rw [AW.out, V1.out]; exact HSP.out.inO hc))
          clear hc HSP
          go_wp2_with fail
          refine HIN.out.mono ?_
          rintro e Wc ⟨rfl, hWc⟩
          clear HIN pc
          obtain ⟨c0, c1, c2⟩ := (K15.out.below hWc).cells
          obtain ⟨d0, d1, d2⟩ := (HB13.out.below hWc).cells
          have hs101 := hid (same_is (GU.out.below hWc) (HG2.out.below hWc) HUA.out)
          go_wp2_with fail
          refine hs101.out.mono ?_
          rintro e W101 ⟨rfl, hk101⟩
          have hW101 := thenB hWc hk101
          clear hs101 c0 c1 c2 d0 d1 d2 hk101
          obtain ⟨c0, c1, c2⟩ := (K16.out.below hW101).cells
          obtain ⟨d0, d1, d2⟩ := (HB14.out.below hW101).cells
          have hs102 := hid (same_is (GV.out.below hW101) (HG3.out.below hW101) HVB.out)
          go_wp2_with fail
          refine hs102.out.mono ?_
          rintro e W102 ⟨rfl, hk102⟩
          have hW102 := thenB hW101 hk102
          clear hs102 c0 c1 c2 d0 d1 d2 hk102
          obtain ⟨c0, c1, c2⟩ := (K17.out.below hW102).cells
          obtain ⟨d0, d1, d2⟩ := (HB12.out.below hW102).cells
          have hs103 := hid (same_is (GW.out.below hW102) (HG1.out.below hW102) HWO.out)
          go_wp2_with fail
          refine hs103.out.mono ?_
          rintro e W103 ⟨rfl, hk103⟩
          have hW103 := thenB hW102 hk103
          clear hs103 c0 c1 c2 d0 d1 d2 hk103
          go_wp2_with fail
          go_roundg (P.length - (j + 1))
          case measure => omega
          case rel => exact ⟨j + 1, by omega, rfl, by go_num, thenB HR.out hW103⟩
    · obtain rfl : j = P.length := by omega
      go_wp2_with fail
      refine (HA.out _).mono ?_
      rintro e w10 ⟨rfl, hc10⟩
      have hfin := thenB (thenB HBW9.out hbr) hc10
      go_wp2_with fail
      go_ret
      exact ⟨rfl, hfin⟩
theorem mergespec_card (A0 : Option Addr) (c0 : Nat) (l0 : List Itm) (A1 : Option Addr) (c1 : Nat) (l1 : List Itm) (A2 : Option Addr) (c2 : Nat) (l2 : List Itm) (w : World) (q0 : TrQ w A0 c0 l0) (q1 : TrQ w A1 c1 l1) (q2 : TrQ w A2 c2 l2) :
    Calls Tryz.prog 4 #[.slice A0 l0.length c0, .slice A1 l1.length c1, .slice A2 l2.length c2] w fun e w' => e = .returned (.bool true) ∧ Below w.heap.size w w' := mergespec_walk ⟨A0, c0, l0⟩ ⟨A1, c1, l1⟩ ⟨A2, c2, l2⟩ w q0 q1 q2

end Go.Proofs.YtfbbjfbnkcklgaaGreatDoor
