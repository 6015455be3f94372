/- a guarded call in a region that draws its order -/
import Derived.Test.YtfbbjfbnkcklgaaGreatDoorB
import Derived.OrdersHeld
import Derived.Deep.RegionHeld
namespace Go.Proofs.YtfbbjfbnkcklgaaGreatDoor
open Go.RowKit

/-- as step_call, of an operation that is wanted by its guard -/
theorem step_callG {P : Program} {ops : Array Oper} {o : Oper} {a : Act} {w : World} {K : Act → World → Prop} {Q : Exit → Act → World → Prop} {E : Prop}
    (f : FuncId) (xs : Array Operand) (ats : Array TypeId) (ho : o.op = .call { callee := .value (.func f), args := xs, argTypes := ats }) (hw : Region.wanted o (yielded ops a.tmps) = true) {fn : Func} (hf : P.funcs[f]? = some fn)
    (hname : (fn.name == "runtime.NumGoroutine") = false) (hb : fn.body.isNone = false) (args : List Value) (ha : xs.toList.map a.eval = args) {R : Ending → World → Prop} (hc : Calls P f args.toArray w R)
    (h : ∀ e w', R e w' → ∃ v, e = .returned v ∧ K (a.put o.dst v) w') :
    if Region.wanted o (yielded ops a.tmps) = true then Oper.wp P o a w K Q else E := by
  rw [if_pos hw]
  have hex : execOp a.eval o = callFunc f (#[] ++ xs.map a.eval ++ #[]) := by
    obtain ⟨dst, op, ty, pos, after, guard⟩ := o
    subst ho
    rfl
  unfold Oper.wp
  rw [hex, show #[] ++ xs.map a.eval ++ #[] = args.toArray by rw [← ha]; simp [← List.map_toArray], run_callFunc_go hf hname hb]
  refine hc.mono fun e w' hR => ?_
  obtain ⟨v, rfl, hk⟩ := h e w' hR
  exact hk

end Go.Proofs.YtfbbjfbnkcklgaaGreatDoor

/- append where the two types are spelt apart -/
namespace Go.Proofs.YtfbbjfbnkcklgaaGreatDoor
open Go.RowKit

theorem append_types2 {P : Program} (w : World) (t t2 ty e e2 : TypeId) (ht : P.underlying t = some (.slice e)) (ht2 : P.underlying t2 = some (.slice e2)) {i : TypeInfo} (hi : P.info? e = some i) (A : Option Addr) (n c : Nat) (x : Value) : (Builtin.append_ #[t, t2] ty #[.slice A n c, x]).run P w = (Builtin.append_ #[t, t] ty #[.slice A n c, x]).run P w := by
  simp [Builtin.append_, run_underlying ht, run_underlying ht2, sizeOf, typeInfo, hi]
theorem step_append_row22 {P : Program} {w : World} {ops : Array Oper} {o : Oper} {a : Act} {K : Act → World → Prop} {Q : Exit → Act → World → Prop} {E : Prop} (hgd : o.guard = none) (s x : Operand) (t t2 : TypeId)
    (ho : o.op = .call { callee := .builtin .append, args := #[s, x], argTypes := #[t, t2] })
    (e e2 : TypeId) (i : TypeInfo) (z : Value) (sz bytes : Nat) (ht : P.underlying t = some (.slice e)) (ht2 : P.underlying t2 = some (.slice e2)) (hi : P.info? e = some i) (hz : i.zero = some z)
    (hsize : i.size = sz) (hby : i.bytes = bytes) (hzs : z.cells.size = sz) (hsz : 0 < sz)
    (v : Value) (xs : List Value) (hs : a.eval s = v) (hown : Row w e sz v xs) (xv : Value) (news : List Value) (hxv : a.eval x = xv) (hx : Src w sz xv news) (h1 : ∀ u ∈ news, u.oneCell' = true)
    (h63 : xs.length + news.length ≤ maxLen) (hbytes : (xs.length + news.length) * bytes ≤ 140737488355328)
    (h : ∀ A' n' c' w', Row w' e sz (.slice A' n' c') (xs ++ news) → w.grownBy w' v.ownBlock → ((Value.slice A' n' c').ownBlock = v.ownBlock ∨ (Value.slice A' n' c').ownBlock = some w.heap.size) → K (a.put o.dst (.slice A' n' c')) w') :
    if Region.wanted o (yielded ops a.tmps) = true then Oper.wp P o a w K Q else E := by
  have hw : Region.wanted o (yielded ops a.tmps) = true := by simp [Region.wanted, hgd]
  rw [if_pos hw]
  obtain ⟨A', n', c', w', hr, h2, h3, h4⟩ := run_append_row (P := P) w t o.type e i z sz bytes ht hi hz hsize hby hzs hsz v xs hown xv news hx h1 h63 hbytes
  obtain ⟨A0, n0, c0, rfl, _⟩ := id hown
  rw [← append_types2 w t t2 o.type e e2 ht ht2 hi] at hr
  unfold Oper.wp execOp
  simp only [ho, resolve, invoke, builtin, Sem.run_bind, Sem.run_pure, Result.andThen_ok, List.map_toArray, List.map_cons, List.map_nil, hs, hxv, hr]
  exact h A' n' c' w' h2 h3 h4

end Go.Proofs.YtfbbjfbnkcklgaaGreatDoor

/- a drawn region: operations that wait for little (calls, allocs), each met once, whatever their order -/
namespace Go.Proofs.YtfbbjfbnkcklgaaGreatDoor
open Go.RowKit

def flowNeeds (md : Region.Mode) (ops : Array Oper) (i j : Nat) : Bool := ((ops[i]?).map fun o => o.after.any fun e => Region.binds md e && e.on == j).getD false
def flowReach (md : Region.Mode) (ops : Array Oper) (ks : List Nat) : Nat → Nat → Nat → Bool
  | 0, i, j => flowNeeds md ops i j
  | n + 1, i, j => flowNeeds md ops i j || ks.any fun m => flowNeeds md ops i m && flowReach md ops ks n m j
def flowLate (md : Region.Mode) (ops : Array Oper) (L0 : Array Bool) (ks : List Nat) : Bool := (List.range ops.size).all fun i => L0.getD i true || ks.contains i || (ks.all fun j => flowReach md ops ks ks.length i j) || (List.range ops.size).any fun m => flowNeeds md ops i m && !L0.getD m false && !ks.contains m
def flowBack (md : Region.Mode) (ops : Array Oper) (L0 : Array Bool) (ks : List Nat) : Bool := ks.all fun i => ((ops[i]?).map fun o => o.after.all fun e => !Region.binds md e || L0.getD e.on false || (ks.contains e.on && decide (e.on < i))).getD false
def flowNew (L0 : Array Bool) (ks : List Nat) : Bool := ks.all fun i => !L0.getD i true && decide (i < L0.size)
def flowEnd (L0 : Array Bool) (ks : List Nat) : Array Bool := ks.foldl (fun t j => t.setIfInBounds j true) L0

/-- what has turned: the slots of these operations alone; the world has grown -/
structure Flow (dst : Nat → Nat) (ks : List Nat) (a0 : Act) (w0 : World) (a : Act) (w : World) : Prop where
  defers : a.defers = a0.defers
  size : a.tmps.size = a0.tmps.size
  old : ∀ k, (∀ j ∈ ks, dst j ≠ k) → a.tmps[k]? = a0.tmps[k]?
  below : Below w0.heap.size w0 w

theorem foldl_set {α : Type} {dst : Nat → Nat} {d : α} {s : Array α} : ∀ (ks : List Nat) (t : Array α), t.size = s.size → (∀ k, (∀ j ∈ ks, dst j ≠ k) → t[k]? = s[k]?) → ks.foldl (fun t j => t.setIfInBounds (dst j) (s.getD (dst j) d)) t = s
  | [], t, hs, h => Array.ext_getElem? fun k => h k (by simp)
  | j :: r, t, hs, h => by
    rw [List.foldl_cons]
    refine foldl_set r _ (by simpa using hs) fun k hk => ?_
    by_cases e : dst j = k
    · subst e
      rw [Array.getElem?_setIfInBounds_self, Array.getD_eq_getD_getElem?]
      by_cases hl : dst j < t.size
      · rw [if_pos hl, Array.getElem?_eq_getElem (by omega)]
        rfl
      · rw [if_neg hl, Array.getElem?_eq_none (by omega)]
    · rw [Array.getElem?_setIfInBounds_ne e]
      exact h k fun i hi => by
        rcases List.mem_cons.1 hi with rfl | hi
        · exact e
        · exact hk i hi
theorem Flow.act {dst : Nat → Nat} {ks : List Nat} {a0 a : Act} {w0 w : World} (h : Flow dst ks a0 w0 a w) : a = ⟨ks.foldl (fun t j => t.setIfInBounds (dst j) (a.tmps.getD (dst j) undef)) a0.tmps, a0.defers⟩ := by
  rw [foldl_set ks a0.tmps h.size.symm fun k hk => (h.old k hk).symm, ← h.defers]
theorem Flow.eval {dst : Nat → Nat} {ks : List Nat} {a0 a : Act} {w0 w : World} (h : Flow dst ks a0 w0 a w) {k : Nat} (hk : ∀ j ∈ ks, dst j ≠ k) : a.eval (.tmp k) = a0.eval (.tmp k) := by
  show a.tmps.getD k undef = a0.tmps.getD k undef
  rw [Array.getD_eq_getD_getElem?, Array.getD_eq_getD_getElem?, h.old k hk]
theorem put_getD {a : Act} {k d : Nat} {v : Value} (h : d ≠ k) : (a.put (some d) v).tmps.getD k undef = a.tmps.getD k undef := by
  show (a.tmps.setIfInBounds d v).getD k undef = _
  rw [Array.getD_eq_getD_getElem?, Array.getD_eq_getD_getElem?, Array.getElem?_setIfInBounds_ne h]
theorem put_getD_same {a : Act} {d : Nat} {v : Value} (h : d < a.tmps.size) : (a.put (some d) v).tmps.getD d undef = v := by
  show (a.tmps.setIfInBounds d v).getD d undef = _
  rw [Array.getD_eq_getD_getElem?, Array.getElem?_setIfInBounds_self, if_pos h]
  rfl

theorem flow_reach {md : Region.Mode} {ops : Array Oper} {ks : List Nat} {listed : Array Bool} (hdown : ∀ m ∈ ks, listed.getD m false = true → ∀ j, flowNeeds md ops m j = true → listed.getD j false = true) :
    ∀ (n i j : Nat), (∀ m, flowNeeds md ops i m = true → listed.getD m false = true) → flowReach md ops ks n i j = true → listed.getD j false = true
  | 0, i, j, h, hr => h j hr
  | n + 1, i, j, h, hr => by
    unfold flowReach at hr
    rw [Bool.or_eq_true, List.any_eq_true] at hr
    rcases hr with hr | ⟨m, hm, hr⟩
    · exact h j hr
    · rw [Bool.and_eq_true] at hr
      exact flow_reach hdown n m j (hdown m hm (h m hr.1)) hr.2

section
variable {P : Program} {md : Region.Mode} {ops : Array Oper} {Q : Exit → Act → World → Prop} {S : World → Prop}
theorem flow_region {ks : List Nat} {L0 : Array Bool} {a0 : Act} {w0 : World} (dst : Nat → Nat) (G : Nat → Value → World → Prop) (R : Nat → Nat → Value → Value → Prop) (fuel : Nat)
    (hlate : flowLate md ops L0 ks = true) (hback : flowBack md ops L0 ks = true) (hnew : flowNew L0 ks = true) (hnd : ks.Nodup) (hdst : ∀ i ∈ ks, dst i < a0.tmps.size) (hinj : ∀ i ∈ ks, ∀ j ∈ ks, i ≠ j → dst i ≠ dst j) (hS0 : S w0)
    (hmono : ∀ j v w w', Below w.heap.size w w' → G j v w → G j v w')
    (hstep : ∀ i ∈ ks, ∀ a w, Flow dst ks a0 w0 a w → S w → (∀ j ∈ ks, flowNeeds md ops i j = true → G j (a.tmps.getD (dst j) undef) w) →
      ∃ o, ops[i]? = some o ∧ o.guard = none ∧ ∀ K : Act → World → Prop, (∀ v w', Below w.heap.size w w' → S w' → G i v w' → (∀ j ∈ ks, j ≠ i → G j (a.tmps.getD (dst j) undef) w → R i j v (a.tmps.getD (dst j) undef) ∧ R j i (a.tmps.getD (dst j) undef) v) → K (a.put (some (dst i)) v) w') → Oper.wp P o a w K Q)
    (hend : ∀ a w, Flow dst ks a0 w0 a w → S w → (∀ j ∈ ks, G j (a.tmps.getD (dst j) undef) w) → (∀ i ∈ ks, ∀ j ∈ ks, i ≠ j → R i j (a.tmps.getD (dst i) undef) (a.tmps.getD (dst j) undef)) → wpAnyH P md ops Q S fuel (flowEnd L0 ks) a w) :
    wpAnyH P md ops Q S (fuel + ks.length) L0 a0 w0 := by
  have new : ∀ i ∈ ks, L0.getD i true = false ∧ i < L0.size := fun i hi => by
    have := List.all_eq_true.1 hnew i hi
    simpa using this
  have key : ∀ (n : Nat) (listed : Array Bool) (a : Act) (w : World), (ks.filter fun j => !listed.getD j false).length = n → listed.size = L0.size → (∀ k, k ∉ ks → listed[k]? = L0[k]?) → Flow dst ks a0 w0 a w → S w →
      (∀ j ∈ ks, listed.getD j false = true → G j (a.tmps.getD (dst j) undef) w) → (∀ i ∈ ks, ∀ j ∈ ks, i ≠ j → listed.getD i false = true → listed.getD j false = true → R i j (a.tmps.getD (dst i) undef) (a.tmps.getD (dst j) undef)) →
      (∀ m ∈ ks, listed.getD m false = true → ∀ j, flowNeeds md ops m j = true → listed.getD j false = true) →
      wpAnyH P md ops Q S (fuel + n) listed a w := by
    intro n
    induction n with
    | zero =>
      intro listed a w hn hsz hold hf hs hg hr hdown
      have hall : ∀ j ∈ ks, listed.getD j false = true := fun j hj => by
        have h0 := List.filter_eq_nil_iff.1 (List.eq_nil_of_length_eq_zero hn) j hj
        simpa using h0
      have he : listed = flowEnd L0 ks := by
        have h1 := foldl_set (dst := fun k => k) (d := false) (s := listed) ks L0 hsz.symm fun k hk => (hold k fun h => hk k h rfl).symm
        rw [← h1]
        unfold flowEnd
        have : ∀ (r : List Nat) (t : Array Bool), (∀ j ∈ r, listed.getD j false = true) → r.foldl (fun t j => t.setIfInBounds j (listed.getD j false)) t = r.foldl (fun t j => t.setIfInBounds j true) t := fun r => by
          induction r with
          | nil => intros; rfl
          | cons j r ih => intro t h; rw [List.foldl_cons, List.foldl_cons, h j (by simp)]; exact ih _ fun i hi => h i (by simp [hi])
        exact this ks L0 hall
      rw [he]
      exact hend a w hf hs (fun j hj => hg j hj (hall j hj)) fun i hi j hj hne => hr i hi j hj hne (hall i hi) (hall j hj)
    | succ n ih =>
      intro listed a w hn hsz hold hf hs hg hr hdown
      have inSize : ∀ i ∈ ks, i < listed.size := fun i hi => by rw [hsz]; exact (new i hi).2
      have some_ready : ∀ (m j : Nat), j ≤ m → j ∈ ks → listed.getD j false = false → ∃ i, i ∈ Region.ready md ops listed := by
        intro m
        induction m with
        | zero =>
          intro j hjm hj hl
          refine ⟨j, mem_ready.2 ⟨?_, ?_⟩⟩
          · rw [Array.getD_eq_getD_getElem?] at hl ⊢
            rw [Array.getElem?_eq_getElem (inSize j hj)] at hl ⊢
            exact hl
          · have hb := List.all_eq_true.1 hback j hj
            cases ho : ops[j]? with
            | none => rw [ho] at hb; simp at hb
            | some o =>
              rw [ho] at hb
              simp only [Option.map_some, Option.getD_some] at hb
              refine ⟨o, rfl, fun e he hbind => ?_⟩
              have h2 := (Array.all_eq_true_iff_forall_mem.1 hb) e he
              simp only [hbind, Bool.not_true, Bool.false_or, Bool.or_eq_true, Bool.and_eq_true, decide_eq_true_eq] at h2
              rcases h2 with h2 | ⟨_, h2⟩
              · by_cases hk : e.on ∈ ks
                · have h3 := (new _ hk).1
                  rw [Array.getD_eq_getD_getElem?] at h2 h3
                  rw [Array.getElem?_eq_getElem (new _ hk).2] at h2 h3
                  simp only [Option.getD_some] at h2 h3
                  rw [h2] at h3; cases h3
                · rw [Array.getD_eq_getD_getElem?, hold _ hk, ← Array.getD_eq_getD_getElem?]; exact h2
              · omega
        | succ m ihm =>
          intro j hjm hj hl
          have hb := List.all_eq_true.1 hback j hj
          cases ho : ops[j]? with
          | none => rw [ho] at hb; simp at hb
          | some o =>
            rw [ho] at hb
            simp only [Option.map_some, Option.getD_some] at hb
            by_cases hx : ∃ e ∈ o.after, Region.binds md e = true ∧ listed.getD e.on false = false
            · obtain ⟨e, he, hbind, hel⟩ := hx
              have h2 := (Array.all_eq_true_iff_forall_mem.1 hb) e he
              simp only [hbind, Bool.not_true, Bool.false_or, Bool.or_eq_true, Bool.and_eq_true, decide_eq_true_eq, List.contains_iff_mem] at h2
              rcases h2 with h2 | ⟨hk, h2⟩
              · by_cases hk : e.on ∈ ks
                · have h3 := (new _ hk).1
                  rw [Array.getD_eq_getD_getElem?] at h2 h3
                  rw [Array.getElem?_eq_getElem (new _ hk).2] at h2 h3
                  simp only [Option.getD_some] at h2 h3
                  rw [h2] at h3; cases h3
                · rw [Array.getD_eq_getD_getElem?, hold _ hk, ← Array.getD_eq_getD_getElem?, h2] at hel; cases hel
              · exact ihm e.on (by omega) hk hel
            · refine ⟨j, mem_ready.2 ⟨?_, o, ho, fun e he hbind => ?_⟩⟩
              · rw [Array.getD_eq_getD_getElem?] at hl ⊢
                rw [Array.getElem?_eq_getElem (inSize j hj)] at hl ⊢
                exact hl
              · cases hel : listed.getD e.on false
                · exact absurd ⟨e, he, hbind, hel⟩ hx
                · rfl
      have hex : ∃ j ∈ ks, listed.getD j false = false := by
        cases hfl : ks.filter fun j => !listed.getD j false with
        | nil => rw [hfl] at hn; cases hn
        | cons j r =>
          have h1 : j ∈ ks.filter fun j => !listed.getD j false := by rw [hfl]; simp
          rw [List.mem_filter] at h1
          exact ⟨j, h1.1, by simpa using h1.2⟩
      refine ⟨fun h0 => ?_, fun i hi => ?_⟩
      · obtain ⟨j, hj, hl⟩ := hex
        obtain ⟨i, hi⟩ := some_ready j j (Nat.le_refl _) hj hl
        rw [h0] at hi; cases hi
      · obtain ⟨hil, o, ho, hpre⟩ := mem_ready.1 hi
        have hilt : i < listed.size := by
          rcases Nat.lt_or_ge i listed.size with h | h
          · exact h
          · rw [Array.getD_eq_getD_getElem?, Array.getElem?_eq_none h] at hil; cases hil
        have pre : ∀ j, flowNeeds md ops i j = true → listed.getD j false = true := fun j h => by
          unfold flowNeeds at h
          rw [ho] at h
          simp only [Option.map_some, Option.getD_some] at h
          obtain ⟨e, he, h2⟩ := (Array.any_eq_true' ).1 h
          simp only [Bool.and_eq_true, beq_iff_eq] at h2
          rw [← h2.2]
          exact hpre e he h2.1
        by_cases hik : i ∈ ks
        · obtain ⟨o', ho', hgd, hK⟩ := hstep i hik a w hf hs fun j hj h => hg j hj (pre j h)
          rw [ho] at ho'
          cases ho'
          unfold wpOp
          simp only [ho]
          rw [if_pos (by simp [Region.wanted, hgd])]
          refine .inl (hK _ fun v w' hb hs' hgi hR => ⟨hs', ?_⟩)
          have hdl : dst i < a.tmps.size := by rw [hf.size]; exact hdst i hik
          have lst : ∀ k, (listed.setIfInBounds i true).getD k false = if k = i then true else listed.getD k false := fun k => by
            rw [Array.getD_eq_getD_getElem?]
            by_cases e : k = i
            · subst e
              rw [Array.getElem?_setIfInBounds_self, if_pos hilt, if_pos rfl]; rfl
            · rw [Array.getElem?_setIfInBounds_ne (Ne.symm e), if_neg e, ← Array.getD_eq_getD_getElem?]
          have ilf : listed.getD i false = false := by
            rw [Array.getD_eq_getD_getElem?] at hil ⊢
            rw [Array.getElem?_eq_getElem hilt] at hil ⊢
            exact hil
          have oldv : ∀ j ∈ ks, j ≠ i → (a.put (some (dst i)) v).tmps.getD (dst j) undef = a.tmps.getD (dst j) undef := fun j hj hne => put_getD (hinj i hik j hj (Ne.symm hne))
          refine ih _ _ _ ?_ (by simpa using hsz) (fun k hk => ?_) ⟨hf.defers, ?_, fun k hk => ?_, ?_⟩ hs' (fun j hj hl => ?_) (fun j hj j' hj' hne hl hl' => ?_) fun m hm hml j hj => ?_
          · have h1 : (ks.filter fun j => !(listed.setIfInBounds i true).getD j false) = (ks.filter fun j => !listed.getD j false).filter (fun j => j != i) := by
              rw [List.filter_filter]
              refine List.filter_congr fun j _ => ?_
              rw [lst]
              by_cases e : j = i <;> simp [e]
            rw [h1, ← List.Nodup.erase_eq_filter (hnd.filter _), List.length_erase_of_mem (List.mem_filter.2 ⟨hik, by simp [ilf]⟩), hn]
            rfl
          · rw [Array.getElem?_setIfInBounds_ne (by rintro rfl; exact hk hik)]; exact hold k hk
          · show (a.tmps.setIfInBounds _ _).size = _
            simpa using hf.size
          · show (a.tmps.setIfInBounds (dst i) v)[k]? = _
            rw [Array.getElem?_setIfInBounds_ne (hk i hik)]
            exact hf.old k hk
          · exact ⟨hb.os.trans hf.below.os, hb.tape.trans hf.below.tape, hb.output.trans hf.below.output, Nat.le_trans hf.below.size hb.size, fun k hk => (hb.block k (by have := hf.below.size; omega)).trans (hf.below.block k hk)⟩
          · by_cases e : j = i
            · subst e; rw [put_getD_same hdl]; exact hgi
            · rw [oldv j hj e]
              rw [lst, if_neg e] at hl
              exact hmono j _ _ _ hb (hg j hj hl)
          · by_cases e : j = i
            · have hne' : j' ≠ i := fun h => hne (e.trans h.symm)
              rw [lst, if_neg hne'] at hl'
              rw [e, put_getD_same hdl, oldv j' hj' hne']
              exact (hR j' hj' hne' (hg j' hj' hl')).1
            · by_cases e' : j' = i
              · rw [lst, if_neg e] at hl
                rw [e', put_getD_same hdl, oldv j hj e]
                exact (hR j hj e (hg j hj hl)).2
              · rw [oldv j hj e, oldv j' hj' e']
                rw [lst, if_neg e] at hl
                rw [lst, if_neg e'] at hl'
                exact hr j hj j' hj' hne hl hl'
          · rw [lst]
            split
            · rfl
            · by_cases e : m = i
              · subst e; exact pre j hj
              · rw [lst, if_neg e] at hml
                exact hdown m hm hml j hj
        · exfalso
          obtain ⟨j, hj, hl⟩ := hex
          have hio : i < ops.size := (Array.getElem?_eq_some_iff.1 ho).1
          have h1 := List.all_eq_true.1 hlate i (List.mem_range.2 hio)
          have h2 : L0.getD i true = false := by rw [Array.getD_eq_getD_getElem?, ← hold i hik, ← Array.getD_eq_getD_getElem?]; exact hil
          rw [h2] at h1
          simp only [Bool.false_or, Bool.or_eq_true, List.contains_iff_mem] at h1
          rcases h1 with h1 | h1
          case inr =>
            obtain ⟨m, _, h4⟩ := List.any_eq_true.1 h1
            simp only [Bool.and_eq_true, Bool.not_eq_true', List.contains_eq_mem, decide_eq_false_iff_not] at h4
            have h5 := pre m h4.1.1
            rw [Array.getD_eq_getD_getElem?, hold m h4.2, ← Array.getD_eq_getD_getElem?, h4.1.2] at h5
            cases h5
          have h3 := flow_reach hdown _ i j pre (List.all_eq_true.1 (h1.resolve_left hik) j hj)
          rw [hl] at h3; cases h3
  have h0 : ∀ j ∈ ks, L0.getD j false = false := fun j hj => by
    have := (new j hj).1
    rw [Array.getD_eq_getD_getElem?] at this ⊢
    rw [Array.getElem?_eq_getElem (new j hj).2] at this ⊢
    exact this
  refine key _ L0 a0 w0 ?_ rfl (fun _ _ => rfl) ⟨rfl, rfl, fun _ _ => rfl, Below.refl _ _⟩ hS0 (fun j hj hl => ?_) (fun i hi j hj hne hl hl' => ?_) fun m hm hl => ?_
  · rw [List.filter_eq_self.2 fun j hj => by simp [h0 j hj]]
  · rw [h0 j hj] at hl; cases hl
  · rw [h0 i hi] at hl; cases hl
  · rw [h0 m hm] at hl; cases hl
end

end Go.Proofs.YtfbbjfbnkcklgaaGreatDoor
