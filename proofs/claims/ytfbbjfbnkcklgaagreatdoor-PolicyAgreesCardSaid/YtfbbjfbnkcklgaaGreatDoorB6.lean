/- rows beside other blocks; append onto a row within a round -/
import Derived.Test.YtfbbjfbnkcklgaaGreatDoorB4
import Derived.OwnWalkIn
import Derived.Maps.OwnIn
import Derived.TacticsInMore
namespace Go.Proofs.YtfbbjfbnkcklgaaGreatDoor
open Go.RowKit

theorem Row.neObj {w : World} {e : TypeId} {sz g : Nat} {v : Value} {xs : List Value} {o : Obj} (h : Row w e sz v xs) (hg : w.heap[g]? = some o) (hne : ∀ cs, o ≠ .cells cs e (0, 0)) : v.ownBlock ≠ some g := by
  obtain ⟨A, n, c, rfl, hl, hn, hc, h⟩ := h
  intro hk
  rcases h with ⟨rfl, rfl⟩ | ⟨b, off, cs', rfl, hb, hs, ht⟩
  · simp [Value.ownBlock] at hk
  · simp only [Value.ownBlock, Option.some.injEq] at hk; subst hk
    rw [hb] at hg; cases hg; exact hne _ rfl
theorem Row.neBlk {w : World} {e t : TypeId} {sz g : Nat} {v : Value} {xs : List Value} {cs : Array Value} (h : Row w e sz v xs) (hg : w.heap[g]? = some (.cells cs t (0, 0))) (hne : e ≠ t) : v.ownBlock ≠ some g :=
  h.neObj hg fun cs' h' => by cases h'; exact hne rfl
theorem Row.neRow {w : World} {e t : TypeId} {sz sz' k : Nat} {v v' : Value} {xs xs' : List Value} (h : Row w e sz v xs) (h' : Row w t sz' v' xs') (hne : e ≠ t) (hk : v.ownBlock = some k) : v'.ownBlock ≠ some k := by
  obtain ⟨A, n, c, rfl, hl, hn, hc, h'⟩ := h'
  intro hk'
  rcases h' with ⟨rfl, rfl⟩ | ⟨b, off, cs', rfl, hb, hs, ht⟩
  · simp [Value.ownBlock] at hk'
  · simp only [Value.ownBlock, Option.some.injEq] at hk'; subst hk'
    exact h.neBlk hb hne hk
theorem Row.count {w : World} {e : TypeId} {sz n c : Nat} {A : Option Addr} {xs : List Value} (h : Row w e sz (.slice A n c) xs) : xs.length = n * sz := by
  obtain ⟨_, _, _, hv, hl, _⟩ := h
  cases hv
  exact hl

theorem wpListIn_append_row {F : Fence} {nF : Nat} {P : Program} (w : World) {ops : Array Oper} {rest : List Oper} {o : Oper} {a : Act} {Q : Exit → Act → World → Prop} (hgd : o.guard = none) (s x : Operand) (t : TypeId)
    (ho : o.op = .call { callee := .builtin .append, args := #[s, x], argTypes := #[t, t] })
    (e : TypeId) (i : TypeInfo) (z : Value) (sz bytes : Nat) (ht : P.underlying t = some (.slice e)) (hi : P.info? e = some i) (hz : i.zero = some z)
    (hsize : i.size = sz) (hby : i.bytes = bytes) (hzs : z.cells.size = sz) (hsz : 0 < sz)
    (v : Value) (xs : List Value) (hs : a.eval s = v) (hown : Row w e sz v xs) (xv : Value) (news : List Value) (hxv : a.eval x = xv) (hx : Src w sz xv news) (h1 : ∀ u ∈ news, u.oneCell' = true)
    (h63 : xs.length + news.length ≤ maxLen) (hbytes : (xs.length + news.length) * bytes ≤ 140737488355328)
    (h : ∀ A' n' c' w', Row w' e sz (.slice A' n' c') (xs ++ news) → w.grownBy w' v.ownBlock → ((Value.slice A' n' c').ownBlock = v.ownBlock ∨ (Value.slice A' n' c').ownBlock = some w.heap.size) → wpListIn F nF P ops Q rest (a.put o.dst (.slice A' n' c')) w') :
    wpListIn F nF P ops Q (o :: rest) a w := by
  refine wpListIn_plain hgd fun K hK => ?_
  obtain ⟨A', n', c', w', hr, h2, h3, h4⟩ := run_append_row (P := P) w t o.type e i z sz bytes ht hi hz hsize hby hzs hsz v xs hown xv news hx h1 h63 hbytes
  unfold Oper.wpIn
  refine ⟨by simp [Oper.about, ho, resolve, Target.leads, Sem.run_pure], ?_⟩
  rw [Oper.semAt_plain F _ _ (by rw [ho]; intro c hc'; cases hc')]
  simp [execOp, ho, resolve, invoke, builtin, hs, hxv, hr, Result.andThen]
  exact hK _ _ (h A' n' c' w' h2 h3 h4)

end Go.Proofs.YtfbbjfbnkcklgaaGreatDoor
