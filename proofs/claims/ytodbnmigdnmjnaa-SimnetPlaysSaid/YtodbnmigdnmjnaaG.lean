/- what a net holds, as lists of messages; what laying one behind the others, and taking the first, makes of it -/
import Derived.Test.YtodbnmigdnmjnaaF
namespace Go.Proofs.Ytodbnmigdnmjnaa
open Go.RowKit

def upd {α : Type} (f : Bool → α) (t : Bool) (x : α) : Bool → α := fun e => if e = t then x else f e
theorem upd_same {α : Type} (f : Bool → α) (t : Bool) (x : α) : upd f t x t = x := by simp [upd]
theorem upd_other {α : Type} (f : Bool → α) (t e : Bool) (x : α) (h : e ≠ t) : upd f t x e = f e := by simp [upd, h]

/-- rows of other types lie in other blocks -/
theorem Row.ne {w : World} {e t : TypeId} {sz g : Nat} {v : Value} {xs : List Value} {cs : Array Value} (h : Row w e sz v xs) (hg : w.heap[g]? = some (.cells cs t (0, 0))) (hne : e ≠ t) : v.ownBlock ≠ some g := by
  obtain ⟨A, n, c, rfl, hl, hn, hc, h⟩ := h
  intro hk
  rcases h with ⟨rfl, rfl⟩ | ⟨b, off, cs', rfl, hb, hs, ht⟩
  · simp [Value.ownBlock] at hk
  · simp only [Value.ownBlock, Option.some.injEq] at hk; subst hk
    rw [hb] at hg; cases hg; exact hne rfl
theorem Row.neRow {w : World} {e t : TypeId} {sz sz' k : Nat} {v v' : Value} {xs xs' : List Value} (h : Row w e sz v xs) (h' : Row w t sz' v' xs') (hne : e ≠ t) (hk : v.ownBlock = some k) : v'.ownBlock ≠ some k := by
  obtain ⟨A, n, c, rfl, hl, hn, hc, h'⟩ := h'
  intro hk'
  rcases h' with ⟨rfl, rfl⟩ | ⟨b, off, cs', rfl, hb, hs, ht⟩
  · simp [Value.ownBlock] at hk'
  · simp only [Value.ownBlock, Option.some.injEq] at hk'; subst hk'
    exact h.ne hb hne hk

structure Core (w : World) (R : Nat → Prop) (q : Bool → Value) (vs : Bool → List Value) (ms : Bool → List (List Int)) : Prop where
  row : ∀ e, Row w 28 1 (q e) (vs e)
  qR : ∀ e k, (q e).ownBlock = some k → ¬ R k
  qq : ∀ k, (q false).ownBlock = some k → (q true).ownBlock ≠ some k
  len : ∀ e, (vs e).length = (ms e).length
  msg : ∀ (e : Bool) (i : Nat) (v : Value) (m : List Int), (vs e)[i]? = some v → (ms e)[i]? = some m → Row w 5 1 v (nums m)
  mR : ∀ (e : Bool) (i : Nat) (v : Value) (k : Nat), (vs e)[i]? = some v → v.ownBlock = some k → ¬ R k
  mm : ∀ (e : Bool) (i : Nat) (v : Value) (e' : Bool) (i' : Nat) (v' : Value) (k : Nat), (vs e)[i]? = some v → (vs e')[i']? = some v' → v.ownBlock = some k → v'.ownBlock = some k → e = e' ∧ i = i'

theorem Core.some_msg {w : World} {R : Nat → Prop} {q : Bool → Value} {vs : Bool → List Value} {ms : Bool → List (List Int)} (h : Core w R q vs ms) {e : Bool} {i : Nat} {v : Value} (hv : (vs e)[i]? = some v) : ∃ m, (ms e)[i]? = some m ∧ Row w 5 1 v (nums m) := by
  have hi : i < (vs e).length := (List.getElem?_eq_some_iff.1 hv).1
  have hm : i < (ms e).length := by rw [← h.len]; exact hi
  exact ⟨(ms e)[i], by simp [hm], h.msg e i v _ hv (by simp [hm])⟩

theorem Core.keep {w w' : World} {R : Nat → Prop} {q : Bool → Value} {vs : Bool → List Value} {ms : Bool → List (List Int)} (h : Core w R q vs ms)
    (hk : ∀ k, k < w.heap.size → ¬ R k → (∃ cs, w.heap[k]? = some (.cells cs 28 (0, 0)) ∨ w.heap[k]? = some (.cells cs 5 (0, 0))) → w'.heap[k]? = w.heap[k]?) : Core w' R q vs ms := by
  have key : ∀ {e : TypeId} {sz : Nat} {v : Value} {xs : List Value}, Row w e sz v xs → (e = 28 ∨ e = 5) → (∀ k, v.ownBlock = some k → ¬ R k) → Row w' e sz v xs := by
    intro e sz v xs hr he hR
    refine hr.keep fun k hb => hk k (hr.lt k hb) (hR k hb) ?_
    obtain ⟨A, n, c, rfl, hl, hn, hc, hh⟩ := hr
    rcases hh with ⟨rfl, rfl⟩ | ⟨b, off, cs', rfl, hb', hs, ht⟩
    · simp [Value.ownBlock] at hb
    · simp only [Value.ownBlock, Option.some.injEq] at hb; subst hb
      rcases he with rfl | rfl
      · exact ⟨cs', .inl hb'⟩
      · exact ⟨cs', .inr hb'⟩
  exact ⟨fun e => key (h.row e) (.inl rfl) (h.qR e), h.qR, h.qq, h.len, fun e i v m hv hm => key (h.msg e i v m hv hm) (.inr rfl) (fun k hk => h.mR e i v k hv hk), h.mR, h.mm⟩

/-- a store into a block of another type -/
theorem Core.set {w : World} {R : Nat → Prop} {q : Bool → Value} {vs : Bool → List Value} {ms : Bool → List (List Int)} (h : Core w R q vs ms) {g t : Nat} {cs : Array Value} (hg : w.heap[g]? = some (.cells cs t (0, 0))) (ht1 : t ≠ 28) (ht2 : t ≠ 5) (i : Nat) (u : Value) :
    Core (w.setCell ⟨g, i, none⟩ u) R q vs ms := by
  refine h.keep fun k _ _ hk => Below.heap_setCell _ _ _ _ ?_
  rintro rfl
  obtain ⟨cs', hk | hk⟩ := hk
  · rw [hg] at hk; cases hk; exact ht1 rfl
  · rw [hg] at hk; cases hk; exact ht2 rfl

/-- a message is laid behind the others -/
theorem Core.push {w w2 : World} {R : Nat → Prop} {q : Bool → Value} {vs : Bool → List Value} {ms : Bool → List (List Int)} (h : Core w R q vs ms) (hRlt : ∀ k, R k → k < w.heap.size) (t : Bool) {v q' : Value} {bs : List Int}
    (hv : Row w2 5 1 v (nums bs)) (hq' : Row w2 28 1 q' (vs t ++ [v])) (hg : w.grownBy w2 (q t).ownBlock) (hf : ∀ k, v.ownBlock = some k → w.heap.size ≤ k)
    (hat : q'.ownBlock = (q t).ownBlock ∨ ∃ k, q'.ownBlock = some k ∧ w.heap.size ≤ k) : Core w2 R (upd q t q') (upd vs t (vs t ++ [v])) (upd ms t (ms t ++ [bs])) := by
  have hold : ∀ (e : Bool) (i : Nat) (x : Value), (vs e)[i]? = some x → ∀ k, x.ownBlock = some k → k < w.heap.size := fun e i x hx k hk => by
    obtain ⟨m, _, hr⟩ := h.some_msg hx
    exact hr.lt k hk
  have hoth : ∀ e, e ≠ t → Row w2 28 1 (q e) (vs e) := fun e he => (h.row e).keep fun k hk => hg.block k ((h.row e).lt k hk) (fun e' => by
    cases e <;> cases t <;> first | exact he rfl | exact h.qq k hk e'.symm | exact h.qq k e'.symm hk)
  have hmsg : ∀ (e : Bool) (i : Nat) (x : Value) (m : List Int), (vs e)[i]? = some x → (ms e)[i]? = some m → Row w2 5 1 x (nums m) := fun e i x m hx hm => by
    have hr := h.msg e i x m hx hm
    exact hr.keep fun k hk => hg.block k (hr.lt k hk) (fun e' => hr.neRow (h.row t) (by decide) hk e'.symm)
  have hsplit : ∀ (e : Bool) (i : Nat) (x : Value), (upd vs t (vs t ++ [v]) e)[i]? = some x → (vs e)[i]? = some x ∨ (e = t ∧ i = (vs t).length ∧ x = v) := by
    intro e i x hx
    by_cases he : e = t
    · subst he
      rw [upd_same] at hx
      rcases Nat.lt_or_ge i (vs e).length with hi | hi
      · rw [List.getElem?_append_left hi] at hx; exact .inl hx
      · rw [List.getElem?_append_right hi] at hx
        have : i - (vs e).length = 0 := by
          rcases Nat.eq_zero_or_pos (i - (vs e).length) with h0 | h0
          · exact h0
          · rw [List.getElem?_eq_none (by simp; omega)] at hx; cases hx
        rw [this] at hx
        simp at hx
        exact .inr ⟨rfl, by omega, hx.symm⟩
    · rw [upd_other _ _ _ _ he] at hx; exact .inl hx
  refine ⟨fun e => ?_, fun e k hk => ?_, fun k hk hk' => ?_, fun e => ?_, fun e i x m hx hm => ?_, fun e i x k hx hk => ?_, fun e i x e' i' x' k hx hx' hk hk' => ?_⟩
  · by_cases he : e = t
    · subst he; rw [upd_same, upd_same]; exact hq'
    · rw [upd_other _ _ _ _ he, upd_other _ _ _ _ he]; exact hoth e he
  · by_cases he : e = t
    · subst he; rw [upd_same] at hk
      rcases hat with ha | ⟨k', ha, hl⟩
      · exact h.qR e k (ha ▸ hk)
      · rw [ha] at hk; cases hk
        intro hR; have := hRlt _ hR; omega
    · rw [upd_other _ _ _ _ he] at hk; exact h.qR e k hk
  · have hlt : ∀ e, (q e).ownBlock = some k → k < w.heap.size := fun e he => (h.row e).lt k he
    cases t
    · simp only [upd_same] at hk
      rw [upd_other _ _ _ _ (by decide)] at hk'
      rcases hat with ha | ⟨k', ha, hl⟩
      · exact h.qq k (ha ▸ hk) hk'
      · rw [ha] at hk; cases hk; have := hlt true hk'; omega
    · simp only [upd_same] at hk'
      rw [upd_other _ _ _ _ (by decide)] at hk
      rcases hat with ha | ⟨k', ha, hl⟩
      · exact h.qq k hk (ha ▸ hk')
      · rw [ha] at hk'; cases hk'; have := hlt false hk; omega
  · by_cases he : e = t
    · subst he; rw [upd_same, upd_same]; simp [h.len e]
    · rw [upd_other _ _ _ _ he, upd_other _ _ _ _ he]; exact h.len e
  · rcases hsplit e i x hx with h1 | ⟨rfl, rfl, rfl⟩
    · have hi : i < (ms e).length := by rw [← h.len e]; exact (List.getElem?_eq_some_iff.1 h1).1
      refine hmsg e i x m h1 ?_
      by_cases he : e = t
      · subst he; rw [upd_same, List.getElem?_append_left hi] at hm; exact hm
      · rw [upd_other _ _ _ _ he] at hm; exact hm
    · rw [upd_same, h.len, List.getElem?_append_right (Nat.le_refl _)] at hm
      simp at hm; subst hm; exact hv
  · rcases hsplit e i x hx with h1 | ⟨rfl, rfl, rfl⟩
    · exact h.mR e i x k h1 hk
    · intro hR; have := hRlt _ hR; have := hf k hk; omega
  · rcases hsplit e i x hx with h1 | ⟨rfl, rfl, rfl⟩ <;> rcases hsplit e' i' x' hx' with h2 | ⟨rfl, rfl, rfl⟩
    · exact h.mm e i x e' i' x' k h1 h2 hk hk'
    · have := hold e i x h1 k hk; have := hf k hk'; omega
    · have := hold e' i' x' h2 k hk'; have := hf k hk; omega
    · exact ⟨rfl, rfl⟩

/-- the first is taken -/
theorem Core.pop {w : World} {R : Nat → Prop} {q : Bool → Value} {vs : Bool → List Value} {ms : Bool → List (List Int)} (h : Core w R q vs ms) (t : Bool) {q' : Value} (hq' : Row w 28 1 q' (vs t).tail) (hat : q'.ownBlock = (q t).ownBlock) :
    Core w R (upd q t q') (upd vs t (vs t).tail) (upd ms t (ms t).tail) := by
  have hget : ∀ {α : Type} (f : Bool → List α) (e : Bool) (i : Nat) (x : α), (upd f t (f t).tail e)[i]? = some x → (f e)[if e = t then i + 1 else i]? = some x := by
    intro α f e i x hx
    by_cases he : e = t
    · subst he; rw [upd_same] at hx; simp [List.getElem?_tail] at hx; simpa using hx
    · rw [upd_other _ _ _ _ he] at hx; simpa [he] using hx
  refine ⟨fun e => ?_, fun e k hk => ?_, fun k hk hk' => ?_, fun e => ?_, fun e i x m hx hm => h.msg e _ x m (hget vs e i x hx) (hget ms e i m hm), fun e i x k hx hk => h.mR e _ x k (hget vs e i x hx) hk, fun e i x e' i' x' k hx hx' hk hk' => ?_⟩
  · by_cases he : e = t
    · subst he; rw [upd_same, upd_same]; exact hq'
    · rw [upd_other _ _ _ _ he, upd_other _ _ _ _ he]; exact h.row e
  · by_cases he : e = t
    · subst he; rw [upd_same] at hk; exact h.qR e k (hat ▸ hk)
    · rw [upd_other _ _ _ _ he] at hk; exact h.qR e k hk
  · cases t
    · simp only [upd_same] at hk; rw [upd_other _ _ _ _ (by decide)] at hk'; exact h.qq k (hat ▸ hk) hk'
    · simp only [upd_same] at hk'; rw [upd_other _ _ _ _ (by decide)] at hk; exact h.qq k hk (hat ▸ hk')
  · by_cases he : e = t
    · subst he; rw [upd_same, upd_same]; simp [h.len e]
    · rw [upd_other _ _ _ _ he, upd_other _ _ _ _ he]; exact h.len e
  · obtain ⟨he, hi⟩ := h.mm e _ x e' _ x' k (hget vs e i x hx) (hget vs e' i' x' hx') hk hk'
    subst he
    refine ⟨rfl, ?_⟩
    by_cases he : e = t
    · simpa [he] using hi
    · simpa [he] using hi

/-- the value behind q[1:] -/
theorem Row.tailOf {w : World} {b off n c : Nat} {e : TypeId} {xs : List Value} (h : Row w e 1 (.slice (some ⟨b, off, none⟩) n c) xs) (hn : 1 ≤ n) : Row w e 1 (tailOf ⟨b, off, none⟩ n c) xs.tail ∧ (tailOf ⟨b, off, none⟩ n c).ownBlock = some b := by
  obtain ⟨A, n', c', hv, hl, hnc, hc, h⟩ := h
  cases hv
  rcases h with ⟨hh, _⟩ | ⟨b', off', cs, hh, hb, hs, ht⟩
  · cases hh
  · cases hh
    constructor
    · refine ⟨_, n - 1, c - 1, rfl, by simp [hl], by omega, by omega, .inr ?_⟩
      by_cases h1 : c = 1
      · subst h1
        obtain rfl : n = 1 := by omega
        refine ⟨b, off, cs, by simp, hb, by omega, ?_⟩
        have : xs.length = 1 := by omega
        match xs, this with
        | [x], _ => simp
      · refine ⟨b, off + 1, cs, by simp [h1, add_lit'], hb, by omega, ?_⟩
        rw [← ht, ← List.drop_one, Nat.mul_one, Nat.mul_one, List.drop_take, List.drop_drop]
    · unfold Go.Proofs.Ytodbnmigdnmjnaa.tailOf
      by_cases h1 : c = 1
      · simp [h1, Value.ownBlock]
      · simp [h1, Value.ownBlock, add_lit']

end Go.Proofs.Ytodbnmigdnmjnaa
