/- A region that draws its order, its reading operations taken first: two conditions on the world: T is owed behind every operation, S as long as none of M (the stores) has come up. -/
import Derived.Test.YtodbnmigdnmjnaaB
import Derived.Deep.RegionHeld3
namespace Go.Proofs.Ytodbnmigdnmjnaa
open Go.RowKit

section
variable {P : Program} {ops : Array Oper} {Q : Exit → Act → World → Prop} {md : Region.Mode} {T S : World → Prop} {M : List Nat}

/-- none of M has come up -/
def noM (M : List Nat) (listed : Array Bool) : Bool := M.all fun m => !(listed.getD m false)

theorem noM_other {M : List Nat} {listed : Array Bool} {i : Nat} (hi : M.contains i = false) : noM M (listed.setIfInBounds i true) = noM M listed := by
  unfold noM
  rw [Bool.eq_iff_iff, List.all_eq_true, List.all_eq_true]
  have hne : ∀ m ∈ M, i ≠ m := fun m hm e => by subst e; simp [hm] at hi
  constructor
  · intro h m hm; have := h m hm; rwa [getD_set_ne false (hne m hm)] at this
  · intro h m hm; rw [getD_set_ne false (hne m hm)]; exact h m hm

theorem noM_absurd {M : List Nat} {listed : Array Bool} {p : Prop} (hf : noM M listed = false) : noM M listed = true → p := fun h => by rw [hf] at h; cases h

/-- Whatever order is picked from here on; T holds behind every operation, S till one of M has come up. -/
def anyF (P : Program) (md : Region.Mode) (ops : Array Oper) (Q : Exit → Act → World → Prop) (T S : World → Prop) (M : List Nat) : Nat → Array Bool → Act → World → Prop
  | 0, listed, a, w => Region.ready md ops listed = [] ∧ Q .normal a w
  | fuel + 1, listed, a, w =>
    (Region.ready md ops listed = [] → Q .normal a w) ∧
    ∀ i ∈ Region.ready md ops listed, wpOp P ops Q i (fun a' w' => (T w' ∧ (noM M (listed.setIfInBounds i true) = true → S w')) ∧ anyF P md ops Q T S M fuel (listed.setIfInBounds i true) a' w') a w

theorem anyF_any : ∀ (fuel : Nat) (listed : Array Bool) (a : Act) (w : World), anyF P md ops Q T S M fuel listed a w → wpAny P md ops Q fuel listed a w
  | 0, _, _, _, h => h
  | fuel + 1, _, _, _, h => ⟨h.1, fun i hi => wpOp_mono (fun a' w' h' => anyF_any fuel _ a' w' h'.2) (h.2 i hi)⟩

/-- all of M wait for i -/
def waitFor (md : Region.Mode) (ops : Array Oper) (M : List Nat) (i : Nat) : Bool := M.all fun m => ((ops[m]?).map fun o => o.after.any fun e => Region.binds md e && e.on == i).getD false

theorem anyF_first {C : World → Prop} {N : Array Bool → Prop} {i : Nat} {oi : Oper} {v : Value} (hi : ops[i]? = some oi) (hiM : M.contains i = false)
    (hC : ∀ listed j oj w, N listed → ops[j]? = some oj → (∀ e ∈ oj.after, Region.binds md e = true → e.on ≠ i) → T w → (noM M (listed.setIfInBounds j true) = true → S w) → C w ∧ N (listed.setIfInBounds j true))
    (hsel : ∀ (j : Nat) (o : Oper) cs b, ops[j]? = some o → o.op ≠ .select cs b) (hQ : ∀ c a w, Q (.panic c) (a.put oi.dst v) w → Q (.panic c) a w) :
    ∀ (fuel : Nat) (listed : Array Bool) (a : Act) (w : World),
      (∀ j oj, ops[j]? = some oj → j ≠ i → listed.getD j true = false → (∀ e ∈ oj.after, Region.binds md e = true → e.on ≠ i) → oi.apart ops oj = true) →
      i ∈ Region.ready md ops listed → YieldsIf P ops C oi v a → N listed → C w → T w → (noM M listed = true → S w) →
      anyF P md ops Q T S M fuel (listed.setIfInBounds i true) (a.put oi.dst v) w → anyF P md ops Q T S M (fuel + 1) listed a w := by
  intro fuel
  induction fuel with
  | zero =>
    intro listed a w _ hr hy _ hCw hT hS H
    refine ⟨fun h => (by rw [h] at hr; cases hr), fun j hj => ?_⟩
    by_cases hji : j = i
    · subst hji; exact hy.wpOp hi hCw ⟨⟨hT, by rw [noM_other hiM]; exact hS⟩, H⟩
    · have := ready_mono hj hji
      rw [H.1] at this
      cases this
  | succ fuel ih =>
    intro listed a w hfree hr hy hN hCw hT hS H
    refine ⟨fun h => (by rw [h] at hr; cases hr), fun j hj => ?_⟩
    by_cases hji : j = i
    · subst hji; exact hy.wpOp hi hCw ⟨⟨hT, by rw [noM_other hiM]; exact hS⟩, H⟩
    · obtain ⟨hjun, oj, hoj, hall⟩ := mem_ready.1 hj
      have hnot : ∀ e ∈ oj.after, Region.binds md e = true → e.on ≠ i := fun e he hb heq => by
        have h1 := hall e he hb
        have h0 := (mem_ready.1 hr).1
        rw [heq] at h1
        rcases Nat.lt_or_ge i listed.size with h' | h'
        · simp [h'] at h0 h1; rw [h0] at h1; cases h1
        · simp [Array.getElem?_eq_none h'] at h1
      have h2 := wpOp_putIf hoj (hfree j oj hoj hji hjun hnot) (fun cs b => hsel i oi cs b hi) (fun cs b => hsel j oj cs b hoj) hQ hy (H.2 j (ready_mono hj hji))
      have hri := ready_mono hr (Ne.symm hji)
      have hfree' : ∀ k ok, ops[k]? = some ok → k ≠ i → (listed.setIfInBounds j true).getD k true = false → (∀ e ∈ ok.after, Region.binds md e = true → e.on ≠ i) → oi.apart ops ok = true := fun k ok hk hki hun hno => by
        refine hfree k ok hk hki ?_ hno
        by_cases hjk : j = k
        · subst hjk; exact hjun
        · rw [getD_set_ne true hjk] at hun; exact hun
      refine wpOp_mono (fun a' w' h3 => ?_) h2
      have hcomm := Array.setIfInBounds_comm (xs := listed) true true hji
      have hS' : noM M (listed.setIfInBounds j true) = true → S w' := fun hm => h3.2.1.2 (by rw [← hcomm, noM_other hiM]; exact hm)
      obtain ⟨hc', hn'⟩ := hC listed j oj w' hN hoj hnot h3.2.1.1 hS'
      refine ⟨⟨h3.2.1.1, hS'⟩, ih (listed.setIfInBounds j true) a' w' hfree' hri h3.1 hn' hc' h3.2.1.1 hS' ?_⟩
      rw [hcomm]
      exact h3.2.2

/-- taken first by S: none of M can come up ahead of it -/
theorem anyF_take {i : Nat} {oi : Oper} {v : Value} {fuel : Nat} {listed : Array Bool} {a : Act} {w : World} (hi : ops[i]? = some oi) (hiM : M.contains i = false) (hM : waitFor md ops M i = true) (hN : noM M listed = true)
    (hs : Region.noSelect ops = true) (hf : Region.free md ops listed i = true) (hr : (Region.ready md ops listed).contains i = true)
    (hQ : ∀ c a w, Q (.panic c) (a.put oi.dst v) w → Q (.panic c) a w) (hy : YieldsIf P ops S oi v a) (hT : T w) (hS : S w)
    (h : anyF P md ops Q T S M fuel (listed.setIfInBounds i true) (a.put oi.dst v) w) : anyF P md ops Q T S M (fuel + 1) listed a w := by
  refine anyF_first (C := S) (N := fun l => noM M l = true) hi hiM (fun l j oj w' hl hoj hnot _ hsw => ?_) (Region.noSelect_spec hs) hQ fuel listed a w (Region.free_spec hi hf) (by simpa using hr) hy hN hS hT (fun _ => hS) h
  have hjM : M.contains j = false := by
    cases hc : M.contains j with
    | false => rfl
    | true =>
      have hj' : j ∈ M := by simpa using hc
      have h1 := List.all_eq_true.1 hM j hj'
      rw [hoj] at h1
      obtain ⟨e, he, hb⟩ := Array.any_eq_true'.1 (by simpa using h1 : (oj.after.any fun e => Region.binds md e && e.on == i) = true)
      simp only [Bool.and_eq_true, beq_iff_eq] at hb
      exact absurd hb.2 (hnot e he hb.1)
  have hl' : noM M (l.setIfInBounds j true) = true := by rw [noM_other hjM]; exact hl
  exact ⟨hsw hl', hl'⟩

/-- taken first by T -/
theorem anyF_takeT {i : Nat} {oi : Oper} {v : Value} {fuel : Nat} {listed : Array Bool} {a : Act} {w : World} (hi : ops[i]? = some oi) (hiM : M.contains i = false)
    (hs : Region.noSelect ops = true) (hf : Region.free md ops listed i = true) (hr : (Region.ready md ops listed).contains i = true)
    (hQ : ∀ c a w, Q (.panic c) (a.put oi.dst v) w → Q (.panic c) a w) (hy : YieldsIf P ops T oi v a) (hT : T w) (hS : noM M listed = true → S w)
    (h : anyF P md ops Q T S M fuel (listed.setIfInBounds i true) (a.put oi.dst v) w) : anyF P md ops Q T S M (fuel + 1) listed a w :=
  anyF_first (C := T) (N := fun _ => True) hi hiM (fun _ _ _ _ _ _ _ ht _ => ⟨ht, trivial⟩) (Region.noSelect_spec hs) hQ fuel listed a w (Region.free_spec hi hf) (by simpa using hr) hy trivial hT hT hS h

/-- one operation alone may come up, and it is one of M -/
theorem anyF_last {i : Nat} {oi : Oper} {fuel : Nat} {listed : Array Bool} {a : Act} {w : World} (hi : ops[i]? = some oi) (hr : Region.ready md ops listed = [i]) (hM : noM M (listed.setIfInBounds i true) = false)
    (h : ∀ K : Act → World → Prop, (∀ a w, T w → anyF P md ops Q T S M fuel (listed.setIfInBounds i true) a w → K a w) → if Region.wanted oi (yielded ops a.tmps) = true then Oper.wp P oi a w K Q else K (a.put oi.dst undef) w) : anyF P md ops Q T S M (fuel + 1) listed a w := by
  refine ⟨fun h0 => (by rw [h0] at hr; cases hr), fun j hj => ?_⟩
  rw [hr, List.mem_singleton] at hj
  subst hj
  exact wpOp_step hi (fun K hK => h K (fun a w hT hW => hK a w ⟨⟨hT, fun hc => (by rw [hM] at hc; cases hc)⟩, hW⟩))

theorem anyF_done {listed : Array Bool} {a : Act} {w : World} (hr : Region.ready md ops listed = []) (h : Q .normal a w) : ∀ fuel, anyF P md ops Q T S M fuel listed a w
  | 0 => ⟨hr, h⟩
  | _ + 1 => ⟨fun _ => h, by rw [hr]; simp⟩

theorem wp_region_F {id : Nat} {a : Act} {w : World} (T S : World → Prop) (M : List Nat) (hm : P.follows .mixedOrders = true) (h : anyF P .any ops Q T S M ops.size (Array.replicate ops.size false) a w.drew) : (Code.region id ops true).wp P Q a w :=
  wp_region_any hm (anyF_any _ _ _ _ h)
end
end Go.Proofs.Ytodbnmigdnmjnaa
