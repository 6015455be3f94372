/- trees as lists: a rename to itself -/
import Derived.Test.YtfoedcmcdpekoaaDoorN2
namespace Go.Proofs.YtfoedcmcdpekoaaDoor
open Go.RowKit

theorem less_or {a b : List UInt8} (h : a ≠ b) : Op.bytesLess a b = true ∨ Op.bytesLess b a = true := by
  cases h1 : Op.bytesLess a b
  · cases h2 : Op.bytesLess b a
    · exact absurd (less_total h1 h2) h
    · exact .inr rfl
  · exact .inl rfl
theorem mem_putA {t : List AIt} {x y : AIt} : y ∈ putA t x ↔ y = x ∨ (y ∈ t ∧ y.p ≠ x.p) := by
  unfold putA
  simp only [List.mem_append, List.mem_cons, List.mem_filter]
  constructor
  · rintro (⟨h1, h2⟩ | h | ⟨h1, h2⟩)
    · exact .inr ⟨h1, less_ne h2⟩
    · exact .inl h
    · exact .inr ⟨h1, (less_ne h2).symm⟩
  · rintro (h | ⟨h1, h2⟩)
    · exact .inr (.inl h)
    · rcases less_or h2 with h3 | h3
      · exact .inl ⟨h1, h3⟩
      · exact .inr (.inr ⟨h1, h3⟩)
theorem sorted_uniq {t : List AIt} (h : sortedA t) {x y : AIt} (hx : x ∈ t) (hy : y ∈ t) (hp : x.p = y.p) : x = y := by
  induction t with
  | nil => cases hx
  | cons z r ih =>
    obtain ⟨h1, h2⟩ := List.pairwise_cons.1 h
    rcases List.mem_cons.1 hx with hx1 | hx1
    · rcases List.mem_cons.1 hy with hy1 | hy1
      · rw [hx1, hy1]
      · subst hx1
        exact absurd hp (less_ne (h1 y hy1))
    · rcases List.mem_cons.1 hy with hy1 | hy1
      · subst hy1
        exact absurd hp.symm (less_ne (h1 x hx1))
      · exact ih h2 hx1 hy1
theorem sorted_ext : ∀ {a b : List AIt}, sortedA a → sortedA b → (∀ z, z ∈ a ↔ z ∈ b) → a = b
  | [], [], _, _, _ => rfl
  | [], y :: s, _, _, h => by have := (h y).2 (by simp); cases this
  | x :: r, [], _, _, h => by have := (h x).1 (by simp); cases this
  | x :: r, y :: s, ha, hb, h => by
    obtain ⟨a1, a2⟩ := List.pairwise_cons.1 ha
    obtain ⟨b1, b2⟩ := List.pairwise_cons.1 hb
    have hxy : x = y := by
      rcases List.mem_cons.1 ((h x).1 (by simp)) with e | hx
      · exact e
      · rcases List.mem_cons.1 ((h y).2 (by simp)) with e | hy
        · exact e.symm
        · have h1 := b1 x hx
          have h2 := a1 y hy
          rw [less_asymm h1] at h2
          cases h2
    subst hxy
    rw [sorted_ext a2 b2 fun z => ?_]
    constructor
    · intro hz
      rcases List.mem_cons.1 ((h z).1 (List.mem_cons_of_mem _ hz)) with rfl | hz'
      · exact absurd rfl (less_ne (a1 _ hz))
      · exact hz'
    · intro hz
      rcases List.mem_cons.1 ((h z).2 (List.mem_cons_of_mem _ hz)) with rfl | hz'
      · exact absurd rfl (less_ne (b1 _ hz))
      · exact hz'
/-- many items, put one behind the other -/
def putsA (t : List AIt) (l : List AIt) : List AIt := l.foldl putA t
theorem puts_sorted {t : List AIt} (h : sortedA t) (l : List AIt) : sortedA (putsA t l) := by
  unfold putsA
  induction l generalizing t with
  | nil => exact h
  | cons x r ih => exact ih (putA_sorted h x)
theorem mem_puts {t l : List AIt} (hl : l.Pairwise fun a b => a.p ≠ b.p) {z : AIt} : z ∈ putsA t l ↔ z ∈ l ∨ (z ∈ t ∧ ∀ x ∈ l, z.p ≠ x.p) := by
  unfold putsA
  induction l generalizing t with
  | nil => simp
  | cons x r ih =>
    obtain ⟨h1, h2⟩ := List.pairwise_cons.1 hl
    rw [List.foldl_cons, ih h2, mem_putA]
    constructor
    · rintro (h | ⟨h | ⟨h3, h4⟩, h5⟩)
      · exact .inl (List.mem_cons_of_mem _ h)
      · exact .inl (by rw [h]; simp)
      · refine .inr ⟨h3, fun y hy => ?_⟩
        rcases List.mem_cons.1 hy with rfl | hy
        · exact h4
        · exact h5 y hy
    · rintro (h | ⟨h3, h4⟩)
      · rcases List.mem_cons.1 h with rfl | h
        · exact .inr ⟨.inl rfl, fun y hy => h1 y hy⟩
        · exact .inl h
      · exact .inr ⟨.inr ⟨h3, h4 x (by simp)⟩, fun y hy => h4 y (by simp [hy])⟩
/-- an item, moved -/
def mvA (frm to : List UInt8) (x : AIt) : AIt := ⟨to ++ x.p.drop frm.length, x.d, x.b⟩
theorem moveL_puts {frm to : List UInt8} : ∀ (l t : List AIt), moveL frm to l t = if l.all (fun x => pathB (mvA frm to x).p) then some (putsA t (l.map (mvA frm to))) else none
  | [], t => by simp [moveL, putsA]
  | x :: r, t => by
    unfold moveL
    rw [List.all_cons]
    show (if pathB (mvA frm to x).p = true then moveL frm to r (putA t (mvA frm to x)) else none) = _
    cases hp : pathB (mvA frm to x).p
    · simp
    · simp only [if_true, Bool.true_and]
      rw [moveL_puts r]
      rfl
theorem pref_app {p q : List UInt8} (h : prefB p q = true) : p ++ q.drop p.length = q := by
  unfold prefB at h
  simp only [Bool.and_eq_true, beq_iff_eq] at h
  conv => lhs; arg 1; rw [← h.2]
  exact List.take_append_drop _ _
theorem sorted_paths {t : List AIt} (h : sortedA t) : t.Pairwise fun a b => a.p ≠ b.p := List.Pairwise.imp (fun h => less_ne h) h
theorem move_self {t : List AIt} {frm : List UInt8} (h : rightA t = true) : moveL frm frm (underA t frm) (withoutA t frm) = some t := by
  have hs := right_sorted h
  have hid : ∀ x ∈ underA t frm, mvA frm frm x = x := fun x hx => by
    have := pref_app (within_prefB (List.mem_filter.1 hx).2)
    unfold mvA
    rw [this]
  have hmap : (underA t frm).map (mvA frm frm) = underA t frm := by
    conv => rhs; rw [← List.map_id (underA t frm)]
    exact List.map_congr_left hid
  rw [moveL_puts, hmap, if_pos]
  · congr 1
    have hsu : sortedA (underA t frm) := hs.filter _
    refine sorted_ext (puts_sorted (hs.filter _) _) hs fun z => ?_
    rw [mem_puts (sorted_paths hsu)]
    constructor
    · rintro (hz | ⟨hz, _⟩)
      · exact (List.mem_filter.1 hz).1
      · exact (List.mem_filter.1 hz).1
    · intro hz
      cases hw : withinA frm z.p
      · refine .inr ⟨List.mem_filter.2 ⟨hz, by simp [hw]⟩, fun x hx e => ?_⟩
        have hx2 := List.mem_filter.1 hx
        rw [← e, hw] at hx2
        exact absurd hx2.2 (by simp)
      · exact .inl (List.mem_filter.2 ⟨hz, hw⟩)
  · rw [List.all_eq_true]
    intro x hx
    rw [hid x hx]
    exact right_path h (List.mem_filter.1 hx).1
theorem renameB_eq (t : List AIt) (frm to : List UInt8) : renameB t frm to = renameA t frm to := by
  unfold renameB renameA
  cases h1 : rightA t
  · simp
  · cases h2 : pathB frm
    · simp
    · cases h3 : pathB to
      · simp
      · simp only [Bool.true_eq_false, if_false, or_self]
        by_cases h4 : (findA t frm).isSome = false
        · rw [if_pos h4, if_pos h4]
        · rw [if_neg h4, if_neg h4]
          by_cases h5 : dirA t to ≠ 0
          · rw [if_pos h5, if_pos h5]
          · rw [if_neg h5, if_neg h5]
            by_cases h6 : frm = to
            · subst h6
              rw [if_pos rfl, if_neg (by simp), if_neg (by simp), move_self h1]
            · rw [if_neg h6]
              by_cases h7 : (findA t to).isSome = true
              · rw [if_pos h7, if_pos ⟨h7, h6⟩]
              · have hn : ¬ ((findA t to).isSome = true ∧ frm ≠ to) := fun hh => h7 hh.1
                rw [if_neg h7, if_neg hn]
                by_cases h8 : withinA frm to = true
                · rw [if_pos h8, if_pos ⟨h6, h8⟩]
                · have hn2 : ¬ (frm ≠ to ∧ withinA frm to = true) := fun hh => h8 hh.2
                  rw [if_neg h8, if_neg hn2]
                  cases moveL frm to (underA t frm) (withoutA t frm) <;> rfl

end Go.Proofs.YtfoedcmcdpekoaaDoor
