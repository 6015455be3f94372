/- trees as lists: order, and what a tree with an item is -/
import Derived.Test.YtfbbjfbnkcklgaaGreatDoorI8
import Derived.Test.YtfbbjfbnkcklgaaGreatDoorI4
namespace Go.Proofs.YtfbbjfbnkcklgaaGreatDoor
open Go.RowKit

theorem less_irrefl : ∀ a : List UInt8, Op.bytesLess a a = false
  | [] => rfl
  | x :: r => by simp [Op.bytesLess, less_irrefl r]
theorem less_trans : ∀ {a b c : List UInt8}, Op.bytesLess a b = true → Op.bytesLess b c = true → Op.bytesLess a c = true
  | _, _, [], _, h => by cases ‹List UInt8› <;> simp [Op.bytesLess] at h
  | [], _, _ :: _, _, _ => rfl
  | _ :: _, [], _ :: _, h, _ => by simp [Op.bytesLess] at h
  | x :: a, y :: b, z :: c, h, k => by
    simp only [Op.bytesLess, Bool.or_eq_true, Bool.and_eq_true, decide_eq_true_eq, beq_iff_eq] at h k ⊢
    rcases h with h | ⟨rfl, h⟩
    · rcases k with k | ⟨rfl, k⟩
      · exact .inl (UInt8.lt_trans h k)
      · exact .inl h
    · rcases k with k | ⟨rfl, k⟩
      · exact .inl k
      · exact .inr ⟨rfl, less_trans h k⟩
theorem less_asymm {a b : List UInt8} (h : Op.bytesLess a b = true) : Op.bytesLess b a = false := by
  cases hb : Op.bytesLess b a with
  | false => rfl
  | true => have := less_trans h hb; rw [less_irrefl] at this; cases this
theorem less_total : ∀ {a b : List UInt8}, Op.bytesLess a b = false → Op.bytesLess b a = false → a = b
  | [], [], _, _ => rfl
  | [], _ :: _, h, _ => by simp [Op.bytesLess] at h
  | _ :: _, [], _, h => by simp [Op.bytesLess] at h
  | x :: a, y :: b, h, k => by
    simp only [Op.bytesLess, Bool.or_eq_false_iff, Bool.and_eq_false_iff, decide_eq_false_iff_not, beq_eq_false_iff_ne] at h k
    have hxy : x = y := by
      rcases UInt8.lt_or_lt_of_ne (a := x) (b := y) |> fun f => Classical.em (x = y) with e | e
      · exact e
      · rcases UInt8.lt_or_lt_of_ne e with h1 | h1
        · exact absurd h1 h.1
        · exact absurd h1 k.1
    subst hxy
    rw [less_total (h.2.resolve_left (by simp)) (k.2.resolve_left (by simp))]
theorem less_ne {a b : List UInt8} (h : Op.bytesLess a b = true) : a ≠ b := by rintro rfl; rw [less_irrefl] at h; cases h

/-- ascending by paths -/
def sortedA (t : List AIt) : Prop := t.Pairwise fun a b => Op.bytesLess a.p b.p = true
/-- a tree with an item -/
def putA (t : List AIt) (x : AIt) : List AIt := t.filter (fun y => Op.bytesLess y.p x.p) ++ x :: t.filter (fun y => Op.bytesLess x.p y.p)
def sortedI (l : List Itm) : Prop := l.Pairwise fun a b => Op.bytesLess a.p.toList b.p.toList = true
theorem sortedI_of {l : List Itm} (h : sortedA (l.map Itm.abs)) : sortedI l := by
  unfold sortedA at h
  rw [List.pairwise_map] at h
  exact h

theorem putS_true (x : Itm) : ∀ (l L : List Itm), l.foldl (putS x) (true, L) = (true, L ++ l.filter fun y => !(y.p.toList == x.p.toList))
  | [], L => by simp
  | y :: r, L => by
    rw [List.foldl_cons]
    have : putS x (true, L) y = (true, L ++ if y.p.toList == x.p.toList then [] else [y]) := by simp [putS]
    rw [this, putS_true x r, List.filter_cons]
    cases y.p.toList == x.p.toList <;> simp
theorem putR_from (x : Itm) : ∀ (l L : List Itm), sortedI l → putE x (l.foldl (putS x) (false, L)) = L ++ (l.filter (fun y => Op.bytesLess y.p.toList x.p.toList) ++ x :: l.filter fun y => Op.bytesLess x.p.toList y.p.toList)
  | [], L, _ => by simp [putE]
  | y :: r, L, h => by
    obtain ⟨h1, h2⟩ := List.pairwise_cons.1 h
    rw [List.foldl_cons]
    cases hl : Op.bytesLess y.p.toList x.p.toList
    · have hr : ∀ z ∈ r, Op.bytesLess x.p.toList z.p.toList = true := fun z hz => by
        cases hxy : Op.bytesLess x.p.toList y.p.toList
        · rw [less_total hxy hl]; exact h1 z hz
        · exact less_trans hxy (h1 z hz)
      have f1 : r.filter (fun z => Op.bytesLess z.p.toList x.p.toList) = [] := List.filter_eq_nil_iff.2 fun z hz => by rw [less_asymm (hr z hz)]; simp
      have f2 : r.filter (fun z => Op.bytesLess x.p.toList z.p.toList) = r := List.filter_eq_self.2 hr
      have f3 : r.filter (fun z => !(z.p.toList == x.p.toList)) = r := List.filter_eq_self.2 fun z hz => by
        have := (less_ne (hr z hz)).symm
        simp [this]
      have e : putS x (false, L) y = (true, L ++ [x] ++ if y.p.toList == x.p.toList then [] else [y]) := by simp [putS, hl]
      rw [e, putS_true, f3]
      rw [List.filter_cons, List.filter_cons, hl, f1, f2]
      cases he : (y.p.toList == x.p.toList)
      · have hxy : Op.bytesLess x.p.toList y.p.toList = true := by
          cases hxy : Op.bytesLess x.p.toList y.p.toList
          · rw [less_total hxy hl] at he; simp at he
          · rfl
        rw [hxy]
        simp [putE]
      · rw [eq_of_beq he, less_irrefl]
        simp [putE]
    · have hne := less_ne hl
      have e : putS x (false, L) y = (false, L ++ [y]) := by simp [putS, hl, hne]
      rw [e, putR_from x r _ h2, List.filter_cons, List.filter_cons, hl, less_asymm hl]
      simp
theorem putR_abs {l : List Itm} (x : Itm) (h : sortedA (l.map Itm.abs)) : (putR l x).map Itm.abs = putA (l.map Itm.abs) x.abs := by
  unfold putR
  rw [putR_from x l [] (sortedI_of h)]
  unfold putA
  rw [List.filter_map, List.filter_map]
  simp [Function.comp_def, Itm.abs]

theorem right_fine {t : List AIt} (h : rightA t = true) : t.length ≤ 60 ∧ ∀ j, j < t.length → fineA t t j = true := by
  unfold rightA at h
  rw [Bool.and_eq_true] at h
  refine ⟨of_decide_eq_true h.1, fun j hj => List.all_eq_true.1 h.2 j (by simpa using hj)⟩
theorem fine_parts {t u : List AIt} {j : Nat} {x : AIt} (hx : t[j]? = some x) : fineA t u j = true ↔ pathB x.p = true ∧ (∀ i y, j = i + 1 → t[i]? = some y → Op.bytesLess y.p x.p = true) ∧ dirA u x.p = 0 ∧ ¬ (x.d = true ∧ x.b ≠ []) ∧ x.b.length ≤ 2000 := by
  unfold fineA
  rw [hx]
  simp only [Bool.and_eq_true, Bool.or_eq_true, beq_iff_eq, decide_eq_true_eq, Bool.not_eq_true', Bool.and_eq_false_iff, Bool.not_eq_false', List.isEmpty_iff]
  constructor
  · rintro ⟨⟨⟨⟨h1, h2⟩, h3⟩, h4⟩, h5⟩
    refine ⟨h1, ?_, h3, ?_, h5⟩
    · rintro i y rfl hy
      rcases h2 with h2 | h2
      · cases h2
      · rw [Nat.add_sub_cancel, hy] at h2; exact h2
    · rintro ⟨a, b⟩
      rcases h4 with h4 | h4
      · rw [a] at h4; cases h4
      · exact b h4
  · rintro ⟨h1, h2, h3, h4, h5⟩
    refine ⟨⟨⟨⟨h1, ?_⟩, h3⟩, ?_⟩, h5⟩
    · cases j with
      | zero => exact .inl rfl
      | succ i =>
        right
        rw [Nat.add_sub_cancel]
        split
        · rename_i y hy; exact h2 i y rfl hy
        · rfl
    · cases hd : x.d
      · exact .inl rfl
      · right
        exact Classical.not_not.1 fun hb => h4 ⟨hd, hb⟩
theorem sorted_of_next {t : List AIt} (h : ∀ i x y, t[i]? = some x → t[i + 1]? = some y → Op.bytesLess x.p y.p = true) : sortedA t := by
  unfold sortedA
  rw [List.pairwise_iff_getElem]
  have key : ∀ d i (hi : i + d + 1 < t.length), Op.bytesLess (t[i]'(by omega)).p (t[i + d + 1]'hi).p = true := by
    intro d
    induction d with
    | zero => intro i hi; exact h i _ _ (List.getElem?_eq_getElem (by omega)) (List.getElem?_eq_getElem hi)
    | succ d ih =>
      intro i hi
      exact less_trans (ih i (by omega)) (h (i + d + 1) _ _ (List.getElem?_eq_getElem (by omega)) (List.getElem?_eq_getElem hi))
  intro i j hi hj hij
  have := key (j - i - 1) i (by omega)
  simpa [show i + (j - i - 1) + 1 = j by omega] using this
theorem right_sorted {t : List AIt} (h : rightA t = true) : sortedA t := by
  obtain ⟨_, hf⟩ := right_fine h
  refine sorted_of_next fun i x y hx hy => ?_
  exact ((fine_parts hy).1 (hf (i + 1) (List.getElem?_eq_some_iff.1 hy).1)).2.1 i x rfl hx

end Go.Proofs.YtfbbjfbnkcklgaaGreatDoor
