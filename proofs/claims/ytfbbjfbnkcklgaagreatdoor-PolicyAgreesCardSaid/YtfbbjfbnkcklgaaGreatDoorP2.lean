/- trees as lists: a rename to itself -/
import Derived.Test.YtfbbjfbnkcklgaaGreatDoorN3
namespace Go.Proofs.YtfbbjfbnkcklgaaGreatDoor
open Go.RowKit

theorem less_or {a b : List UInt8} (h : a ≠ b) : Op.bytesLess a b = true ∨ Op.bytesLess b a = true := by
  cases h1 : Op.bytesLess a b
  · cases h2 : Op.bytesLess b a
    · exact absurd (less_total h1 h2) h
    · exact .inr rfl
  · exact .inl rfl
theorem mem_putA {t : List AIt} {x y : AIt} : y ∈ putA t x ↔ y = x ∨ (y ∈ t ∧ y.p ≠ x.p) := by
  unfold putA
  simp only [List.mem_append, List.mem_cons, List.mem_filter]
  constructor
  · rintro (⟨h1, h2⟩ | h | ⟨h1, h2⟩)
    · exact .inr ⟨h1, less_ne h2⟩
    · exact .inl h
    · exact .inr ⟨h1, (less_ne h2).symm⟩
  · rintro (h | ⟨h1, h2⟩)
    · exact .inr (.inl h)
    · rcases less_or h2 with h3 | h3
      · exact .inl ⟨h1, h3⟩
      · exact .inr (.inr ⟨h1, h3⟩)
theorem sorted_uniq {t : List AIt} (h : sortedA t) {x y : AIt} (hx : x ∈ t) (hy : y ∈ t) (hp : x.p = y.p) : x = y := by
  induction t with
  | nil => cases hx
  | cons z r ih =>
    obtain ⟨h1, h2⟩ := List.pairwise_cons.1 h
    rcases List.mem_cons.1 hx with hx1 | hx1
    · rcases List.mem_cons.1 hy with hy1 | hy1
      · rw [hx1, hy1]
      · subst hx1
        exact absurd hp (less_ne (h1 y hy1))
    · rcases List.mem_cons.1 hy with hy1 | hy1
      · subst hy1
        exact absurd hp.symm (less_ne (h1 x hx1))
      · exact ih h2 hx1 hy1
theorem sorted_ext : ∀ {a b : List AIt}, sortedA a → sortedA b → (∀ z, z ∈ a ↔ z ∈ b) → a = b
  | [], [], _, _, _ => rfl
  | [], y :: s, _, _, h => by have := (h y).2 (by simp); cases this
  | x :: r, [], _, _, h => by have := (h x).1 (by simp); cases this
  | x :: r, y :: s, ha, hb, h => by
    obtain ⟨a1, a2⟩ := List.pairwise_cons.1 ha
    obtain ⟨b1, b2⟩ := List.pairwise_cons.1 hb
    have hxy : x = y := by
      rcases List.mem_cons.1 ((h x).1 (by simp)) with e | hx
      · exact e
      · rcases List.mem_cons.1 ((h y).2 (by simp)) with e | hy
        · exact e.symm
        · have h1 := b1 x hx
          have h2 := a1 y hy
          rw [less_asymm h1] at h2
          cases h2
    subst hxy
    rw [sorted_ext a2 b2 fun z => ?_]
    constructor
    · intro hz
      rcases List.mem_cons.1 ((h z).1 (List.mem_cons_of_mem _ hz)) with rfl | hz'
      · exact absurd rfl (less_ne (a1 _ hz))
      · exact hz'
    · intro hz
      rcases List.mem_cons.1 ((h z).2 (List.mem_cons_of_mem _ hz)) with rfl | hz'
      · exact absurd rfl (less_ne (b1 _ hz))
      · exact hz'
/-- many items, put one behind the other -/
def putsA (t : List AIt) (l : List AIt) : List AIt := l.foldl putA t
theorem puts_sorted {t : List AIt} (h : sortedA t) (l : List AIt) : sortedA (putsA t l) := by
  unfold putsA
  induction l generalizing t with
  | nil => exact h
  | cons x r ih => exact ih (putA_sorted h x)
theorem mem_puts {t l : List AIt} (hl : l.Pairwise fun a b => a.p ≠ b.p) {z : AIt} : z ∈ putsA t l ↔ z ∈ l ∨ (z ∈ t ∧ ∀ x ∈ l, z.p ≠ x.p) := by
  unfold putsA
  induction l generalizing t with
  | nil => simp
  | cons x r ih =>
    obtain ⟨h1, h2⟩ := List.pairwise_cons.1 hl
    rw [List.foldl_cons, ih h2, mem_putA]
    constructor
    · rintro (h | ⟨h | ⟨h3, h4⟩, h5⟩)
      · exact .inl (List.mem_cons_of_mem _ h)
      · exact .inl (by rw [h]; simp)
      · refine .inr ⟨h3, fun y hy => ?_⟩
        rcases List.mem_cons.1 hy with rfl | hy
        · exact h4
        · exact h5 y hy
    · rintro (h | ⟨h3, h4⟩)
      · rcases List.mem_cons.1 h with rfl | h
        · exact .inr ⟨.inl rfl, fun y hy => h1 y hy⟩
        · exact .inl h
      · exact .inr ⟨.inr ⟨h3, h4 x (by simp)⟩, fun y hy => h4 y (by simp [hy])⟩
/-- an item, moved -/
def mvA (frm to : List UInt8) (x : AIt) : AIt := ⟨to ++ x.p.drop frm.length, x.d, x.b⟩
theorem moveL_puts {frm to : List UInt8} : ∀ (l t : List AIt), moveL frm to l t = if l.all (fun x => pathB (mvA frm to x).p) then some (putsA t (l.map (mvA frm to))) else none
  | [], t => by simp [moveL, putsA]
  | x :: r, t => by
    unfold moveL
    rw [List.all_cons]
    show (if pathB (mvA frm to x).p = true then moveL frm to r (putA t (mvA frm to x)) else none) = _
    cases hp : pathB (mvA frm to x).p
    · simp
    · simp only [if_true, Bool.true_and]
      rw [moveL_puts r]
      rfl
theorem pref_app {p q : List UInt8} (h : prefB p q = true) : p ++ q.drop p.length = q := by
  unfold prefB at h
  simp only [Bool.and_eq_true, beq_iff_eq] at h
  conv => lhs; arg 1; rw [← h.2]
  exact List.take_append_drop _ _
theorem sorted_paths {t : List AIt} (h : sortedA t) : t.Pairwise fun a b => a.p ≠ b.p := List.Pairwise.imp (fun h => less_ne h) h
theorem move_self {t : List AIt} {frm : List UInt8} (h : rightA t = true) : moveL frm frm (underA t frm) (withoutA t frm) = some t := by
  have hs := right_sorted h
  have hid : ∀ x ∈ underA t frm, mvA frm frm x = x := fun x hx => by
    have := pref_app (within_prefB (List.mem_filter.1 hx).2)
    unfold mvA
    rw [this]
  have hmap : (underA t frm).map (mvA frm frm) = underA t frm := by
    conv => rhs; rw [← List.map_id (underA t frm)]
    exact List.map_congr_left hid
  rw [moveL_puts, hmap, if_pos]
  · congr 1
    have hsu : sortedA (underA t frm) := hs.filter _
    refine sorted_ext (puts_sorted (hs.filter _) _) hs fun z => ?_
    rw [mem_puts (sorted_paths hsu)]
    constructor
    · rintro (hz | ⟨hz, _⟩)
      · exact (List.mem_filter.1 hz).1
      · exact (List.mem_filter.1 hz).1
    · intro hz
      cases hw : withinA frm z.p
      · refine .inr ⟨List.mem_filter.2 ⟨hz, by simp [hw]⟩, fun x hx e => ?_⟩
        have hx2 := List.mem_filter.1 hx
        rw [← e, hw] at hx2
        exact absurd hx2.2 (by simp)
      · exact .inl (List.mem_filter.2 ⟨hz, hw⟩)
  · rw [List.all_eq_true]
    intro x hx
    rw [hid x hx]
    exact right_path h (List.mem_filter.1 hx).1
theorem renameB_eq (t : List AIt) (frm to : List UInt8) : renameB t frm to = renameA t frm to := by
  unfold renameB renameA
  cases h1 : rightA t
  · simp
  · cases h2 : pathB frm
    · simp
    · cases h3 : pathB to
      · simp
      · simp only [Bool.true_eq_false, if_false, or_self]
        by_cases h4 : (findA t frm).isSome = false
        · rw [if_pos h4, if_pos h4]
        · rw [if_neg h4, if_neg h4]
          by_cases h5 : dirA t to ≠ 0
          · rw [if_pos h5, if_pos h5]
          · rw [if_neg h5, if_neg h5]
            by_cases h6 : frm = to
            · subst h6
              rw [if_pos rfl, if_neg (by simp), if_neg (by simp), move_self h1]
            · rw [if_neg h6]
              by_cases h7 : (findA t to).isSome = true
              · rw [if_pos h7, if_pos ⟨h7, h6⟩]
              · have hn : ¬ ((findA t to).isSome = true ∧ frm ≠ to) := fun hh => h7 hh.1
                rw [if_neg h7, if_neg hn]
                by_cases h8 : withinA frm to = true
                · rw [if_pos h8, if_pos ⟨h6, h8⟩]
                · have hn2 : ¬ (frm ≠ to ∧ withinA frm to = true) := fun hh => h8 hh.2
                  rw [if_neg h8, if_neg hn2]
                  cases moveL frm to (underA t frm) (withoutA t frm) <;> rfl

end Go.Proofs.YtfbbjfbnkcklgaaGreatDoor

/- trees as lists: what is right stays right -/
namespace Go.Proofs.YtfbbjfbnkcklgaaGreatDoor
open Go.RowKit

theorem last_slash : ∀ {z : List UInt8}, 47 ∈ z → ∃ i, z[i]? = some 47 ∧ 47 ∉ z.drop (i + 1)
  | [], h => by cases h
  | b :: r, h => by
    by_cases hr : 47 ∈ r
    · obtain ⟨i, h1, h2⟩ := last_slash hr
      exact ⟨i + 1, by simpa using h1, by simpa using h2⟩
    · rcases List.mem_cons.1 h with rfl | h
      · exact ⟨0, rfl, by simpa using hr⟩
      · exact absurd h hr
theorem dir_form {z : List UInt8} (h : dirL z ≠ []) : ∃ n, z = dirL z ++ 47 :: n ∧ 47 ∉ n := by
  by_cases hz : 47 ∈ z
  · obtain ⟨i, h1, h2⟩ := last_slash hz
    refine ⟨z.drop (i + 1), ?_, h2⟩
    rw [dirL_slash h1 h2]
    obtain ⟨hi, e⟩ := List.getElem?_eq_some_iff.1 h1
    conv => lhs; rw [← List.take_append_drop i z, List.drop_eq_getElem_cons hi, e]
  · exact absurd (dirL_none hz) h
theorem dir_app {d n : List UInt8} (h : 47 ∉ n) : dirL (d ++ 47 :: n) = d := by
  have h1 : (d ++ 47 :: n)[d.length]? = some 47 := by simp
  have h2 : (d ++ 47 :: n).drop (d.length + 1) = n := by
    rw [show d ++ 47 :: n = (d ++ [47]) ++ n by simp, List.drop_left' (by simp)]
  rw [dirL_slash h1 (by rw [h2]; exact h), List.take_left' rfl]
theorem split_fst {z : List UInt8} (h : pathB z = true) : (splitL z).1 = dirL z := by unfold splitL; rw [if_pos h]
theorem within_iff {p q : List UInt8} : withinA p q = true ↔ q = p ∨ p = [] ∨ ∃ s, q = p ++ 47 :: s := by
  unfold withinA
  simp only [Bool.or_eq_true, beq_iff_eq, Bool.and_eq_true, decide_eq_true_eq]
  constructor
  · rintro ((h | h) | ⟨⟨h1, h2⟩, h3⟩)
    · exact .inl h
    · exact .inr (.inl h)
    · right; right
      refine ⟨q.drop (p.length + 1), ?_⟩
      obtain ⟨hi, e⟩ := List.getElem?_eq_some_iff.1 h3
      conv => lhs; rw [← List.take_append_drop p.length q, h2, List.drop_eq_getElem_cons hi, e]
  · rintro (h | h | ⟨s, rfl⟩)
    · exact .inl (.inl h)
    · exact .inl (.inr h)
    · exact .inr ⟨⟨by simp, by simp⟩, by simp⟩
/-- two cuts of one text, the second at its last slash -/
theorem cut_two {q s d n : List UInt8} (h : q ++ 47 :: s = d ++ 47 :: n) (hn : 47 ∉ n) : q = d ∨ ∃ s', d = q ++ 47 :: s' := by
  rcases List.append_eq_append_iff.1 h with ⟨a, rfl, ha⟩ | ⟨c, rfl, hc⟩
  · cases a with
    | nil => left; simp
    | cons b a =>
      simp only [List.cons_append, List.cons.injEq] at ha
      exact .inr ⟨a, by rw [← ha.1]⟩
  · cases c with
    | nil => left; simp
    | cons b c =>
      simp only [List.cons_append, List.cons.injEq] at hc
      exact absurd (by rw [hc.2]; simp) hn

theorem find_some {T : List AIt} {q : List UInt8} {x : AIt} (h : findA T q = some x) : x ∈ T ∧ x.p = q := by
  unfold findA at h
  exact ⟨List.mem_of_find?_eq_some h, by simpa using List.find?_some h⟩
theorem find_of_mem {T : List AIt} (hs : sortedA T) {x : AIt} (hx : x ∈ T) : findA T x.p = some x := by
  cases hf : findA T x.p with
  | none =>
    unfold findA at hf
    have := List.find?_eq_none.1 hf x hx
    simp at this
  | some y =>
    obtain ⟨h1, h2⟩ := find_some hf
    rw [sorted_uniq hs h1 hx h2]
theorem find_none {T : List AIt} {q : List UInt8} (h : (findA T q).isSome = false) : ∀ x ∈ T, x.p ≠ q := by
  intro x hx e
  cases hf : findA T q with
  | none =>
    unfold findA at hf
    have := List.find?_eq_none.1 hf x hx
    simp [e] at this
  | some y => rw [hf] at h; cases h
def okI (x : AIt) : Prop := pathB x.p = true ∧ ¬ (x.d = true ∧ x.b ≠ []) ∧ x.b.length ≤ 2000
def dirOK (T : List AIt) (p : List UInt8) : Prop := (splitL p).1 = [] ∨ ∃ y ∈ T, y.p = (splitL p).1 ∧ y.d = true
theorem dir_zero {T : List AIt} (hs : sortedA T) {p : List UInt8} : dirA T p = 0 ↔ dirOK T p := by
  unfold dirA dirOK
  constructor
  · intro h
    split at h
    · rename_i hd; exact .inl hd
    · right
      split at h
      · cases h
      · rename_i x hx
        obtain ⟨h1, h2⟩ := find_some hx
        refine ⟨x, h1, h2, ?_⟩
        cases hd : x.d
        · rw [hd] at h; cases h
        · rfl
  · rintro (h | ⟨y, hy, hp, hd⟩)
    · rw [if_pos h]
    · split
      · rfl
      · rw [← hp, find_of_mem hs hy]
        simp [hd]
structure RightP (T : List AIt) : Prop where
  len : T.length ≤ 60
  sorted : sortedA T
  each : ∀ x ∈ T, okI x ∧ dirOK T x.p
theorem right_iff {T : List AIt} : rightA T = true ↔ RightP T := by
  constructor
  · intro h
    refine ⟨(right_fine h).1, right_sorted h, fun x hx => ?_⟩
    obtain ⟨j, hj, e⟩ := List.getElem_of_mem hx
    have h1 := (fine_parts (List.getElem?_eq_getElem hj)).1 ((right_fine h).2 j hj)
    rw [e] at h1
    exact ⟨⟨h1.1, h1.2.2.2.1, h1.2.2.2.2⟩, (dir_zero (right_sorted h)).1 h1.2.2.1⟩
  · intro h
    unfold rightA
    rw [Bool.and_eq_true]
    refine ⟨decide_eq_true h.len, List.all_eq_true.2 fun j hj => ?_⟩
    have hj : j < T.length := by simpa using hj
    have hx := List.getElem?_eq_getElem hj
    obtain ⟨h1, h2⟩ := h.each _ (List.getElem_mem hj)
    exact (fine_parts hx).2 ⟨h1.1, fun i y e hy => sorted_get h.sorted hy hx (by omega), (dir_zero h.sorted).2 h2, h1.2.1, h1.2.2⟩
theorem putA_len_in {t : List AIt} (_hs : sortedA t) {x y : AIt} (hy : y ∈ t) (hp : y.p = x.p) : (putA t x).length ≤ t.length := by
  have key : ∀ (t : List AIt), y ∈ t → (t.filter fun z => Op.bytesLess z.p x.p).length + (t.filter fun z => Op.bytesLess x.p z.p).length + 1 ≤ t.length := by
    intro t
    induction t with
    | nil => intro h; cases h
    | cons z r ih =>
      intro h
      have hle : ∀ (r : List AIt), (r.filter fun z => Op.bytesLess z.p x.p).length + (r.filter fun z => Op.bytesLess x.p z.p).length ≤ r.length := by
        intro r
        induction r with
        | nil => simp
        | cons u v ih2 =>
          rw [List.filter_cons, List.filter_cons]
          cases h1 : Op.bytesLess u.p x.p <;> cases h2 : Op.bytesLess x.p u.p <;> simp <;> try omega
          rw [less_asymm h1] at h2; cases h2
      rw [List.filter_cons, List.filter_cons]
      rcases List.mem_cons.1 h with rfl | h
      · rw [hp, less_irrefl]
        have := hle r
        simp; omega
      · have h3 := ih h
        cases h1 : Op.bytesLess z.p x.p <;> cases h2 : Op.bytesLess x.p z.p <;> simp <;> try omega
        rw [less_asymm h1] at h2; cases h2
  unfold putA
  rw [List.length_append, List.length_cons]
  have := key t hy
  omega
theorem right_put {T : List AIt} {x : AIt} (h : RightP T) (hx : okI x) (hd : dirOK T x.p) (hr : ∀ y ∈ T, y.p = x.p → y.d = true → x.d = true) (hl : (putA T x).length ≤ 60) : RightP (putA T x) := by
  have lift : ∀ p, dirOK T p → dirOK (putA T x) p := by
    rintro p (h0 | ⟨y, hy, hp, hyd⟩)
    · exact .inl h0
    · by_cases e : y.p = x.p
      · exact .inr ⟨x, mem_putA.2 (.inl rfl), by rw [← e]; exact hp, hr y hy e hyd⟩
      · exact .inr ⟨y, mem_putA.2 (.inr ⟨hy, e⟩), hp, hyd⟩
  refine ⟨hl, putA_sorted h.sorted x, fun z hz => ?_⟩
  rcases mem_putA.1 hz with rfl | ⟨hz, _⟩
  · exact ⟨hx, lift _ hd⟩
  · exact ⟨(h.each z hz).1, lift _ (h.each z hz).2⟩
/-- what is within a path's directory is within as the path is -/
theorem within_dir {p z : List UInt8} (hz : pathB z = true) (hd : (splitL z).1 ≠ []) (h : withinA p (splitL z).1 = true) : withinA p z = true := by
  rw [split_fst hz] at hd h
  obtain ⟨n, e, _⟩ := dir_form hd
  rw [within_iff] at h ⊢
  rcases h with h | h | ⟨s, h⟩
  · right; right; exact ⟨n, by rw [← h]; exact e⟩
  · exact .inr (.inl h)
  · right; right; exact ⟨s ++ 47 :: n, by rw [e, h]; simp⟩
theorem without_dirOK {T : List AIt} {q z : List UInt8} (hz : pathB z = true) (hw : withinA q z = false) (h : dirOK T z) : dirOK (withoutA T q) z := by
  rcases h with h | ⟨y, hy, hp, hyd⟩
  · exact .inl h
  · by_cases hd : (splitL z).1 = []
    · exact .inl hd
    · refine .inr ⟨y, List.mem_filter.2 ⟨hy, ?_⟩, hp, hyd⟩
      cases hwy : withinA q y.p
      · rfl
      · rw [hp] at hwy
        rw [within_dir hz hd hwy] at hw
        cases hw
theorem right_without {T : List AIt} (h : RightP T) (q : List UInt8) : RightP (withoutA T q) := by
  refine ⟨Nat.le_trans (List.length_filter_le _ _) h.len, h.sorted.filter _, fun z hz => ?_⟩
  obtain ⟨h1, h2⟩ := List.mem_filter.1 hz
  obtain ⟨h3, h4⟩ := h.each z h1
  exact ⟨h3, without_dirOK h3.1 (by simpa using h2) h4⟩
/-- what leads to an item of a right tree is there -/
theorem right_above {T : List AIt} (h : RightP T) {q : List UInt8} (hq : q ≠ []) : ∀ (n : Nat) (x : AIt), x.p.length ≤ n → x ∈ T → withinA q x.p = true → q ≠ x.p → ∃ y ∈ T, y.p = q ∧ y.d = true := by
  intro n
  induction n with
  | zero =>
    intro x hn hx hw hne
    rw [within_iff] at hw
    rcases hw with hw | hw | ⟨s, hw⟩
    · exact absurd hw.symm hne
    · exact absurd hw hq
    · rw [hw] at hn; simp at hn
  | succ n ih =>
    intro x hn hx hw hne
    rw [within_iff] at hw
    rcases hw with hw | hw | ⟨s, hw⟩
    · exact absurd hw.symm hne
    · exact absurd hw hq
    · obtain ⟨hok, hd⟩ := h.each x hx
      have hdn : dirL x.p ≠ [] := by
        have hm : 47 ∈ x.p := by rw [hw]; simp
        obtain ⟨i, h1, h2⟩ := last_slash hm
        rw [dirL_slash h1 h2]
        intro e
        have hi : i = 0 := by
          have h4 := congrArg List.length e
          rw [List.length_take] at h4
          have h5 := (List.getElem?_eq_some_iff.1 h1).1
          have h6 : ([] : List UInt8).length = 0 := rfl
          omega
        subst hi
        cases q with
        | nil => exact hq rfl
        | cons b q =>
          rw [hw] at h2
          simp at h2
      obtain ⟨m, e, hm⟩ := dir_form hdn
      rcases hd with hd | ⟨y, hy, hp, hyd⟩
      · rw [split_fst hok.1] at hd; exact absurd hd hdn
      · rw [split_fst hok.1] at hp
        rcases cut_two (hw.symm.trans e) hm with h1 | ⟨s', h1⟩
        · exact ⟨y, hy, by rw [hp, h1], hyd⟩
        · refine ih y ?_ hy ?_ ?_
          · have := congrArg List.length e
            rw [List.length_append, List.length_cons] at this
            rw [hp]; omega
          · rw [within_iff, hp]; exact .inr (.inr ⟨s', h1⟩)
          · rw [hp, h1]; intro e2
            have := congrArg List.length e2
            simp at this

end Go.Proofs.YtfbbjfbnkcklgaaGreatDoor
