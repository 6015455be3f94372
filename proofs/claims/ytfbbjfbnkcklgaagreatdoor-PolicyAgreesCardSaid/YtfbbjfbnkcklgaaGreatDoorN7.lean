/- changes that came in: what is read of them; Ops, Do, Ref -/
import Derived.Test.YtfbbjfbnkcklgaaGreatDoorN3
import Derived.Test.YtfbbjfbnkcklgaaGreatDoorP2
namespace Go.Proofs.YtfbbjfbnkcklgaaGreatDoor
open Go.RowKit Go.Deep Go.ChangeShapes Go.WideShapes Go.ChangeAt

/-- a change, with the place of its bytes -/
structure OpI where
  k : Int
  n : Int
  p : ByteArray
  q : ByteArray
  bA : Option Addr
  bc : Nat
  bs : List Int
instance : Inhabited OpI := ⟨⟨0, 0, ByteArray.empty, ByteArray.empty, none, 0, []⟩⟩
def OpI.cells (o : OpI) : List Value := [.int .i64 o.k, .int .i64 o.n, .string o.p, .string o.q, .slice o.bA o.bs.length o.bc]
structure OpAt (w : World) (o : OpI) : Prop where
  src : Src w 1 (.slice o.bA o.bs.length o.bc) (nums o.bs)
  rng : ∀ b ∈ o.bs, 0 ≤ b ∧ b < 256
theorem OpAt.below {w w' : World} {o : OpI} (h : OpAt w o) (hb : Below w.heap.size w w') : OpAt w' o := ⟨h.src.below hb, h.rng⟩
/-- a slice of changes -/
structure OpsQ (w : World) (A : Option Addr) (c : Nat) (l : List OpI) : Prop where
  cap : l.length ≤ c
  cell : ∀ (i : Nat) (o : OpI), l[i]? = some o → ∃ b off, A = some ⟨b, off, none⟩ ∧ w.cell? ⟨b, off + i * 5, none⟩ = some (.int .i64 o.k) ∧ w.cell? ⟨b, off + i * 5 + 1, none⟩ = some (.int .i64 o.n) ∧ w.cell? ⟨b, off + i * 5 + 2, none⟩ = some (.string o.p) ∧
    w.cell? ⟨b, off + i * 5 + 3, none⟩ = some (.string o.q) ∧ w.cell? ⟨b, off + i * 5 + 4, none⟩ = some (.slice o.bA o.bs.length o.bc)
  at_ : ∀ o ∈ l, OpAt w o
theorem OpsQ.below {w w' : World} {A : Option Addr} {c : Nat} {l : List OpI} (h : OpsQ w A c l) (hb : Below w.heap.size w w') : OpsQ w' A c l :=
  ⟨h.cap, fun i o ho => by
    obtain ⟨b, off, h0, h1, h2, h3, h4, h5⟩ := h.cell i o ho
    exact ⟨b, off, h0, cellB hb h1, cellB hb h2, cellB hb h3, cellB hb h4, cellB hb h5⟩, fun o ho => (h.at_ o ho).below hb⟩
/-- are changes few, and short? -/
def opB (o : OpI) : Bool := decide (o.p.size ≤ 250) && decide (o.q.size ≤ 250) && decide (o.bs.length ≤ 2100)
def opsB (l : List OpI) (n : Nat) : Bool := decide (l.length ≤ n) && l.all opB

/-- a change that is short, its bytes there -/
structure OpGood (w : World) (o : OpI) : Prop where
  p : o.p.size ≤ 250
  q : o.q.size ≤ 250
  b : o.bs.length ≤ 2100
  at_ : OpAt w o
theorem OpGood.below {w w' : World} {o : OpI} (h : OpGood w o) (hb : Below w.heap.size w w') : OpGood w' o := ⟨h.p, h.q, h.b, h.at_.below hb⟩
theorem OpAt.good {w : World} {o : OpI} (h : OpAt w o) (hb : opB o = true) : OpGood w o := by
  unfold opB at hb
  simp only [Bool.and_eq_true, decide_eq_true_eq] at hb
  exact ⟨hb.1.1, hb.1.2, hb.2, h⟩
/-- what a change makes of a tree -/
def doA (t : List AIt) (o : OpI) : List AIt × Int :=
  if o.k = 0 then mkdirA t o.p.toList else if o.k = 1 then writeA t o.p.toList o.bs else if o.k = 2 then removeA t o.p.toList (o.n == 1) else if o.k = 3 then renameA t o.p.toList o.q.toList else (t, 0)

end Go.Proofs.YtfbbjfbnkcklgaaGreatDoor

/- TreeChanges: the walk -/
namespace Go.Proofs.YtfbbjfbnkcklgaaGreatDoor
open Go.RowKit Go.Deep Go.ChangeShapes Go.WideShapes Go.ChangeAt

theorem opsQ_one {w : World} {b : Nat} {e : TypeId} {o : OpI} (h : w.heap[b]? = some (.cells #[.int .i64 o.k, .int .i64 o.n, .string o.p, .string o.q, .slice o.bA o.bs.length o.bc] e (0, 0))) (ho : OpAt w o) : OpsQ w (some ⟨b, 0, none⟩) 1 [o] := by
  refine ⟨Nat.le_refl _, fun i x hx => ?_, fun x hx => by rw [List.mem_singleton.1 hx]; exact ho⟩
  have hi : i < [o].length := (List.getElem?_eq_some_iff.1 hx).1
  obtain rfl : i = 0 := by simpa using hi
  obtain rfl : o = x := by simpa using hx
  exact ⟨b, 0, rfl, (blkCell h 0).trans rfl, (blkCell h 1).trans rfl, (blkCell h 2).trans rfl, (blkCell h 3).trans rfl, (blkCell h 4).trans rfl⟩

end Go.Proofs.YtfbbjfbnkcklgaaGreatDoor

/- trees as lists: a rename; every change keeps a right tree right -/
namespace Go.Proofs.YtfbbjfbnkcklgaaGreatDoor
open Go.RowKit

theorem path_ne {p : List UInt8} (h : pathB p = true) : p ≠ [] := by rintro rfl; exact absurd h (by decide)
theorem puts_len (t : List AIt) : ∀ l : List AIt, (putsA t l).length ≤ t.length + l.length := by
  intro l
  unfold putsA
  induction l generalizing t with
  | nil => simp
  | cons x r ih =>
    rw [List.foldl_cons, List.length_cons]
    have h1 := ih (putA t x)
    have h2 := putA_len t x
    omega
theorem parts_len (t : List AIt) (q : List UInt8) : (underA t q).length + (withoutA t q).length = t.length := by
  unfold underA withoutA
  induction t with
  | nil => rfl
  | cons x r ih => rw [List.filter_cons, List.filter_cons]; cases withinA q x.p <;> simp <;> omega

/-- a rename that may be done -/
structure RenP (T : List AIt) (frm to : List UInt8) : Prop where
  right : RightP T
  pf : pathB frm = true
  pt : pathB to = true
  has : ∃ x ∈ T, x.p = frm
  dir : dirOK T to
  ne : frm ≠ to
  none : ∀ x ∈ T, x.p ≠ to
  out : withinA frm to = false

section
variable {T : List AIt} {frm to : List UInt8}
/-- what is within is the path, or goes on with a slash -/
theorem under_form (hf : pathB frm = true) {x : AIt} (hx : x ∈ underA T frm) : ∃ t, x.p = frm ++ t ∧ (mvA frm to x).p = to ++ t ∧ (t = [] ∨ ∃ s, t = 47 :: s) := by
  have hw := (List.mem_filter.1 hx).2
  rw [within_iff] at hw
  rcases hw with hw | hw | ⟨s, hw⟩
  · exact ⟨[], by simpa using hw, by unfold mvA; rw [hw]; simp, .inl rfl⟩
  · exact absurd hw (path_ne hf)
  · exact ⟨47 :: s, hw, by unfold mvA; rw [hw]; simp, .inr ⟨s, rfl⟩⟩
theorem moved_distinct (h : RenP T frm to) : ((underA T frm).map (mvA frm to)).Pairwise fun a b => a.p ≠ b.p := by
  rw [List.pairwise_map]
  have hs : sortedA (underA T frm) := h.right.sorted.filter _
  refine List.Pairwise.imp_of_mem ?_ (sorted_paths hs)
  intro a b ha hb hne e
  obtain ⟨t, e1, e2, _⟩ := under_form (to := to) h.pf ha
  obtain ⟨s, e3, e4, _⟩ := under_form (to := to) h.pf hb
  rw [e2, e4] at e
  rw [List.append_cancel_left e] at e1
  exact hne (e1.trans e3.symm)
/-- nothing in the tree lies where it moves to -/
theorem to_free (h : RenP T frm to) {z : AIt} (hz : z ∈ T) : withinA to z.p = false := by
  cases hw : withinA to z.p
  · rfl
  · by_cases e : to = z.p
    · exact absurd e.symm (h.none z hz)
    · obtain ⟨y, hy, hp, _⟩ := right_above h.right (path_ne h.pt) z.p.length z (Nat.le_refl _) hz hw e
      exact absurd hp (h.none y hy)
theorem moved_in (h : RenP T frm to) {x : AIt} (hx : x ∈ underA T frm) : withinA to (mvA frm to x).p = true := by
  obtain ⟨t, _, e, (rfl | ⟨s, rfl⟩)⟩ := under_form (to := to) h.pf hx
  · rw [within_iff]; exact .inl (by rw [e]; simp)
  · rw [within_iff]; exact .inr (.inr ⟨s, e⟩)
theorem mem_moved (h : RenP T frm to) {z : AIt} : z ∈ putsA (withoutA T frm) ((underA T frm).map (mvA frm to)) ↔ z ∈ (underA T frm).map (mvA frm to) ∨ z ∈ withoutA T frm := by
  rw [mem_puts (moved_distinct h)]
  constructor
  · rintro (h1 | ⟨h1, _⟩)
    · exact .inl h1
    · exact .inr h1
  · rintro (h1 | h1)
    · exact .inl h1
    · refine .inr ⟨h1, fun x hx e => ?_⟩
      obtain ⟨y, hy, rfl⟩ := List.mem_map.1 hx
      have h2 := to_free h (List.mem_filter.1 h1).1
      rw [e, moved_in h hy] at h2
      cases h2
theorem right_moved (h : RenP T frm to) (hall : (underA T frm).all (fun x => pathB (mvA frm to x).p) = true) : RightP (putsA (withoutA T frm) ((underA T frm).map (mvA frm to))) := by
  have hO : ∀ p, dirOK (withoutA T frm) p → dirOK (putsA (withoutA T frm) ((underA T frm).map (mvA frm to))) p := by
    rintro p (h0 | ⟨y, hy, hp, hd⟩)
    · exact .inl h0
    · exact .inr ⟨y, (mem_moved h).2 (.inr hy), hp, hd⟩
  refine ⟨?_, puts_sorted (h.right.sorted.filter _) _, fun z hz => ?_⟩
  · have h1 := puts_len (withoutA T frm) ((underA T frm).map (mvA frm to))
    have h2 := parts_len T frm
    have h3 := h.right.len
    rw [List.length_map] at h1
    omega
  rcases (mem_moved h).1 hz with hz | hz
  · obtain ⟨x, hx, rfl⟩ := List.mem_map.1 hz
    have hxT := (List.mem_filter.1 hx).1
    obtain ⟨hok, hdir⟩ := h.right.each x hxT
    have hp := List.all_eq_true.1 hall x hx
    refine ⟨⟨hp, hok.2.1, hok.2.2⟩, ?_⟩
    obtain ⟨t, e1, e2, (rfl | ⟨s, rfl⟩)⟩ := under_form (to := to) h.pf hx
    · rw [e2, List.append_nil]
      exact hO to (without_dirOK h.pt h.out h.dir)
    · have hdn : dirL x.p ≠ [] := by
        intro e0
        rw [e1] at e0
        have hm : 47 ∈ frm ++ 47 :: s := by simp
        obtain ⟨i, h1, h2⟩ := last_slash hm
        rw [dirL_slash h1 h2] at e0
        have hi : i = 0 := by
          have h3 := congrArg List.length e0
          rw [List.length_take] at h3
          have h4 := (List.getElem?_eq_some_iff.1 h1).1
          simp at h3 h4; omega
        subst hi
        cases hfr : frm with
        | nil => exact path_ne h.pf hfr
        | cons b q =>
          rw [hfr] at h2
          simp at h2
      obtain ⟨m, e3, hm⟩ := dir_form hdn
      rcases hdir with hdir | ⟨y, hy, hyp, hyd⟩
      · rw [split_fst hok.1] at hdir; exact absurd hdir hdn
      · rw [split_fst hok.1] at hyp
        have hcut := cut_two (e1.symm.trans e3) hm
        obtain ⟨r, hr⟩ : ∃ r, dirL x.p = frm ++ r := by
          rcases hcut with h1 | ⟨s', h1⟩
          · exact ⟨[], by rw [← h1]; simp⟩
          · exact ⟨_, h1⟩
        have hyw : withinA frm y.p = true := by
          rw [within_iff, hyp]
          rcases hcut with h1 | ⟨s', h1⟩
          · exact .inl h1.symm
          · exact .inr (.inr ⟨s', h1⟩)
        have hyU : y ∈ underA T frm := List.mem_filter.2 ⟨hy, hyw⟩
        have e4 : 47 :: s = r ++ 47 :: m := by
          have := e1.symm.trans e3
          rw [hr, List.append_assoc] at this
          exact List.append_cancel_left this
        have e5 : dirL (mvA frm to x).p = to ++ r := by
          rw [e2, e4, ← List.append_assoc]
          exact dir_app hm
        refine .inr ⟨mvA frm to y, (mem_moved h).2 (.inl (List.mem_map_of_mem hyU)), ?_, hyd⟩
        rw [split_fst hp, e5]
        unfold mvA
        rw [hyp, hr]
        simp
  · have hz' := List.mem_filter.1 hz
    obtain ⟨hok, hdir⟩ := h.right.each z hz'.1
    exact ⟨hok, hO _ (without_dirOK hok.1 (by simpa using hz'.2) hdir)⟩
end

/-- what a change makes of a right tree is right -/
theorem right_do {T : List AIt} {o : OpI} (h : RightP T) (h0 : (doA T o).2 = 0) : RightP (doA T o).1 := by
  have hr := right_iff.2 h
  unfold doA at h0 ⊢
  split at h0
  · rename_i hk
    rw [if_pos hk]
    unfold mkdirA at h0 ⊢
    rw [hr] at h0 ⊢
    simp only [Bool.true_eq_false, if_false] at h0 ⊢
    split at h0
    · cases h0
    rename_i hp
    rw [if_neg hp]
    split at h0
    · rename_i hd; exact absurd h0 hd
    rename_i hd
    rw [if_neg hd]
    split at h0
    · cases h0
    rename_i hf
    rw [if_neg hf]
    split at h0
    · cases h0
    rename_i hl
    rw [if_neg hl]
    have hd0 : dirA T o.p.toList = 0 := Classical.not_not.1 hd
    refine right_put h ⟨by simpa using hp, by simp, by simp⟩ ((dir_zero h.sorted).1 hd0) (fun _ _ _ _ => rfl) ?_
    have := putA_len T ⟨o.p.toList, true, []⟩
    omega
  split at h0
  · rename_i hk0 hk
    rw [if_neg hk0, if_pos hk]
    unfold writeA at h0 ⊢
    rw [hr] at h0 ⊢
    simp only [Bool.true_eq_false, if_false] at h0 ⊢
    split at h0
    · cases h0
    rename_i hp
    rw [if_neg hp]
    split at h0
    · rename_i hd; exact absurd h0 hd
    rename_i hd
    rw [if_neg hd]
    split at h0
    · cases h0
    rename_i hf
    rw [if_neg hf]
    split at h0
    · cases h0
    rename_i hb
    rw [if_neg hb]
    split at h0
    · cases h0
    rename_i hl
    rw [if_neg hl]
    have hd0 : dirA T o.p.toList = 0 := Classical.not_not.1 hd
    have hfd : ∀ y ∈ T, y.p = o.p.toList → y.d = false := fun y hy e => by
      have h1 := find_of_mem h.sorted hy
      rw [e] at h1
      unfold foundDir at hf
      rw [h1] at hf
      simpa using hf
    refine right_put h ⟨by simpa using hp, by simp, by simpa using hb⟩ ((dir_zero h.sorted).1 hd0) (fun y hy e hyd => by rw [hfd y hy e] at hyd; cases hyd) ?_
    cases hfi : (findA T o.p.toList).isSome
    · have h2 : T.length < 60 := by
        rcases Nat.lt_or_ge T.length 60 with h2 | h2
        · exact h2
        · exact absurd ⟨hfi, h2⟩ hl
      have := putA_len T ⟨o.p.toList, false, o.bs⟩
      omega
    · obtain ⟨y, hy⟩ := Option.isSome_iff_exists.1 hfi
      obtain ⟨h1, h2⟩ := find_some hy
      have := putA_len_in h.sorted (x := ⟨o.p.toList, false, o.bs⟩) h1 h2
      have := h.len
      omega
  split at h0
  · rename_i hk0 hk1 hk
    rw [if_neg hk0, if_neg hk1, if_pos hk]
    unfold removeA at h0 ⊢
    rw [hr] at h0 ⊢
    simp only [Bool.true_eq_false, if_false] at h0 ⊢
    split at h0
    · cases h0
    rename_i hp
    rw [if_neg hp]
    split at h0
    · cases h0
    rename_i hf
    rw [if_neg hf]
    split at h0
    · cases h0
    rename_i hl
    rw [if_neg hl]
    exact right_without h _
  split at h0
  · rename_i hk0 hk1 hk2 hk
    rw [if_neg hk0, if_neg hk1, if_neg hk2, if_pos hk]
    rw [← renameB_eq] at h0 ⊢
    unfold renameB at h0 ⊢
    rw [hr] at h0 ⊢
    simp only [Bool.true_eq_false, if_false] at h0 ⊢
    split at h0
    · cases h0
    rename_i hp
    rw [if_neg hp]
    split at h0
    · cases h0
    rename_i hq
    rw [if_neg hq]
    split at h0
    · cases h0
    rename_i hf
    rw [if_neg hf]
    split at h0
    · rename_i hd; exact absurd h0 hd
    rename_i hd
    rw [if_neg hd]
    split at h0
    · rename_i he
      rw [if_pos he]
      exact h
    rename_i he
    rw [if_neg he]
    split at h0
    · cases h0
    rename_i hg
    rw [if_neg hg]
    split at h0
    · cases h0
    rename_i hw
    rw [if_neg hw]
    have hd0 : dirA T o.q.toList = 0 := Classical.not_not.1 hd
    obtain ⟨x, hx⟩ := Option.isSome_iff_exists.1 (by cases hh : (findA T o.p.toList).isSome; exact absurd hh hf; rfl)
    have hR : RenP T o.p.toList o.q.toList := ⟨h, by simpa using hp, by simpa using hq, ⟨x, find_some hx⟩, (dir_zero h.sorted).1 hd0, he, find_none (by simpa using hg), by simpa using hw⟩
    rw [moveL_puts] at h0 ⊢
    split at h0
    · cases h0
    · rename_i R hm
      split at hm
      · rename_i hall
        cases hm
        exact right_moved hR hall
      · cases hm
  · rename_i hk0 hk1 hk2 hk3
    rw [if_neg hk0, if_neg hk1, if_neg hk2, if_neg hk3]
    exact h

end Go.Proofs.YtfbbjfbnkcklgaaGreatDoor

/- TreePlays: the walk -/
namespace Go.Proofs.YtfbbjfbnkcklgaaGreatDoor
open Go.RowKit

theorem right_empty : RightP [] := ⟨by simp, List.Pairwise.nil, by simp⟩

end Go.Proofs.YtfbbjfbnkcklgaaGreatDoor
