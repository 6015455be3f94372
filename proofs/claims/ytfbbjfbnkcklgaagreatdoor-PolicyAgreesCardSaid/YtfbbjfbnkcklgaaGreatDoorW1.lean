/- trees as lists: what is written is found, a rename there and back is nothing, what is removed is gone -/
import Derived.Test.YtfbbjfbnkcklgaaGreatDoorN7
namespace Go.Proofs.YtfbbjfbnkcklgaaGreatDoor
open Go.RowKit

theorem write_done {T : List AIt} {p : List UInt8} {b : List Int} (h : RightP T) (h0 : (writeA T p b).2 = 0) :
    (writeA T p b).1 = putA T ⟨p, false, b⟩ ∧ sortedA (putA T ⟨p, false, b⟩) ∧ findA (putA T ⟨p, false, b⟩) p = some ⟨p, false, b⟩ ∧ ∀ y ∈ T, (findA (putA T ⟨p, false, b⟩) y.p).isSome = true ∧ (y.p ≠ p → findA (putA T ⟨p, false, b⟩) y.p = some y) := by
  have hs := putA_sorted h.sorted ⟨p, false, b⟩
  have hin : (⟨p, false, b⟩ : AIt) ∈ putA T ⟨p, false, b⟩ := mem_putA.2 (.inl rfl)
  have hf : findA (putA T ⟨p, false, b⟩) p = some ⟨p, false, b⟩ := find_of_mem hs hin
  refine ⟨?_, hs, hf, fun y hy => ?_⟩
  · unfold writeA at h0 ⊢
    rw [right_iff.2 h] at h0 ⊢
    simp only [Bool.true_eq_false, if_false] at h0 ⊢
    split at h0
    · cases h0
    rename_i h1
    rw [if_neg h1]
    split at h0
    · rename_i hd; exact absurd h0 hd
    rename_i h2
    rw [if_neg h2]
    split at h0
    · cases h0
    rename_i h3
    rw [if_neg h3]
    split at h0
    · cases h0
    rename_i h4
    rw [if_neg h4]
    split at h0
    · cases h0
    rename_i h5
    rw [if_neg h5]
  · have hne : y.p ≠ p → findA (putA T ⟨p, false, b⟩) y.p = some y := fun hne => find_of_mem hs (mem_putA.2 (.inr ⟨hy, hne⟩))
    refine ⟨?_, hne⟩
    by_cases e : y.p = p
    · rw [e, hf]; rfl
    · rw [hne e]; rfl

theorem remove_done {T : List AIt} {p : List UInt8} (h0 : (removeA T p true).2 = 0) : (removeA T p true).1 = withoutA T p ∧ findA (withoutA T p) p = none := by
  constructor
  · unfold removeA at h0 ⊢
    split at h0
    · cases h0
    rename_i h1
    rw [if_neg h1]
    split at h0
    · cases h0
    rename_i h2
    rw [if_neg h2]
    split at h0
    · cases h0
    rename_i h3
    rw [if_neg h3]
    split at h0
    · cases h0
    rename_i h4
    rw [if_neg h4]
  · cases hf : findA (withoutA T p) p with
    | none => rfl
    | some x =>
      obtain ⟨h1, h2⟩ := find_some hf
      have h3 := (List.mem_filter.1 h1).2
      rw [h2, within_iff.2 (.inl rfl)] at h3
      cases h3

/-- what a rename that is done to another path is -/
theorem rename_done {T : List AIt} {frm to : List UInt8} (h : RightP T) (h0 : (renameA T frm to).2 = 0) (hne : frm ≠ to) :
    RenP T frm to ∧ (underA T frm).all (fun x => pathB (mvA frm to x).p) = true ∧ (renameA T frm to).1 = putsA (withoutA T frm) ((underA T frm).map (mvA frm to)) := by
  rw [← renameB_eq] at h0 ⊢
  unfold renameB at h0 ⊢
  rw [right_iff.2 h] at h0 ⊢
  simp only [Bool.true_eq_false, if_false] at h0 ⊢
  split at h0
  · cases h0
  rename_i hp
  rw [if_neg hp]
  split at h0
  · cases h0
  rename_i hq
  rw [if_neg hq]
  split at h0
  · cases h0
  rename_i hf
  rw [if_neg hf]
  split at h0
  · rename_i hd; exact absurd h0 hd
  rename_i hd
  rw [if_neg hd]
  rw [if_neg hne]
  split at h0
  · cases h0
  rename_i hg
  rw [if_neg hg]
  split at h0
  · cases h0
  rename_i hw
  rw [if_neg hw]
  have hd0 : dirA T to = 0 := Classical.not_not.1 hd
  obtain ⟨x, hx⟩ := Option.isSome_iff_exists.1 (by cases hh : (findA T frm).isSome; exact absurd hh hf; rfl)
  have hR : RenP T frm to := ⟨h, by simpa using hp, by simpa using hq, ⟨x, find_some hx⟩, (dir_zero h.sorted).1 hd0, hne, find_none (by simpa using hg), by simpa using hw⟩
  rw [moveL_puts] at h0 ⊢
  split at h0
  · cases h0
  · rename_i R hm
    split at hm
    · rename_i hall
      cases hm
      exact ⟨hR, hall, rfl⟩
    · cases hm

section
variable {T : List AIt} {frm to : List UInt8}
theorem back_mv (h : RenP T frm to) {x : AIt} (hx : x ∈ underA T frm) : mvA to frm (mvA frm to x) = x := by
  obtain ⟨t, e1, e2, _⟩ := under_form (to := to) h.pf hx
  unfold mvA at e2 ⊢
  simp only at e2 ⊢
  rw [e2, List.drop_left' rfl, ← e1]
/-- what a moved path's items are -/
theorem mem_under_moved (h : RenP T frm to) {z : AIt} : z ∈ underA (putsA (withoutA T frm) ((underA T frm).map (mvA frm to))) to ↔ z ∈ (underA T frm).map (mvA frm to) := by
  unfold underA
  rw [List.mem_filter]
  constructor
  · rintro ⟨h1, h2⟩
    rcases (mem_moved h).1 h1 with h3 | h3
    · exact h3
    · rw [to_free h (List.mem_filter.1 h3).1] at h2
      cases h2
  · intro h1
    refine ⟨(mem_moved h).2 (.inl h1), ?_⟩
    obtain ⟨y, hy, rfl⟩ := List.mem_map.1 h1
    exact moved_in h hy
theorem moved_sorted (h : RenP T frm to) : sortedA (putsA (withoutA T frm) ((underA T frm).map (mvA frm to))) := puts_sorted (h.right.sorted.filter _) _
theorem without_moved (h : RenP T frm to) : withoutA (putsA (withoutA T frm) ((underA T frm).map (mvA frm to))) to = withoutA T frm := by
  refine sorted_ext ((moved_sorted h).filter _) (h.right.sorted.filter _) fun z => ?_
  unfold withoutA
  rw [List.mem_filter]
  constructor
  · rintro ⟨h1, h2⟩
    rcases (mem_moved h).1 h1 with h3 | h3
    · obtain ⟨y, hy, rfl⟩ := List.mem_map.1 h3
      rw [moved_in h hy] at h2
      cases h2
    · exact h3
  · intro h1
    exact ⟨(mem_moved h).2 (.inr h1), by rw [to_free h (List.mem_filter.1 h1).1]; rfl⟩
theorem moved_back (h : RenP T frm to) (hall : (underA T frm).all (fun x => pathB (mvA frm to x).p) = true) : RenP (putsA (withoutA T frm) ((underA T frm).map (mvA frm to))) to frm := by
  obtain ⟨x, hx, hp⟩ := h.has
  have hxu : x ∈ underA T frm := List.mem_filter.2 ⟨hx, by rw [hp, within_iff]; exact .inl rfl⟩
  refine ⟨right_moved h hall, h.pt, h.pf, ⟨mvA frm to x, (mem_moved h).2 (.inl (List.mem_map_of_mem hxu)), ?_⟩, ?_, h.ne.symm, ?_, ?_⟩
  · unfold mvA
    rw [hp]
    simp
  · have hd : dirOK T frm := by
      have := (h.right.each x hx).2
      rwa [hp] at this
    rcases hd with hd | ⟨y, hy, hyp, hyd⟩
    · exact .inl hd
    · by_cases hd0 : (splitL frm).1 = []
      · exact .inl hd0
      refine .inr ⟨y, (mem_moved h).2 (.inr (List.mem_filter.2 ⟨hy, ?_⟩)), hyp, hyd⟩
      cases hw : withinA frm y.p
      · rfl
      · exfalso
        have h1 := within_len hw
        rw [hyp] at h1
        rw [split_fst h.pf] at h1 hd0
        obtain ⟨n, e, _⟩ := dir_form hd0
        have h2 := congrArg List.length e
        rw [List.length_append, List.length_cons] at h2
        omega
  · intro z hz e
    rcases (mem_moved h).1 hz with h3 | h3
    · obtain ⟨y, hy, rfl⟩ := List.mem_map.1 h3
      have h4 := moved_in h hy
      have h5 := to_free h hx
      rw [e, ← hp, h5] at h4
      cases h4
    · have h4 := (List.mem_filter.1 h3).2
      rw [e, within_iff.2 (.inl rfl)] at h4
      cases h4
  · have h5 := to_free h hx
    rwa [hp] at h5
theorem all_back (h : RenP T frm to) : (underA (putsA (withoutA T frm) ((underA T frm).map (mvA frm to))) to).all (fun x => pathB (mvA to frm x).p) = true := by
  rw [List.all_eq_true]
  intro z hz
  obtain ⟨y, hy, rfl⟩ := List.mem_map.1 ((mem_under_moved h).1 hz)
  rw [back_mv h hy]
  exact (h.right.each y (List.mem_filter.1 hy).1).1.1
theorem there_and_back (h : RenP T frm to) (hall : (underA T frm).all (fun x => pathB (mvA frm to x).p) = true) :
    putsA (withoutA (putsA (withoutA T frm) ((underA T frm).map (mvA frm to))) to) ((underA (putsA (withoutA T frm) ((underA T frm).map (mvA frm to))) to).map (mvA to frm)) = T := by
  have hb := moved_back h hall
  refine sorted_ext (moved_sorted hb) h.right.sorted fun z => ?_
  rw [mem_moved hb, without_moved h]
  constructor
  · rintro (h1 | h1)
    · obtain ⟨y, hy, rfl⟩ := List.mem_map.1 h1
      obtain ⟨x, hx, rfl⟩ := List.mem_map.1 ((mem_under_moved h).1 hy)
      rw [back_mv h hx]
      exact (List.mem_filter.1 hx).1
    · exact (List.mem_filter.1 h1).1
  · intro hz
    cases hw : withinA frm z.p
    · exact .inr (List.mem_filter.2 ⟨hz, by rw [hw]; rfl⟩)
    · have hzu : z ∈ underA T frm := List.mem_filter.2 ⟨hz, hw⟩
      refine .inl (List.mem_map.2 ⟨mvA frm to z, (mem_under_moved h).2 (List.mem_map_of_mem hzu), back_mv h hzu⟩)
theorem under_le (h : RenP T frm to) : (underA (putsA (withoutA T frm) ((underA T frm).map (mvA frm to))) to).length ≤ (underA T frm).length := by
  have h1 := parts_len (putsA (withoutA T frm) ((underA T frm).map (mvA frm to))) to
  rw [without_moved h] at h1
  have h2 := puts_len (withoutA T frm) ((underA T frm).map (mvA frm to))
  rw [List.length_map] at h2
  omega
end
/-- a rename that is done, done back -/
theorem rename_back {T : List AIt} {frm to : List UInt8} (h : RightP T) (h0 : (renameA T frm to).2 = 0) :
    renameA (renameA T frm to).1 to frm = (T, 0) ∧ (underA (renameA T frm to).1 to).length = (underA T frm).length := by
  by_cases hne : frm = to
  · subst hne
    have e : renameA T frm frm = (T, 0) := by
      rw [← renameB_eq] at h0 ⊢
      unfold renameB at h0 ⊢
      rw [right_iff.2 h] at h0 ⊢
      simp only [Bool.true_eq_false, if_false] at h0 ⊢
      split at h0
      · cases h0
      rename_i hp
      rw [if_neg hp, if_neg hp]
      split at h0
      · cases h0
      rename_i hf
      rw [if_neg hf]
      split at h0
      · rename_i hd; exact absurd h0 hd
      rename_i hd
      rw [if_neg hd, if_pos trivial]
    rw [e]
    exact ⟨e, rfl⟩
  · obtain ⟨hR, hall, e⟩ := rename_done h h0 hne
    rw [e]
    have hb := moved_back hR hall
    have h1 := there_and_back hR hall
    constructor
    · rw [← renameB_eq]
      unfold renameB
      obtain ⟨x, hx, hp⟩ := hb.has
      have hfs : (findA (putsA (withoutA T frm) ((underA T frm).map (mvA frm to))) to).isSome = true := by have h9 := find_of_mem hb.right.sorted hx; rw [hp] at h9; rw [h9]; rfl
      have hfn : findA (putsA (withoutA T frm) ((underA T frm).map (mvA frm to))) frm = none := by
        cases hf : findA (putsA (withoutA T frm) ((underA T frm).map (mvA frm to))) frm with
        | none => rfl
        | some y => exact absurd (find_some hf).2 (hb.none y (find_some hf).1)
      rw [right_iff.2 hb.right, hb.pf, hb.pt, hfs, (dir_zero hb.right.sorted).2 hb.dir, hfn, hb.out, moveL_puts, if_neg hb.ne, all_back hR, h1]
      simp
    · refine Nat.le_antisymm (under_le hR) ?_
      have h2 := under_le hb
      rw [h1] at h2
      exact h2

end Go.Proofs.YtfbbjfbnkcklgaaGreatDoor
