/- the steps between two trees make the second of the first, and are few -/
import Derived.Test.YtfbbjfbnkcklgaaGreatDoorQ1
namespace Go.Proofs.YtfbbjfbnkcklgaaGreatDoor
open Go.RowKit

theorem sorted_sub_len : ∀ {T S : List AIt}, sortedA S → sortedA T → (∀ z ∈ S, ∃ y ∈ T, y.p = z.p) → S.length ≤ T.length
  | [], [], _, _, _ => Nat.le_refl _
  | [], z :: _, _, _, h => by obtain ⟨y, hy, _⟩ := h z (by simp); cases hy
  | _ :: _, [], _, _, _ => Nat.zero_le _
  | y :: r, x :: s, hS, hT, h => by
    obtain ⟨s1, s2⟩ := List.pairwise_cons.1 hS
    obtain ⟨t1, t2⟩ := List.pairwise_cons.1 hT
    by_cases e : y.p = x.p
    · have := sorted_sub_len s2 t2 fun z hz => by
        obtain ⟨w, hw, hp⟩ := h z (List.mem_cons_of_mem _ hz)
        rcases List.mem_cons.1 hw with rfl | hw
        · have h1 := s1 z hz
          rw [← hp, e, less_irrefl] at h1
          cases h1
        · exact ⟨w, hw, hp⟩
      simp only [List.length_cons]
      omega
    · have hx : ∃ w ∈ r, w.p = x.p := by
        obtain ⟨w, hw, hp⟩ := h x (by simp)
        rcases List.mem_cons.1 hw with rfl | hw
        · exact absurd hp e
        · exact ⟨w, hw, hp⟩
      have := sorted_sub_len (S := x :: s) hS t2 fun z hz => by
        obtain ⟨w, hw, hp⟩ := h z hz
        rcases List.mem_cons.1 hw with rfl | hw
        · rcases List.mem_cons.1 hz with rfl | hz
          · exact hx
          · obtain ⟨v, hv, hvp⟩ := hx
            have h1 := s1 z hz
            have h2 := t1 v hv
            rw [hvp, hp, less_asymm h1] at h2
            cases h2
        · exact ⟨w, hw, hp⟩
      simp only [List.length_cons] at *
      omega
theorem putA_new_len {t : List AIt} {x : AIt} (h : ∀ z ∈ t, z.p ≠ x.p) : (putA t x).length = t.length + 1 := by
  have key : ∀ (t : List AIt), (∀ z ∈ t, z.p ≠ x.p) → (t.filter fun z => Op.bytesLess z.p x.p).length + (t.filter fun z => Op.bytesLess x.p z.p).length = t.length := by
    intro t
    induction t with
    | nil => intro _; rfl
    | cons z r ih =>
      intro h
      have h3 := ih fun w hw => h w (List.mem_cons_of_mem _ hw)
      rw [List.filter_cons, List.filter_cons]
      rcases less_or (h z (by simp)) with h1 | h1
      · rw [h1, less_asymm h1]
        simp; omega
      · rw [h1, less_asymm h1]
        simp; omega
  unfold putA
  rw [List.length_append, List.length_cons]
  have := key t h
  omega

section
variable {F T : List AIt}
theorem stays_same (hT : RightP T) {x y : AIt} (hx : x ∈ F) (hy : y ∈ T) (hp : x.p = y.p) (hg : goneB F T x.p = false) : x.d = y.d := by
  have hgo : goesB T x = false := by
    cases h : goesB T x
    · rfl
    · rw [goneB_iff.2 ⟨x, hx, within_self _, h⟩] at hg; cases hg
  unfold goesB at hgo
  rw [hp, find_of_mem hT.sorted hy] at hgo
  simpa using hgo
theorem okI_eq {x : AIt} (h : okI x) (hd : x.d = true) : x = ⟨x.p, true, []⟩ := by
  obtain ⟨p, d, b⟩ := x
  have h2 := h.2.1
  simp only at hd h2 ⊢
  subst hd
  have : b = [] := Classical.byContradiction fun hb => h2 ⟨rfl, hb⟩
  rw [this]
theorem kept_eq (hF : RightP F) (hT : RightP T) {y : AIt} (hy : y ∈ T) (hk : keptB F (goneA F T).1 y = true) : y ∈ F ∧ goneB F T y.p = false := by
  unfold keptB at hk
  cases hf : findA F y.p with
  | none => rw [hf] at hk; cases hk
  | some x =>
    rw [hf] at hk
    simp only [Bool.and_eq_true, Bool.not_eq_true', decide_eq_false_iff_not, Bool.or_eq_true, decide_eq_true_eq] at hk
    obtain ⟨hx, hp⟩ := find_some hf
    have hg : goneB F T y.p = false := by
      cases h : goneB F T y.p
      · rfl
      · exact absurd ((mem_all hF).2 ⟨⟨x, hx, hp⟩, h⟩) hk.1
    have hd := stays_same hT hx hy hp (by rw [hp]; exact hg)
    have hxy : x = y := by
      cases hyd : y.d
      · have hb := hk.2.resolve_left (by rw [hyd]; simp)
        obtain ⟨_, _, _⟩ := x
        obtain ⟨_, _, _⟩ := y
        simp only at hp hd hb
        rw [hp, hd, hb]
      · rw [okI_eq (hF.each x hx).1 (by rw [hd, hyd]), okI_eq (hT.each y hy).1 hyd, hp]
    rw [hxy] at hx
    exact ⟨hx, hg⟩
theorem kept_of (hF : RightP F) {x y : AIt} (hx : x ∈ F) (hp : x.p = y.p) (hg : goneB F T y.p = false) (hb : y.d = true ∨ x.b = y.b) : keptB F (goneA F T).1 y = true := by
  unfold keptB
  rw [← hp, find_of_mem hF.sorted hx, hp]
  have hn : ¬ y.p ∈ (goneA F T).1 := fun h => by
    rw [((mem_all hF).1 h).2] at hg; cases hg
  simp only [Bool.and_eq_true, Bool.not_eq_true', decide_eq_false_iff_not, Bool.or_eq_true, decide_eq_true_eq]
  exact ⟨hn, hb⟩
/-- the last steps -/
theorem run_makes (hF : RightP F) (hT : RightP T) {M : Nat} (hM : T.length ≤ M) : ∀ (B A S : List AIt), T = A ++ B → RightP S → (∀ z, z ∈ S ↔ z ∈ A ∨ (z ∈ F ∧ goneB F T z.p = false ∧ ∀ a ∈ A, z.p ≠ a.p)) →
    okRun M S (makeL F (goneA F T).1 B) T
  | [], A, S, h, hS, hm => by
    rw [List.append_nil] at h
    subst h
    refine sorted_ext hS.sorted hT.sorted fun z => ?_
    rw [hm]
    constructor
    · rintro (h | ⟨h1, h2, h3⟩)
      · exact h
      · exfalso
        cases hf : findA T z.p with
        | none =>
          have : goesB T z = true := by unfold goesB; rw [hf]
          rw [goneB_iff.2 ⟨z, h1, within_self _, this⟩] at h2
          cases h2
        | some y => exact h3 y (find_some hf).1 (find_some hf).2.symm
    · exact .inl
  | y :: B, A, S, h, hS, hm => by
    have hy : y ∈ T := by rw [h]; simp
    have hsT := hT.sorted
    rw [h] at hsT
    have hA : ∀ a ∈ A, y.p ≠ a.p := fun a ha => (less_ne ((List.pairwise_append.1 hsT).2.2 a ha y (by simp))).symm
    have hAT : ∀ a ∈ A, a ∈ T := fun a ha => by rw [h]; simp [ha]
    unfold makeL
    rw [List.filter_cons]
    cases hk : keptB F (goneA F T).1 y
    · simp only [Bool.not_false, if_true, List.map_cons]
      have hw : ∀ w ∈ S, w.p = y.p → w ∈ F ∧ w.d = y.d ∧ goneB F T y.p = false := fun w hw hp => by
        rcases (hm w).1 hw with h1 | ⟨h1, h2, _⟩
        · exact absurd hp.symm (hA w h1)
        · exact ⟨h1, stays_same hT h1 hy hp h2, by rw [← hp]; exact h2⟩
      have hsub : ∀ z ∈ putA S y, ∃ t ∈ T, t.p = z.p := fun z hz => by
        rcases mem_putA.1 hz with rfl | ⟨hz, _⟩
        · exact ⟨z, hy, rfl⟩
        · rcases (hm z).1 hz with h1 | ⟨h1, h2, _⟩
          · exact ⟨z, hAT z h1, rfl⟩
          · cases hf : findA T z.p with
            | none =>
              have : goesB T z = true := by unfold goesB; rw [hf]
              rw [goneB_iff.2 ⟨z, h1, within_self _, this⟩] at h2
              cases h2
            | some t => exact ⟨t, find_some hf⟩
      have hlen : (putA S y).length ≤ T.length := sorted_sub_len (putA_sorted hS.sorted y) hT.sorted hsub
      have hdir : dirOK S y.p := by
        rcases (hT.each y hy).2 with h0 | ⟨t, ht, htp, htd⟩
        · exact .inl h0
        · by_cases hd0 : (splitL y.p).1 = []
          · exact .inl hd0
          refine .inr ⟨t, (hm t).2 (.inl ?_), htp, htd⟩
          rw [h] at ht
          rcases List.mem_append.1 ht with ht | ht
          · exact ht
          · exfalso
            have hl := dirs_less (hT.path hy) hd0
            rcases List.mem_cons.1 ht with ht | ht
            · have h5 := dir_len (hT.path hy) hd0
              rw [← htp, ht] at h5
              omega
            · have h6 := (List.pairwise_cons.1 (List.pairwise_append.1 hsT).2.1).1 t ht
              rw [htp, hl] at h6
              cases h6
      have hok := (hT.each y hy).1
      have hS' : RightP (putA S y) := right_put hS hok hdir (fun w h1 h2 h3 => by rw [← (hw w h1 h2).2.1]; exact h3) (Nat.le_trans hlen hT.len)
      have hdo : sdoA S (newA y) = (putA S y, 0) := by
        unfold newA
        cases hyd : y.d
        · simp only [Bool.false_eq_true, if_false]
          unfold sdoA
          rw [show stRight ⟨3, y.p, y.b⟩ = true by unfold stRight; simp only; rw [hok.1, decide_eq_true hok.2.2]; rfl]
          simp only [Bool.true_eq_false, if_false]
          unfold onA
          rw [if_neg (by simp), if_neg (by simp)]
          unfold writeA
          have hfd : foundDir S y.p = false := by
            unfold foundDir
            cases hf : findA S y.p with
            | none => rfl
            | some w =>
              obtain ⟨h1, h2⟩ := find_some hf
              simp only
              rw [(hw w h1 h2).2.1, hyd]
          have hfull : ¬ ((findA S y.p).isSome = false ∧ 60 ≤ S.length) := fun ⟨h1, h2⟩ => by
            have h3 := putA_new_len (x := y) (find_none h1)
            have h4 := hT.len
            omega
          rw [right_iff.2 hS, hok.1, (dir_zero hS.sorted).2 hdir, hfd]
          simp only [Bool.true_eq_false, Bool.false_eq_true, if_false, ne_eq, not_true]
          rw [if_neg (by have := hok.2.2; omega), if_neg hfull]
          have he : y = ⟨y.p, false, y.b⟩ := by obtain ⟨_, _, _⟩ := y; simp only at hyd; rw [hyd]
          rw [← he]
        · simp only [if_true]
          unfold sdoA
          rw [show stRight ⟨2, y.p, []⟩ = true by unfold stRight; simp only; rw [hok.1]; rfl]
          simp only [Bool.true_eq_false, if_false]
          unfold onA
          rw [if_neg (by simp), if_pos rfl]
          unfold mkdirA
          have hfs : (findA S y.p).isSome = false := by
            cases hf : findA S y.p with
            | none => rfl
            | some w =>
              exfalso
              obtain ⟨h1, h2⟩ := find_some hf
              obtain ⟨h3, h4, h5⟩ := hw w h1 h2
              rw [kept_of hF h3 h2 h5 (.inl hyd)] at hk
              cases hk
          have hfull : ¬ 60 ≤ S.length := fun h2 => by
            have h3 := putA_new_len (x := y) (find_none hfs)
            have h4 := hT.len
            omega
          rw [right_iff.2 hS, hok.1, (dir_zero hS.sorted).2 hdir, hfs]
          simp only [Bool.true_eq_false, Bool.false_eq_true, if_false, ne_eq, not_true]
          rw [if_neg hfull, ← okI_eq hok hyd]
      refine ⟨by rw [hdo], by rw [hdo]; exact Nat.le_trans hlen hM, ?_⟩
      rw [hdo]
      refine run_makes hF hT hM B (A ++ [y]) (putA S y) (by rw [h]; simp) hS' fun z => ?_
      rw [mem_putA, hm]
      simp only [List.mem_append, List.mem_singleton]
      constructor
      · rintro (h1 | ⟨h1 | ⟨h1, h2, h3⟩, h4⟩)
        · exact .inl (.inr h1)
        · exact .inl (.inl h1)
        · refine .inr ⟨h1, h2, fun a ha => ?_⟩
          rcases ha with ha | rfl
          · exact h3 a ha
          · exact h4
      · rintro ((h1 | h1) | ⟨h1, h2, h3⟩)
        · exact .inr ⟨.inl h1, fun e => hA z h1 e.symm⟩
        · exact .inl h1
        · exact .inr ⟨.inr ⟨h1, h2, fun a ha => h3 a (.inl ha)⟩, h3 y (.inr rfl)⟩
    · simp only [Bool.not_true, Bool.false_eq_true, if_false]
      obtain ⟨hyF, hyg⟩ := kept_eq hF hT hy hk
      refine run_makes hF hT hM B (A ++ [y]) S (by rw [h]; simp) hS fun z => ?_
      rw [hm]
      simp only [List.mem_append, List.mem_singleton]
      constructor
      · rintro (h1 | ⟨h1, h2, h3⟩)
        · exact .inl (.inl h1)
        · by_cases e : z.p = y.p
          · exact .inl (.inr (sorted_uniq hF.sorted h1 hyF e))
          · refine .inr ⟨h1, h2, fun a ha => ?_⟩
            rcases ha with ha | rfl
            · exact h3 a ha
            · exact e
      · rintro ((h1 | h1) | ⟨h1, h2, h3⟩)
        · exact .inl h1
        · subst h1
          exact .inr ⟨hyF, hyg, hA⟩
        · exact .inr ⟨h1, h2, fun a ha => h3 a (.inl ha)⟩

theorem makeA_right (hF : RightP F) (hT : RightP T) : makeA F T = ((goneA F T).2.reverse.map remA ++ makeL F (goneA F T).1 T, 0) := by
  unfold makeA
  rw [right_iff.2 hF, right_iff.2 hT, if_neg (by simp)]
/-- the steps between two right trees make the second of the first -/
theorem make_reaches (hF : RightP F) (hT : RightP T) : okRun (max F.length T.length) F (makeA F T).1 T := by
  rw [makeA_right hF hT]
  obtain ⟨h1, h2⟩ := run_rems (M := max F.length T.length) (goneA F T).2.reverse hF (Nat.le_max_left _ _) (fun t ht => by
      obtain ⟨x, hx, hp, _⟩ := (mem_tops hF).1 (List.mem_reverse.1 ht)
      exact ⟨by rw [← hp]; exact hF.path hx, x, hx, hp⟩)
    (by
      rw [List.pairwise_reverse]
      exact List.Pairwise.imp_of_mem (fun ha hb hne => tops_apart hF hb ha (Ne.symm hne)) (tops_distinct hF))
  refine okRun_append h1 (run_makes hF hT (Nat.le_max_right _ _) T [] _ rfl h2 fun z => ?_)
  rw [List.mem_filter]
  have hg : ((!(goneA F T).2.reverse.any fun t => withinA t z.p) = true) ↔ goneB F T z.p = false := by
    rw [Bool.not_eq_true', ← Bool.not_eq_true, ← Bool.not_eq_true, gone_tops hF, List.any_eq_true]
    simp only [List.mem_reverse]
  rw [hg]
  constructor
  · rintro ⟨a, b⟩
    exact .inr ⟨a, b, fun _ h => by cases h⟩
  · rintro (h | ⟨a, b, _⟩)
    · cases h
    · exact ⟨a, b⟩
theorem make_self (hT : RightP T) : makeA T T = ([], 0) := by
  rw [makeA_right hT hT]
  have hgo : ∀ x ∈ T, goesB T x = false := fun x hx => by
    unfold goesB
    rw [find_of_mem hT.sorted hx]
    simp
  have h2 : (goneA T T).2 = [] := by
    rw [List.eq_nil_iff_forall_not_mem]
    intro p hp
    obtain ⟨x, hx, _, hg, _⟩ := (mem_tops hT).1 hp
    rw [hgo x hx] at hg
    cases hg
  have hgn : ∀ p, goneB T T p = false := fun p => by
    cases h : goneB T T p
    · rfl
    · obtain ⟨x, hx, _, hg⟩ := goneB_iff.1 h
      rw [hgo x hx] at hg
      cases hg
  have h3 : makeL T (goneA T T).1 T = [] := by
    unfold makeL
    rw [List.map_eq_nil_iff, List.filter_eq_nil_iff]
    intro y hy
    rw [kept_of hT hy rfl (hgn _) (.inr rfl)]
    simp
  rw [h2, h3]
  rfl
/-- no path comes twice with one kind -/
theorem make_distinct (hF : RightP F) (hT : RightP T) : (makeA F T).1.Pairwise fun a b => ¬ (a.k = b.k ∧ a.p = b.p) := by
  rw [makeA_right hF hT, List.pairwise_append]
  have hk : ∀ y : AIt, (newA y).p = y.p ∧ (newA y).k ≠ 1 := fun y => by
    unfold newA
    split <;> simp
  refine ⟨?_, ?_, ?_⟩
  · rw [List.pairwise_map, List.pairwise_reverse]
    exact List.Pairwise.imp (fun hne h => hne h.2.symm) (tops_distinct hF)
  · unfold makeL
    rw [List.pairwise_map]
    refine List.Pairwise.imp (fun hne h => ?_) (sorted_paths (hT.sorted.filter _))
    rw [(hk _).1, (hk _).1] at h
    exact hne h.2
  · rintro a ha b hb ⟨h1, _⟩
    obtain ⟨p, _, rfl⟩ := List.mem_map.1 ha
    obtain ⟨y, _, rfl⟩ := List.mem_map.1 hb
    exact (hk y).2 h1.symm
/-- each step is of a path at which the trees are not alike -/
theorem make_small (hF : RightP F) (hT : RightP T) {s : StA} (hs : s ∈ (makeA F T).1) :
    (∀ x y, findA F s.p = some x → findA T s.p = some y → x ≠ y) ∧ (s.k ≠ 1 → (findA T s.p).isSome = true) ∧ (s.k = 1 → (findA F s.p).isSome = true) := by
  rw [makeA_right hF hT] at hs
  rcases List.mem_append.1 hs with hs | hs
  · obtain ⟨p, hp, rfl⟩ := List.mem_map.1 hs
    obtain ⟨x, hx, rfl, hg, _⟩ := (mem_tops hF).1 (List.mem_reverse.1 hp)
    refine ⟨fun a b ha hb e => ?_, fun h => absurd rfl h, fun _ => by show (findA F x.p).isSome = true; rw [find_of_mem hF.sorted hx]; rfl⟩
    have ha' : findA F x.p = some a := ha
    have hb' : findA T x.p = some b := hb
    rw [find_of_mem hF.sorted hx] at ha'
    cases ha'
    unfold goesB at hg
    rw [hb', e] at hg
    simp at hg
  · obtain ⟨y, hy, rfl⟩ := List.mem_map.1 hs
    obtain ⟨hyT, hk⟩ := List.mem_filter.1 hy
    have hp : (newA y).p = y.p ∧ (newA y).k ≠ 1 := by unfold newA; split <;> simp
    rw [hp.1]
    refine ⟨fun a b ha hb e => ?_, fun _ => by rw [find_of_mem hT.sorted hyT]; rfl, fun h => absurd h hp.2⟩
    rw [find_of_mem hT.sorted hyT] at hb
    cases hb
    subst e
    obtain ⟨hyF, _⟩ := find_some ha
    cases hg : goneB F T a.p
    · rw [kept_of hF hyF rfl hg (.inr rfl)] at hk
      cases hk
    · obtain ⟨z, hz, hw, hgz⟩ := goneB_iff.1 hg
      by_cases e : z.p = a.p
      · obtain rfl := sorted_uniq hF.sorted hz hyF e
        unfold goesB at hgz
        rw [find_of_mem hT.sorted hyT] at hgz
        simp at hgz
      · obtain ⟨w, hwT, hwp, hwd⟩ := right_above hT (hF.nonempty hz) _ a (Nat.le_refl _) hyT hw e
        obtain ⟨v, hvF, hvp, hvd⟩ := right_above hF (hF.nonempty hz) _ a (Nat.le_refl _) hyF hw e
        obtain rfl := sorted_uniq hF.sorted hvF hz hvp
        unfold goesB at hgz
        rw [← hwp, find_of_mem hT.sorted hwT] at hgz
        simp only at hgz
        rw [hvd, hwd] at hgz
        cases hgz
def costA (l : List StA) : Nat := (l.map fun s => s.b.length).sum
theorem cost_app (a b : List StA) : costA (a ++ b) = costA a + costA b := by unfold costA; rw [List.map_append, List.sum_append]
theorem cost_rems : ∀ l : List (List UInt8), costA (l.map remA) = 0
  | [] => rfl
  | p :: r => by
    have := cost_rems r
    unfold costA at this ⊢
    rw [List.map_cons, List.map_cons, List.sum_cons, this]
    rfl
theorem make_cost (F T : List AIt) : costA (makeA F T).1 ≤ bytesA T := by
  have key : ∀ (all : List (List UInt8)) (T : List AIt), costA (makeL F all T) ≤ bytesA T := by
    intro all T
    unfold makeL costA bytesA
    induction T with
    | nil => exact Nat.zero_le _
    | cons y r ih =>
      rw [List.filter_cons, List.map_cons, List.sum_cons]
      split
      · rw [List.map_cons, List.map_cons, List.sum_cons]
        have : (newA y).b.length ≤ y.b.length := by unfold newA; split <;> simp
        omega
      · omega
  unfold makeA
  split
  · exact Nat.zero_le _
  · rw [cost_app, cost_rems, Nat.zero_add]
    exact key _ _
theorem make_len (hF : RightP F) (hT : RightP T) : (makeA F T).1.length ≤ F.length + T.length := by
  rw [makeA_right hF hT, goneA_eq hF]
  simp only
  rw [List.length_append, List.length_map, List.length_reverse, List.length_map]
  unfold makeL
  rw [List.length_map]
  exact Nat.add_le_add (List.length_filter_le _ _) (List.length_filter_le _ _)
end

end Go.Proofs.YtfbbjfbnkcklgaaGreatDoor
