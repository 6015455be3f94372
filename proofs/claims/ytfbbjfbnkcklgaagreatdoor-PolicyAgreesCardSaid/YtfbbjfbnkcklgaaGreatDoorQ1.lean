/- steps, as plain lists: what they make; which steps there are between two trees -/
import Derived.Test.YtfbbjfbnkcklgaaGreatDoorW1
namespace Go.Proofs.YtfbbjfbnkcklgaaGreatDoor
open Go.RowKit

/-- a step -/
structure StA where
  k : Int
  p : List UInt8
  b : List Int
  deriving DecidableEq

def stRight (s : StA) : Bool := decide (s.k ≥ 1) && decide (s.k ≤ 3) && pathB s.p && (s.k == 3 || s.b.length == 0) && decide (s.b.length ≤ 2000)
def onA (t : List AIt) (s : StA) : List AIt × Int := if s.k = 1 then removeA t s.p true else if s.k = 2 then mkdirA t s.p else writeA t s.p s.b
def sdoA (t : List AIt) (s : StA) : List AIt × Int := if stRight s = false then ([], 1) else onA t s
def srunA : List AIt → List StA → Nat → List AIt × Nat × Int
  | t, [], i => (t, i, 0)
  | t, s :: r, i => if (sdoA t s).2 = 0 then srunA (sdoA t s).1 r (i + 1) else (t, i, (sdoA t s).2)

/-- has the other tree nothing of this kind there? -/
def goesB (T : List AIt) (x : AIt) : Bool := match findA T x.p with
  | none => true
  | some y => x.d != y.d
def goneF (T : List AIt) (s : List (List UInt8) × List (List UInt8)) (x : AIt) : List (List UInt8) × List (List UInt8) :=
  if (splitL x.p).1 ∈ s.1 then (s.1 ++ [x.p], s.2) else if goesB T x = true then (s.1 ++ [x.p], s.2 ++ [x.p]) else s
def goneA (F T : List AIt) : List (List UInt8) × List (List UInt8) := F.foldl (goneF T) ([], [])
def newA (y : AIt) : StA := if y.d = true then ⟨2, y.p, []⟩ else ⟨3, y.p, y.b⟩
/-- is an item there, and stays? -/
def keptB (F : List AIt) (all : List (List UInt8)) (y : AIt) : Bool := match findA F y.p with
  | none => false
  | some x => !decide (y.p ∈ all) && (y.d || decide (x.b = y.b))
def makeL (F : List AIt) (all : List (List UInt8)) (T : List AIt) : List StA := (T.filter fun y => !keptB F all y).map newA
def remA (p : List UInt8) : StA := ⟨1, p, []⟩
def makeA (F T : List AIt) : List StA × Int :=
  if rightA F = false ∨ rightA T = false then ([], 1) else ((goneA F T).2.reverse.map remA ++ makeL F (goneA F T).1 T, 0)

/-- does a path go, with what leads to it? -/
def goneB (F T : List AIt) (p : List UInt8) : Bool := F.any fun x => withinA x.p p && goesB T x
theorem goneB_iff {F T : List AIt} {p : List UInt8} : goneB F T p = true ↔ ∃ x ∈ F, withinA x.p p = true ∧ goesB T x = true := by
  unfold goneB
  simp only [List.any_eq_true, Bool.and_eq_true]

theorem less_pref : ∀ a b : List UInt8, Op.bytesLess (a ++ b) a = false
  | [], b => by cases b <;> simp [Op.bytesLess]
  | x :: a, b => by
    have := less_pref a b
    simp [Op.bytesLess, this]
theorem within_self (p : List UInt8) : withinA p p = true := within_iff.2 (.inl rfl)
theorem within_trans {a b c : List UInt8} (hb : b ≠ []) (h1 : withinA a b = true) (h2 : withinA b c = true) : withinA a c = true := by
  rw [within_iff] at *
  rcases h2 with rfl | h2 | ⟨s, rfl⟩
  · exact h1
  · exact absurd h2 hb
  · rcases h1 with rfl | h1 | ⟨r, rfl⟩
    · exact .inr (.inr ⟨s, rfl⟩)
    · exact .inr (.inl h1)
    · exact .inr (.inr ⟨r ++ 47 :: s, by simp⟩)
/-- what a path is within, it is, or its directory is within -/
theorem within_up {q p : List UInt8} (hp : pathB p = true) (hq : q ≠ []) (hne : q ≠ p) (hw : withinA q p = true) : (splitL p).1 ≠ [] ∧ withinA q (splitL p).1 = true := by
  rw [split_fst hp]
  rw [within_iff] at hw
  rcases hw with hw | hw | ⟨s, hw⟩
  · exact absurd hw.symm hne
  · exact absurd hw hq
  · have hdn : dirL p ≠ [] := by
      have hm : 47 ∈ p := by rw [hw]; simp
      obtain ⟨i, h1, h2⟩ := last_slash hm
      rw [dirL_slash h1 h2]
      intro e
      have hi : i = 0 := by
        have h4 := congrArg List.length e
        rw [List.length_take] at h4
        have h5 := (List.getElem?_eq_some_iff.1 h1).1
        have h6 : ([] : List UInt8).length = 0 := rfl
        omega
      subst hi
      cases q with
      | nil => exact hq rfl
      | cons b q =>
        rw [hw] at h2
        simp at h2
    refine ⟨hdn, ?_⟩
    obtain ⟨m, e, hm⟩ := dir_form hdn
    rw [within_iff]
    rcases cut_two (hw.symm.trans e) hm with h1 | ⟨s', h1⟩
    · exact .inl h1.symm
    · exact .inr (.inr ⟨s', h1⟩)
theorem dir_len {p : List UInt8} (hp : pathB p = true) (hd : (splitL p).1 ≠ []) : (splitL p).1.length < p.length := by
  rw [split_fst hp] at *
  obtain ⟨m, e, _⟩ := dir_form hd
  have h2 := congrArg List.length e
  rw [List.length_append, List.length_cons] at h2
  omega
theorem dirs_less {p : List UInt8} (hp : pathB p = true) (hd : (splitL p).1 ≠ []) : Op.bytesLess p (splitL p).1 = false := by
  rw [split_fst hp] at *
  obtain ⟨m, e, _⟩ := dir_form hd
  conv => lhs; arg 1; rw [e]
  exact less_pref _ _
theorem dir_within {p : List UInt8} (hp : pathB p = true) (hd : (splitL p).1 ≠ []) : withinA (splitL p).1 p = true := within_dir hp hd (within_self _)

section
variable {F T : List AIt}
theorem RightP.path (h : RightP F) {x : AIt} (hx : x ∈ F) : pathB x.p = true := (h.each x hx).1.1
theorem RightP.nonempty (h : RightP F) {x : AIt} (hx : x ∈ F) : x.p ≠ [] := path_ne (h.path hx)
theorem gone_nil (hF : RightP F) : goneB F T [] = false := by
  cases h : goneB F T []
  · rfl
  · obtain ⟨x, hx, hw, _⟩ := goneB_iff.1 h
    rw [within_iff] at hw
    rcases hw with hw | hw | ⟨s, hw⟩
    · exact absurd hw.symm (hF.nonempty hx)
    · exact absurd hw (hF.nonempty hx)
    · cases hp : x.p <;> rw [hp] at hw <;> simp at hw
theorem gone_step (hF : RightP F) {x : AIt} (hx : x ∈ F) : goneB F T x.p = (goneB F T (splitL x.p).1 || goesB T x) := by
  rw [Bool.eq_iff_iff, Bool.or_eq_true]
  constructor
  · intro h
    obtain ⟨z, hz, hw, hg⟩ := goneB_iff.1 h
    by_cases e : z.p = x.p
    · rw [sorted_uniq hF.sorted hz hx e] at hg
      exact .inr hg
    · exact .inl (goneB_iff.2 ⟨z, hz, (within_up (hF.path hx) (hF.nonempty hz) e hw).2, hg⟩)
  · rintro (h | h)
    · obtain ⟨z, hz, hw, hg⟩ := goneB_iff.1 h
      refine goneB_iff.2 ⟨z, hz, ?_, hg⟩
      by_cases hd : (splitL x.p).1 = []
      · rw [hd, gone_nil hF] at h; cases h
      · exact within_dir (hF.path hx) hd hw
    · exact goneB_iff.2 ⟨x, hx, within_self _, h⟩
/-- the fold's state behind the first items -/
theorem gone_fold (hF : RightP F) : ∀ (B A : List AIt), F = A ++ B → B.foldl (goneF T) ((A.filter fun x => goneB F T x.p).map (·.p), (A.filter fun x => goesB T x && !goneB F T (splitL x.p).1).map (·.p)) =
    ((F.filter fun x => goneB F T x.p).map (·.p), (F.filter fun x => goesB T x && !goneB F T (splitL x.p).1).map (·.p))
  | [], A, h => by rw [h]; simp
  | x :: B, A, h => by
    have hx : x ∈ F := by rw [h]; simp
    have hdir : (splitL x.p).1 ∈ (A.filter fun x => goneB F T x.p).map (·.p) ↔ goneB F T (splitL x.p).1 = true := by
      constructor
      · intro hm
        obtain ⟨z, hz, e⟩ := List.mem_map.1 hm
        rw [← e]
        exact (List.mem_filter.1 hz).2
      · intro hg
        have hd : (splitL x.p).1 ≠ [] := fun e => by rw [e, gone_nil hF] at hg; cases hg
        rcases (hF.each x hx).2 with h0 | ⟨y, hy, hp, _⟩
        · exact absurd h0 hd
        · refine List.mem_map.2 ⟨y, List.mem_filter.2 ⟨?_, by rw [hp]; exact hg⟩, hp⟩
          have hs := hF.sorted
          rw [h] at hs hy
          rcases List.mem_append.1 hy with hy | hy
          · exact hy
          · exfalso
            have hl := dirs_less (hF.path hx) hd
            rcases List.mem_cons.1 hy with hy | hy
            · have h5 := dir_len (hF.path hx) hd
              rw [← hp, hy] at h5
              omega
            · have h6 := (List.pairwise_cons.1 (List.pairwise_append.1 hs).2.1).1 y hy
              rw [hp, hl] at h6
              cases h6
    rw [List.foldl_cons]
    have key : goneF T ((A.filter fun x => goneB F T x.p).map (·.p), (A.filter fun x => goesB T x && !goneB F T (splitL x.p).1).map (·.p)) x =
        (((A ++ [x]).filter fun x => goneB F T x.p).map (·.p), ((A ++ [x]).filter fun x => goesB T x && !goneB F T (splitL x.p).1).map (·.p)) := by
      unfold goneF
      have hst := gone_step (T := T) hF hx
      simp only [List.filter_append, List.map_append, List.filter_cons, List.filter_nil]
      cases hg : goneB F T (splitL x.p).1
      · have hn : ¬ (splitL x.p).1 ∈ (A.filter fun x => goneB F T x.p).map (·.p) := fun hm => by rw [hdir.1 hm] at hg; cases hg
        rw [if_neg hn]
        rw [hg] at hst
        cases hgo : goesB T x
        · rw [hgo] at hst
          simp [hst]
        · rw [hgo] at hst
          simp [hst]
      · rw [if_pos (hdir.2 hg)]
        rw [hg] at hst
        simp [hst]
    rw [key]
    exact gone_fold hF B (A ++ [x]) (by rw [h]; simp)
theorem goneA_eq (hF : RightP F) : goneA F T = ((F.filter fun x => goneB F T x.p).map (·.p), (F.filter fun x => goesB T x && !goneB F T (splitL x.p).1).map (·.p)) := gone_fold hF F [] rfl
theorem mem_all (hF : RightP F) {p : List UInt8} : p ∈ (goneA F T).1 ↔ (∃ x ∈ F, x.p = p) ∧ goneB F T p = true := by
  rw [goneA_eq hF]
  constructor
  · intro h
    obtain ⟨x, hx, rfl⟩ := List.mem_map.1 h
    exact ⟨⟨x, (List.mem_filter.1 hx).1, rfl⟩, (List.mem_filter.1 hx).2⟩
  · rintro ⟨⟨x, hx, rfl⟩, h⟩
    exact List.mem_map.2 ⟨x, List.mem_filter.2 ⟨hx, h⟩, rfl⟩
theorem mem_tops (hF : RightP F) {p : List UInt8} : p ∈ (goneA F T).2 ↔ ∃ x ∈ F, x.p = p ∧ goesB T x = true ∧ goneB F T (splitL p).1 = false := by
  rw [goneA_eq hF]
  constructor
  · intro h
    obtain ⟨x, hx, rfl⟩ := List.mem_map.1 h
    have h2 := (List.mem_filter.1 hx).2
    simp only [Bool.and_eq_true, Bool.not_eq_true'] at h2
    exact ⟨x, (List.mem_filter.1 hx).1, rfl, h2⟩
  · rintro ⟨x, hx, rfl, h1, h2⟩
    exact List.mem_map.2 ⟨x, List.mem_filter.2 ⟨hx, by simp [h1, h2]⟩, rfl⟩
/-- no top is within another one -/
theorem tops_apart (hF : RightP F) {a b : List UInt8} (ha : a ∈ (goneA F T).2) (hb : b ∈ (goneA F T).2) (hne : a ≠ b) : withinA a b = false := by
  obtain ⟨x, hx, rfl, hgx, _⟩ := (mem_tops hF).1 ha
  obtain ⟨y, hy, rfl, _, hgy⟩ := (mem_tops hF).1 hb
  cases hw : withinA x.p y.p
  · rfl
  · rw [goneB_iff.2 ⟨x, hx, (within_up (hF.path hy) (hF.nonempty hx) hne hw).2, hgx⟩] at hgy
    cases hgy
/-- what goes is within a top -/
theorem gone_top (hF : RightP F) : ∀ (n : Nat) (x : AIt) (p : List UInt8), x.p.length ≤ n → x ∈ F → withinA x.p p = true → goesB T x = true → ∃ t ∈ (goneA F T).2, withinA t p = true
  | 0, x, p, hn, hx, _, _ => by
    have := hF.nonempty hx
    cases hp : x.p <;> rw [hp] at hn this <;> simp at *
  | n + 1, x, p, hn, hx, hw, hg => by
    cases hgd : goneB F T (splitL x.p).1
    · exact ⟨x.p, (mem_tops hF).2 ⟨x, hx, rfl, hg, hgd⟩, hw⟩
    · have hd : (splitL x.p).1 ≠ [] := fun e => by rw [e, gone_nil hF] at hgd; cases hgd
      obtain ⟨z, hz, hzw, hzg⟩ := goneB_iff.1 hgd
      have h1 := within_len hzw
      have h2 := dir_len (hF.path hx) hd
      exact gone_top hF n z p (by omega) hz (within_trans (hF.nonempty hx) (within_dir (hF.path hx) hd hzw) hw) hzg
theorem gone_tops (hF : RightP F) {p : List UInt8} : goneB F T p = true ↔ ∃ t ∈ (goneA F T).2, withinA t p = true := by
  constructor
  · intro h
    obtain ⟨x, hx, hw, hg⟩ := goneB_iff.1 h
    exact gone_top hF _ x p (Nat.le_refl _) hx hw hg
  · rintro ⟨t, ht, hw⟩
    obtain ⟨x, hx, rfl, hg, _⟩ := (mem_tops hF).1 ht
    exact goneB_iff.2 ⟨x, hx, hw, hg⟩
theorem tops_distinct (hF : RightP F) : (goneA F T).2.Pairwise (· ≠ ·) := by
  rw [goneA_eq hF, List.pairwise_map]
  exact sorted_paths (hF.sorted.filter _)
end

/-- steps that are done, one behind the other, and at no time more than so many items -/
def okRun (M : Nat) : List AIt → List StA → List AIt → Prop
  | t, [], u => t = u
  | t, s :: r, u => (sdoA t s).2 = 0 ∧ (sdoA t s).1.length ≤ M ∧ okRun M (sdoA t s).1 r u
theorem okRun_append {M : Nat} : ∀ {a b : List StA} {t m u : List AIt}, okRun M t a m → okRun M m b u → okRun M t (a ++ b) u
  | [], _, _, _, _, h1, h2 => by cases h1; exact h2
  | s :: r, _, _, _, _, h1, h2 => ⟨h1.1, h1.2.1, okRun_append h1.2.2 h2⟩
theorem okRun_run {M : Nat} : ∀ {a : List StA} {t u : List AIt} (i : Nat), okRun M t a u → srunA t a i = (u, i + a.length, 0)
  | [], _, _, i, h => by cases h; rfl
  | s :: r, t, u, i, h => by
    unfold srunA
    rw [if_pos h.1, okRun_run (i + 1) h.2.2]
    simp only [List.length_cons]
    rw [Nat.add_assoc, Nat.add_comm 1]

/-- tops, removed one behind the other -/
theorem run_rems {M : Nat} : ∀ (ts : List (List UInt8)) {S : List AIt}, RightP S → S.length ≤ M → (∀ t ∈ ts, pathB t = true ∧ ∃ x ∈ S, x.p = t) → ts.Pairwise (fun a b => withinA a b = false) →
    okRun M S (ts.map remA) (S.filter fun z => !ts.any fun t => withinA t z.p) ∧ RightP (S.filter fun z => !ts.any fun t => withinA t z.p)
  | [], S, h, _, _, _ => by
    have : (S.filter fun z => !([] : List (List UInt8)).any fun t => withinA t z.p) = S := by simp
    rw [this]
    exact ⟨rfl, h⟩
  | t :: ts, S, h, hM, ht, hp => by
    obtain ⟨hpt, x, hx, hxp⟩ := ht t (by simp)
    obtain ⟨hp1, hp2⟩ := List.pairwise_cons.1 hp
    have hfs : (findA S t).isSome = true := by rw [← hxp, find_of_mem h.sorted hx]; rfl
    have hdo : sdoA S (remA t) = (withoutA S t, 0) := by
      unfold sdoA remA
      rw [show stRight ⟨1, t, []⟩ = true by unfold stRight; rw [hpt]; rfl]
      simp only [Bool.true_eq_false, if_false]
      unfold onA
      simp only [if_true]
      unfold removeA
      rw [right_iff.2 h, hpt, hfs]
      simp
    have hlen : (withoutA S t).length ≤ M := Nat.le_trans (List.length_filter_le _ _) hM
    have hr := right_without h t
    obtain ⟨h1, h2⟩ := run_rems ts hr hlen (fun s hs => by
      obtain ⟨a, y, hy, hyp⟩ := ht s (List.mem_cons_of_mem _ hs)
      refine ⟨a, y, List.mem_filter.2 ⟨hy, ?_⟩, hyp⟩
      rw [hyp, hp1 s hs]
      rfl) hp2
    have he : ((withoutA S t).filter fun z => !ts.any fun t => withinA t z.p) = S.filter fun z => !(t :: ts).any fun t => withinA t z.p := by
      unfold withoutA
      rw [List.filter_filter]
      refine List.filter_congr fun z _ => ?_
      rw [List.any_cons, Bool.not_or, Bool.and_comm]
    rw [he] at h1 h2
    refine ⟨?_, h2⟩
    rw [List.map_cons]
    refine ⟨by rw [hdo], by rw [hdo]; exact hlen, ?_⟩
    rw [hdo]
    exact h1

end Go.Proofs.YtfbbjfbnkcklgaaGreatDoor
