/- merged trees, as plain lists: what is merged, path by path -/
import Derived.Test.YtfbbjfbnkcklgaaGreatDoorQ1
namespace Go.Proofs.YtfbbjfbnkcklgaaGreatDoor
open Go.RowKit

abbrev Txt := List UInt8
/-- texts that rise -/
def sortedN (l : List Txt) : Prop := l.Pairwise fun a b => Op.bytesLess a b = true
/-- a text among texts that rise -/
def putN (l : List Txt) (s : Txt) : List Txt := l.filter (fun y => Op.bytesLess y s) ++ s :: l.filter (fun y => Op.bytesLess s y)
theorem mem_putN {l : List Txt} {s z : Txt} : z ∈ putN l s ↔ z = s ∨ z ∈ l := by
  unfold putN
  simp only [List.mem_append, List.mem_filter, List.mem_cons]
  constructor
  · rintro (⟨h, _⟩ | rfl | ⟨h, _⟩)
    · exact .inr h
    · exact .inl rfl
    · exact .inr h
  · rintro (rfl | h)
    · exact .inr (.inl rfl)
    · by_cases e : z = s
      · exact .inr (.inl e)
      · rcases less_or e with h1 | h1
        · exact .inl ⟨h, h1⟩
        · exact .inr (.inr ⟨h, h1⟩)
theorem putN_sorted {l : List Txt} (h : sortedN l) (s : Txt) : sortedN (putN l s) := by
  unfold putN sortedN
  rw [List.pairwise_append, List.pairwise_cons]
  refine ⟨h.filter _, ⟨fun y hy => (List.mem_filter.1 hy).2, h.filter _⟩, fun a ha b hb => ?_⟩
  have h1 := (List.mem_filter.1 ha).2
  rcases List.mem_cons.1 hb with rfl | hb
  · exact h1
  · exact less_trans h1 (List.mem_filter.1 hb).2
theorem sortedN_ext {a b : List Txt} (ha : sortedN a) (hb : sortedN b) (h : ∀ z, z ∈ a ↔ z ∈ b) : a = b := by
  have key : ∀ l : List Txt, sortedN l → sortedA (l.map fun p => ⟨p, false, []⟩) := fun l hl => by
    unfold sortedA
    rw [List.pairwise_map]
    exact hl
  have h1 := sorted_ext (key a ha) (key b hb) (fun z => by
    simp only [List.mem_map]
    constructor
    · rintro ⟨p, hp, rfl⟩; exact ⟨p, (h p).1 hp, rfl⟩
    · rintro ⟨p, hp, rfl⟩; exact ⟨p, (h p).2 hp, rfl⟩)
  have h2 := congrArg (List.map AIt.p) h1
  simpa [List.map_map, Function.comp_def] using h2
theorem foldN_sorted : ∀ (l acc : List Txt), sortedN acc → sortedN (l.foldl putN acc)
  | [], _, h => h
  | s :: r, acc, h => foldN_sorted r (putN acc s) (putN_sorted h s)
theorem mem_foldN {z : Txt} : ∀ (l acc : List Txt), z ∈ l.foldl putN acc ↔ z ∈ acc ∨ z ∈ l
  | [], acc => by simp
  | s :: r, acc => by
    rw [List.foldl_cons, mem_foldN r, mem_putN, List.mem_cons]
    constructor
    · rintro ((h | h) | h)
      · exact .inr (.inl h)
      · exact .inl h
      · exact .inr (.inr h)
    · rintro (h | h | h)
      · exact .inl (.inr h)
      · exact .inl (.inl h)
      · exact .inr h

def upT (t : Txt) : Txt := (splitL t).1
/-- the paths of one part more than p -/
def kidP (t : List AIt) (p : Txt) : List Txt := (t.filter fun x => upT x.p == p).map (·.p)
def namesA (o a b : List AIt) (p : Txt) : List Txt := (kidP o p ++ kidP a p ++ kidP b p).foldl putN []
theorem namesA_sorted (o a b : List AIt) (p : Txt) : sortedN (namesA o a b p) := foldN_sorted _ _ List.Pairwise.nil
theorem mem_kidP {t : List AIt} {p q : Txt} : q ∈ kidP t p ↔ upT q = p ∧ ∃ x ∈ t, x.p = q := by
  unfold kidP
  simp only [List.mem_map, List.mem_filter, beq_iff_eq]
  constructor
  · rintro ⟨x, ⟨hx, h⟩, rfl⟩; exact ⟨h, x, hx, rfl⟩
  · rintro ⟨h, x, hx, rfl⟩; exact ⟨x, ⟨hx, h⟩, rfl⟩
/-- is a path there? -/
def inU (o a b : List AIt) (q : Txt) : Prop := (∃ x ∈ o, x.p = q) ∨ (∃ x ∈ a, x.p = q) ∨ (∃ x ∈ b, x.p = q)
theorem mem_names {o a b : List AIt} {p q : Txt} : q ∈ namesA o a b p ↔ upT q = p ∧ inU o a b q := by
  unfold namesA inU
  rw [mem_foldN]
  simp only [List.mem_append, mem_kidP, List.not_mem_nil, false_or]
  constructor
  · rintro ((⟨h, x⟩ | ⟨h, x⟩) | ⟨h, x⟩)
    · exact ⟨h, .inl x⟩
    · exact ⟨h, .inr (.inl x)⟩
    · exact ⟨h, .inr (.inr x)⟩
  · rintro ⟨h, x | x | x⟩
    · exact .inl (.inl ⟨h, x⟩)
    · exact .inl (.inr ⟨h, x⟩)
    · exact .inr ⟨h, x⟩

/-- both sides alike, or the second as the ancestor: the first is taken -/
def takeA (o a b : List AIt) (q : Txt) : Bool := decide (underA a q = underA b q) || decide (underA b q = underA o q)
def firstO (o a : List AIt) (q : Txt) : Bool := decide (underA a q = underA o q)
def bothD (a b : List AIt) (q : Txt) : Bool := foundDir a q && foundDir b q
/-- both are directories, and neither side is as the ancestor, nor as the other: what is within is merged -/
def descB (o a b : List AIt) (q : Txt) : Bool := !takeA o a b q && !firstO o a q && bothD a b q
def confB (o a b : List AIt) (q : Txt) : Bool := !takeA o a b q && !firstO o a q && !bothD a b q
def ruleA (o a b : List AIt) (q : Txt) : List AIt := if takeA o a b q = true then underA a q else if firstO o a q = true then underA b q else underA a q
def ruleB (o a b : List AIt) (q : Txt) : List AIt := if takeA o a b q = true then underA a q else if firstO o a q = true then underA b q else underA b q
def ruleO (o a b : List AIt) (q : Txt) : List AIt := if takeA o a b q = true then underA a q else if firstO o a q = true then underA b q else underA o q

/-- one of the three merged trees, as it is collected -/
def mgX (N : Txt → List Txt) (D : Txt → Bool) (R : Txt → List AIt) : Nat → Txt → List AIt
  | 0, _ => []
  | n + 1, p => (N p).flatMap fun q => if D q = true then ⟨q, true, []⟩ :: mgX N D R n q else R q
/-- the conflicts, as they are collected -/
def mgC (N : Txt → List Txt) (D C : Txt → Bool) : Nat → Txt → List Txt
  | 0, _ => []
  | n + 1, p => (N p).flatMap fun q => if D q = true then mgC N D C n q else if C q = true then [q] else []

theorem flatMap_cong {α β : Type} {f g : α → List β} : ∀ {l : List α}, (∀ x ∈ l, f x = g x) → l.flatMap f = l.flatMap g
  | [], _ => rfl
  | x :: r, h => by rw [List.flatMap_cons, List.flatMap_cons, h x List.mem_cons_self, flatMap_cong fun y hy => h y (List.mem_cons_of_mem _ hy)]
theorem mgX_congr {N N' : Txt → List Txt} {D D' : Txt → Bool} {R R' : Txt → List AIt} (P : Txt → Prop) (hN : ∀ p, P p → N p = N' p) (hD : ∀ p, P p → ∀ q ∈ N p, D q = D' q ∧ R q = R' q ∧ (D q = true → P q)) : ∀ (n : Nat) (p : Txt), P p → mgX N D R n p = mgX N' D' R' n p
  | 0, _, _ => rfl
  | n + 1, p, hp => by
    unfold mgX
    rw [← hN p hp]
    refine flatMap_cong fun q hq => ?_
    obtain ⟨h1, h2, h3⟩ := hD p hp q hq
    rw [← h1, ← h2]
    by_cases hd : D q = true
    · rw [if_pos hd, if_pos hd, mgX_congr P hN hD n q (h3 hd)]
    · rw [if_neg hd, if_neg hd]
theorem mgC_congr {N N' : Txt → List Txt} {D D' C C' : Txt → Bool} (P : Txt → Prop) (hN : ∀ p, P p → N p = N' p) (hD : ∀ p, P p → ∀ q ∈ N p, D q = D' q ∧ C q = C' q ∧ (D q = true → P q)) : ∀ (n : Nat) (p : Txt), P p → mgC N D C n p = mgC N' D' C' n p
  | 0, _, _ => rfl
  | n + 1, p, hp => by
    unfold mgC
    rw [← hN p hp]
    refine flatMap_cong fun q hq => ?_
    obtain ⟨h1, h2, h3⟩ := hD p hp q hq
    rw [← h1, ← h2]
    by_cases hd : D q = true
    · rw [if_pos hd, if_pos hd, mgC_congr P hN hD n q (h3 hd)]
    · rw [if_neg hd, if_neg hd]

/-- three right trees -/
structure Right3 (o a b : List AIt) : Prop where
  o : RightP o
  a : RightP a
  b : RightP b
section
variable {o a b : List AIt}
theorem Right3.pathU (h : Right3 o a b) {q : Txt} (hq : inU o a b q) : pathB q = true := by
  rcases hq with ⟨x, hx, rfl⟩ | ⟨x, hx, rfl⟩ | ⟨x, hx, rfl⟩
  · exact h.o.path hx
  · exact h.a.path hx
  · exact h.b.path hx
theorem up_within {p q : Txt} (hq : pathB q = true) (h : upT q = p) : withinA p q = true := by
  by_cases hp : p = []
  · exact within_iff.2 (.inr (.inl hp))
  · rw [← h] at hp ⊢
    exact dir_within hq hp
theorem up_short {q : Txt} (hq : pathB q = true) : (upT q).length < q.length := by
  by_cases hp : upT q = []
  · rw [hp]
    have := path_ne hq
    exact List.length_pos_iff.2 this
  · exact dir_len hq hp
/-- two texts that one is within are one within the other -/
theorem within_two {q r t : Txt} (h1 : withinA q t = true) (h2 : withinA r t = true) (hq : q ≠ []) (hr : r ≠ []) : withinA q r = true ∨ withinA r q = true := by
  rw [within_iff] at h1 h2
  rcases h1 with rfl | h1 | ⟨s, h1⟩
  · exact .inr (within_iff.2 h2)
  · exact absurd h1 hq
  · rcases h2 with rfl | h2 | ⟨u, h2⟩
    · exact .inl (within_iff.2 (.inr (.inr ⟨s, h1⟩)))
    · exact absurd h2 hr
    · have e := h1.symm.trans h2
      rcases List.append_eq_append_iff.1 e with ⟨c, hc, hd⟩ | ⟨c, hc, hd⟩
      · cases c with
        | nil => exact .inl (within_iff.2 (.inl (by simpa using hc)))
        | cons x c =>
          simp only [List.cons_append, List.cons.injEq] at hd
          obtain ⟨rfl, _⟩ := hd
          exact .inl (within_iff.2 (.inr (.inr ⟨c, hc⟩)))
      · cases c with
        | nil => exact .inr (within_iff.2 (.inl (by simpa using hc)))
        | cons x c =>
          simp only [List.cons_append, List.cons.injEq] at hd
          obtain ⟨rfl, _⟩ := hd
          exact .inr (within_iff.2 (.inr (.inr ⟨c, hc⟩)))
/-- two of one directory that have something in common are one -/
theorem kid_one {q r t p : Txt} (hq : pathB q = true) (hr : pathB r = true) (h1 : withinA q t = true) (h2 : withinA r t = true) (hp : upT q = p) (hp2 : upT r = p) : q = r := by
  have key : ∀ {q r : Txt}, pathB q = true → pathB r = true → upT q = p → upT r = p → withinA q r = true → q = r := fun {q r} hq hr hp hp2 h => by
    by_cases e : q = r
    · exact e
    · exfalso
      have h3 := (within_up hr (path_ne hq) e h).2
      have h4 := within_len h3
      have h5 := up_short hq
      rw [show (splitL r).1 = p from hp2] at h4
      rw [hp] at h5
      omega
  rcases within_two h1 h2 (path_ne hq) (path_ne hr) with h | h
  · exact key hq hr hp hp2 h
  · exact (key hr hq hp2 hp h).symm
/-- the path of one part more that leads to an item -/
theorem kid_toward {T : List AIt} (hT : RightP T) {p : Txt} : ∀ (n : Nat) (x : AIt), x.p.length ≤ n → x ∈ T → withinA p x.p = true → x.p ≠ p → ∃ y ∈ T, upT y.p = p ∧ withinA y.p x.p = true := by
  intro n
  induction n with
  | zero =>
    intro x hn hx _ _
    exact absurd (List.eq_nil_of_length_eq_zero (by omega)) (hT.nonempty hx)
  | succ n ih =>
    intro x hn hx hw hne
    by_cases hup : upT x.p = p
    · exact ⟨x, hx, hup, within_self _⟩
    · rcases (hT.each x hx).2 with h0 | ⟨y, hy, hyp, hyd⟩
      · exfalso
        by_cases hp : p = []
        · exact hup (h0.trans hp.symm)
        · exact (within_up (hT.path hx) hp (Ne.symm hne) hw).1 h0
      · have hw2 : withinA p y.p = true := by
          by_cases hp : p = []
          · exact within_iff.2 (.inr (.inl hp))
          · rw [hyp]; exact (within_up (hT.path hx) hp (Ne.symm hne) hw).2
        have hlen : y.p.length < x.p.length := by rw [hyp]; exact up_short (hT.path hx)
        obtain ⟨z, hz, h1, h2⟩ := ih y (by omega) hy hw2 (by rw [hyp]; exact hup)
        refine ⟨z, hz, h1, within_trans (hT.nonempty hy) h2 ?_⟩
        rw [hyp]
        by_cases hd : (splitL x.p).1 = []
        · rw [hyp, hd] at hlen
          have := hT.nonempty hy
          rw [hyp, hd] at this
          exact absurd rfl this
        · exact dir_within (hT.path hx) hd
theorem Right3.toward (h : Right3 o a b) {p t : Txt} (ht : inU o a b t) (hw : withinA p t = true) (hne : t ≠ p) : ∃ q, inU o a b q ∧ upT q = p ∧ withinA q t = true := by
  rcases ht with ⟨x, hx, rfl⟩ | ⟨x, hx, rfl⟩ | ⟨x, hx, rfl⟩
  · obtain ⟨y, hy, h1, h2⟩ := kid_toward h.o _ x (Nat.le_refl _) hx hw hne
    exact ⟨y.p, .inl ⟨y, hy, rfl⟩, h1, h2⟩
  · obtain ⟨y, hy, h1, h2⟩ := kid_toward h.a _ x (Nat.le_refl _) hx hw hne
    exact ⟨y.p, .inr (.inl ⟨y, hy, rfl⟩), h1, h2⟩
  · obtain ⟨y, hy, h1, h2⟩ := kid_toward h.b _ x (Nat.le_refl _) hx hw hne
    exact ⟨y.p, .inr (.inr ⟨y, hy, rfl⟩), h1, h2⟩

/-- all that leads to a path, and it, is merged within -/
def FreeT (o a b : List AIt) (t : Txt) : Prop := ∀ q, inU o a b q → withinA q t = true → descB o a b q = true
/-- the first on the way to a path that is not merged within -/
def StopT (o a b : List AIt) (q t : Txt) : Prop := inU o a b q ∧ withinA q t = true ∧ descB o a b q = false ∧ ∀ r, inU o a b r → withinA r q = true → r ≠ q → descB o a b r = true
theorem free_nil (h : Right3 o a b) : FreeT o a b [] := fun q hq hw => by
  exfalso
  have hne := path_ne (h.pathU hq)
  rw [within_iff] at hw
  rcases hw with hw | hw | ⟨s, hw⟩
  · exact hne hw.symm
  · exact hne hw
  · cases q <;> simp at hw
theorem free_kid (h : Right3 o a b) {p q : Txt} (hp : FreeT o a b p) (hq : inU o a b q) (hu : upT q = p) {r : Txt} (hr : inU o a b r) (hw : withinA r q = true) (hne : r ≠ q) : descB o a b r = true := by
  have h1 := (within_up (h.pathU hq) (path_ne (h.pathU hr)) hne hw).2
  exact hp r hr (by rw [← hu]; exact h1)
theorem stop_one (h : Right3 o a b) {q r t : Txt} (h1 : StopT o a b q t) (h2 : StopT o a b r t) : q = r := by
  by_cases e : q = r
  · exact e
  · exfalso
    rcases within_two h1.2.1 h2.2.1 (path_ne (h.pathU h1.1)) (path_ne (h.pathU h2.1)) with hw | hw
    · have := h2.2.2.2 q h1.1 hw e
      rw [h1.2.2.1] at this; cases this
    · have := h1.2.2.2 r h2.1 hw (Ne.symm e)
      rw [h2.2.2.1] at this; cases this
theorem stop_free {q t : Txt} (h1 : StopT o a b q t) (h2 : FreeT o a b t) : False := by
  have := h2 q h1.1 h1.2.1
  rw [h1.2.2.1] at this; cases this
theorem stop_or (h : Right3 o a b) (t : Txt) : FreeT o a b t ∨ ∃ q, StopT o a b q t := by
  by_cases hf : FreeT o a b t
  · exact .inl hf
  · refine .inr ?_
    have key : ∀ (n : Nat) (q : Txt), q.length ≤ n → inU o a b q → withinA q t = true → descB o a b q = false → ∃ q, StopT o a b q t := by
      intro n
      induction n with
      | zero =>
        intro q hn hq _ _
        exact absurd (List.eq_nil_of_length_eq_zero (by omega)) (path_ne (h.pathU hq))
      | succ n ih =>
        intro q hn hq hw hd
        by_cases hall : ∀ r, inU o a b r → withinA r q = true → r ≠ q → descB o a b r = true
        · exact ⟨q, hq, hw, hd, hall⟩
        · simp only [Classical.not_forall] at hall
          obtain ⟨r, hr, hrw, hne, hrd⟩ := hall
          have hlen : r.length < q.length := by
            have h1 := within_len hrw
            rcases Nat.lt_or_ge r.length q.length with h2 | h2
            · exact h2
            · exfalso
              rw [within_iff] at hrw
              rcases hrw with e | e | ⟨s, e⟩
              · exact hne e.symm
              · exact path_ne (h.pathU hr) e
              · have h3 := congrArg List.length e
                simp at h3
                omega
          exact ih r (by omega) hr (within_trans (path_ne (h.pathU hq)) hrw hw) (by simpa using hrd)
    unfold FreeT at hf
    simp only [Classical.not_forall] at hf
    obtain ⟨q, hq, hw, hd⟩ := hf
    exact key _ q (Nat.le_refl _) hq hw (by simpa using hd)

/-- what is collected: by the first on the way that is not merged within -/
theorem mem_mgX (h : Right3 o a b) {R : Txt → List AIt} (hR : ∀ q z, z ∈ R q → withinA q z.p = true ∧ inU o a b z.p) : ∀ (n : Nat) (p : Txt), FreeT o a b p → 126 ≤ p.length + n → ∀ z : AIt,
    z ∈ mgX (namesA o a b) (descB o a b) R n p ↔ withinA p z.p = true ∧ z.p ≠ p ∧ ((FreeT o a b z.p ∧ inU o a b z.p ∧ z = ⟨z.p, true, []⟩) ∨ ∃ q, StopT o a b q z.p ∧ z ∈ R q)
  | 0, p, _, hn, z => by
    unfold mgX
    constructor
    · intro h; cases h
    · rintro ⟨hw, hne, hz⟩
      exfalso
      have hu : inU o a b z.p := by
        rcases hz with ⟨_, hu, _⟩ | ⟨q, _, hz⟩
        · exact hu
        · exact (hR q z hz).2
      have h1 := pathB_short (h.pathU hu)
      have h2 := within_len hw
      omega
  | n + 1, p, hp, hn, z => by
    unfold mgX
    rw [List.mem_flatMap]
    constructor
    · rintro ⟨q, hq, hz⟩
      obtain ⟨hup, hqu⟩ := mem_names.1 hq
      have hqp := h.pathU hqu
      have hpq := up_within hqp hup
      have hsh := up_short hqp
      rw [hup] at hsh
      have strict : ∀ t, withinA q t = true → withinA p t = true ∧ t ≠ p := fun t ht => by
        refine ⟨within_trans (path_ne hqp) hpq ht, fun e => ?_⟩
        have := within_len ht
        rw [e] at this
        omega
      by_cases hd : descB o a b q = true
      · rw [if_pos hd] at hz
        have hfq : FreeT o a b q := fun r hr hw => by
          by_cases e : r = q
          · rw [e]; exact hd
          · exact free_kid h hp hqu hup hr hw e
        rcases List.mem_cons.1 hz with rfl | hz
        · obtain ⟨h1, h2⟩ := strict q (within_self q)
          exact ⟨h1, h2, .inl ⟨hfq, hqu, rfl⟩⟩
        · obtain ⟨h1, h2, h3⟩ := (mem_mgX h hR n q hfq (by omega) z).1 hz
          obtain ⟨h4, h5⟩ := strict z.p h1
          exact ⟨h4, h5, h3⟩
      · rw [if_neg hd] at hz
        obtain ⟨h1, _⟩ := hR q z hz
        obtain ⟨h4, h5⟩ := strict z.p h1
        exact ⟨h4, h5, .inr ⟨q, ⟨hqu, h1, by simpa using hd, fun r hr hw hne => free_kid h hp hqu hup hr hw hne⟩, hz⟩⟩
    · rintro ⟨hw, hne, hz⟩
      have hu : inU o a b z.p := by
        rcases hz with ⟨_, hu, _⟩ | ⟨q, _, hz⟩
        · exact hu
        · exact (hR q z hz).2
      obtain ⟨q, hqu, hup, hqz⟩ := h.toward hu hw hne
      refine ⟨q, mem_names.2 ⟨hup, hqu⟩, ?_⟩
      have hqp := h.pathU hqu
      have hsh := up_short hqp
      rw [hup] at hsh
      by_cases hd : descB o a b q = true
      · rw [if_pos hd]
        have hfq : FreeT o a b q := fun r hr hw => by
          by_cases e : r = q
          · rw [e]; exact hd
          · exact free_kid h hp hqu hup hr hw e
        by_cases e : z.p = q
        · rcases hz with ⟨_, _, hz⟩ | ⟨s, hs, _⟩
          · rw [hz, e]; exact List.mem_cons_self
          · exfalso
            rw [e] at hs
            exact stop_free hs hfq
        · exact List.mem_cons_of_mem _ ((mem_mgX h hR n q hfq (by omega) z).2 ⟨hqz, e, hz⟩)
      · rw [if_neg hd]
        have hst : StopT o a b q z.p := ⟨hqu, hqz, by simpa using hd, fun r hr hw hne => free_kid h hp hqu hup hr hw hne⟩
        rcases hz with ⟨hf, _, _⟩ | ⟨s, hs, hzs⟩
        · exact absurd hf fun hf => stop_free hst hf
        · rw [stop_one h hst hs]; exact hzs
theorem mem_mgC (h : Right3 o a b) : ∀ (n : Nat) (p : Txt), FreeT o a b p → 126 ≤ p.length + n → ∀ c : Txt,
    c ∈ mgC (namesA o a b) (descB o a b) (confB o a b) n p ↔ withinA p c = true ∧ c ≠ p ∧ StopT o a b c c ∧ confB o a b c = true
  | 0, p, _, hn, c => by
    unfold mgC
    constructor
    · intro h; cases h
    · rintro ⟨hw, hne, hs, _⟩
      exfalso
      have h1 := pathB_short (h.pathU hs.1)
      have h2 := within_len hw
      omega
  | n + 1, p, hp, hn, c => by
    unfold mgC
    rw [List.mem_flatMap]
    constructor
    · rintro ⟨q, hq, hz⟩
      obtain ⟨hup, hqu⟩ := mem_names.1 hq
      have hqp := h.pathU hqu
      have hpq := up_within hqp hup
      have hsh := up_short hqp
      rw [hup] at hsh
      have strict : ∀ t, withinA q t = true → withinA p t = true ∧ t ≠ p := fun t ht => by
        refine ⟨within_trans (path_ne hqp) hpq ht, fun e => ?_⟩
        have := within_len ht
        rw [e] at this
        omega
      by_cases hd : descB o a b q = true
      · rw [if_pos hd] at hz
        have hfq : FreeT o a b q := fun r hr hw => by
          by_cases e : r = q
          · rw [e]; exact hd
          · exact free_kid h hp hqu hup hr hw e
        obtain ⟨h1, h2, h3⟩ := (mem_mgC h n q hfq (by omega) c).1 hz
        obtain ⟨h4, h5⟩ := strict c h1
        exact ⟨h4, h5, h3⟩
      · rw [if_neg hd] at hz
        split at hz
        · rename_i hc
          obtain rfl : c = q := by simpa using hz
          obtain ⟨h4, h5⟩ := strict c (within_self c)
          exact ⟨h4, h5, ⟨hqu, within_self c, by simpa using hd, fun r hr hw hne => free_kid h hp hqu hup hr hw hne⟩, hc⟩
        · cases hz
    · rintro ⟨hw, hne, hs, hc⟩
      obtain ⟨q, hqu, hup, hqz⟩ := h.toward hs.1 hw hne
      refine ⟨q, mem_names.2 ⟨hup, hqu⟩, ?_⟩
      have hqp := h.pathU hqu
      have hsh := up_short hqp
      rw [hup] at hsh
      by_cases hd : descB o a b q = true
      · rw [if_pos hd]
        have hfq : FreeT o a b q := fun r hr hw => by
          by_cases e : r = q
          · rw [e]; exact hd
          · exact free_kid h hp hqu hup hr hw e
        exact (mem_mgC h n q hfq (by omega) c).2 ⟨hqz, (fun e => by rw [e] at hs; exact stop_free hs hfq), hs, hc⟩
      · rw [if_neg hd]
        have hst : StopT o a b q c := ⟨hqu, hqz, by simpa using hd, fun r hr hw hne => free_kid h hp hqu hup hr hw hne⟩
        obtain rfl := stop_one h hst hs
        rw [if_pos hc]
        exact List.mem_singleton.2 rfl
/-- no path comes twice -/
theorem mgX_distinct (h : Right3 o a b) {R : Txt → List AIt} (hR : ∀ q z, z ∈ R q → withinA q z.p = true ∧ inU o a b z.p) (hS : ∀ q, (R q).Pairwise fun x y => x.p ≠ y.p) : ∀ (n : Nat) (p : Txt), FreeT o a b p → 126 ≤ p.length + n →
    (mgX (namesA o a b) (descB o a b) R n p).Pairwise fun x y => x.p ≠ y.p
  | 0, _, _, _ => List.Pairwise.nil
  | n + 1, p, hp, hn => by
    unfold mgX
    have inner : ∀ q ∈ namesA o a b p, ∀ z ∈ (if descB o a b q = true then (⟨q, true, []⟩ : AIt) :: mgX (namesA o a b) (descB o a b) R n q else R q), withinA q z.p = true := fun q hq z hz => by
      obtain ⟨hup, hqu⟩ := mem_names.1 hq
      have hsh := up_short (h.pathU hqu)
      rw [hup] at hsh
      split at hz
      · rename_i hd
        have hfq : FreeT o a b q := fun r hr hw => by
          by_cases e : r = q
          · rw [e]; exact hd
          · exact free_kid h hp hqu hup hr hw e
        rcases List.mem_cons.1 hz with rfl | hz
        · exact within_self q
        · exact ((mem_mgX h hR n q hfq (by omega) z).1 hz).1
      · exact (hR q z hz).1
    rw [List.pairwise_flatMap]
    constructor
    · intro q hq
      obtain ⟨hup, hqu⟩ := mem_names.1 hq
      have hsh := up_short (h.pathU hqu)
      rw [hup] at hsh
      split
      · rename_i hd
        have hfq : FreeT o a b q := fun r hr hw => by
          by_cases e : r = q
          · rw [e]; exact hd
          · exact free_kid h hp hqu hup hr hw e
        rw [List.pairwise_cons]
        exact ⟨fun z hz e => ((mem_mgX h hR n q hfq (by omega) z).1 hz).2.1 e.symm, mgX_distinct h hR hS n q hfq (by omega)⟩
      · exact hS q
    · have hs : (namesA o a b p).Pairwise fun q r => q ≠ r := List.Pairwise.imp (fun h => less_ne h) (namesA_sorted o a b p)
      refine List.Pairwise.imp_of_mem (fun hq hr hne x hx y hy e => ?_) hs
      obtain ⟨hup, hqu⟩ := mem_names.1 hq
      obtain ⟨hup2, hru⟩ := mem_names.1 hr
      have h1 := inner _ hq x hx
      have h2 := inner _ hr y hy
      rw [e] at h1
      exact hne (kid_one (h.pathU hqu) (h.pathU hru) h1 h2 hup hup2)
end
end Go.Proofs.YtfbbjfbnkcklgaaGreatDoor

/- merged trees, as plain lists: what they have at each path; they are right; merged again, the other way around, with itself -/
namespace Go.Proofs.YtfbbjfbnkcklgaaGreatDoor
open Go.RowKit

def selA (o a b : List AIt) (q : Txt) : List AIt := if takeA o a b q = true then a else if firstO o a q = true then b else a
def selB (o a b : List AIt) (q : Txt) : List AIt := if takeA o a b q = true then a else b
def selO (o a b : List AIt) (q : Txt) : List AIt := if takeA o a b q = true then a else if firstO o a q = true then b else o
theorem ruleA_sel (o a b : List AIt) (q : Txt) : ruleA o a b q = underA (selA o a b q) q := by unfold ruleA selA; cases takeA o a b q <;> cases firstO o a q <;> rfl
theorem ruleB_sel (o a b : List AIt) (q : Txt) : ruleB o a b q = underA (selB o a b q) q := by unfold ruleB selB; cases takeA o a b q <;> cases firstO o a q <;> rfl
theorem ruleO_sel (o a b : List AIt) (q : Txt) : ruleO o a b q = underA (selO o a b q) q := by unfold ruleO selO; cases takeA o a b q <;> cases firstO o a q <;> rfl
def Sel (o a b : List AIt) (s : Txt → List AIt) : Prop := ∀ q, s q = o ∨ s q = a ∨ s q = b
theorem sel_A (o a b : List AIt) : Sel o a b (selA o a b) := fun q => by unfold selA; cases takeA o a b q <;> cases firstO o a q <;> simp
theorem sel_B (o a b : List AIt) : Sel o a b (selB o a b) := fun q => by unfold selB; cases takeA o a b q <;> cases firstO o a q <;> simp
theorem sel_O (o a b : List AIt) : Sel o a b (selO o a b) := fun q => by unfold selO; cases takeA o a b q <;> cases firstO o a q <;> simp

/-- as it is collected; as it is -/
def mgL (o a b : List AIt) (s : Txt → List AIt) : List AIt := mgX (namesA o a b) (descB o a b) (fun q => underA (s q) q) 126 []
def mgT (o a b : List AIt) (s : Txt → List AIt) : List AIt := putsA [] (mgL o a b s)
def mgCs (o a b : List AIt) : List Txt := mgC (namesA o a b) (descB o a b) (confB o a b) 126 []

theorem mem_under {T : List AIt} {q : Txt} {z : AIt} : z ∈ underA T q ↔ z ∈ T ∧ withinA q z.p = true := by unfold underA; rw [List.mem_filter]
theorem under_sorted {T : List AIt} (h : sortedA T) (q : Txt) : sortedA (underA T q) := h.filter _
theorem find_iff {T : List AIt} (h : sortedA T) {t : Txt} {z : AIt} : findA T t = some z ↔ z ∈ T ∧ z.p = t := ⟨find_some, fun ⟨h1, h2⟩ => by rw [← h2]; exact find_of_mem h h1⟩
theorem find_none_iff {T : List AIt} {t : Txt} : findA T t = none ↔ ∀ z ∈ T, z.p ≠ t := by
  constructor
  · intro h; exact find_none (by rw [h]; rfl)
  · intro h
    cases hf : findA T t with
    | none => rfl
    | some z => exact absurd (find_some hf).2 (h z (find_some hf).1)
theorem find_under {T : List AIt} {q t : Txt} (hw : withinA q t = true) (h : sortedA T) : findA (underA T q) t = findA T t := by
  cases hf : findA T t with
  | none =>
    rw [find_none_iff] at hf ⊢
    exact fun z hz => hf z (mem_under.1 hz).1
  | some z =>
    rw [find_iff h] at hf
    rw [find_iff (under_sorted h q), mem_under]
    exact ⟨⟨hf.1, by rw [hf.2]; exact hw⟩, hf.2⟩
theorem find_ext {S T : List AIt} (hS : sortedA S) (hT : sortedA T) (h : ∀ t, findA S t = findA T t) : S = T := by
  refine sorted_ext hS hT fun z => ?_
  have h1 := h z.p
  constructor
  · intro hz
    rw [find_of_mem hS hz] at h1
    exact (find_some h1.symm).1
  · intro hz
    rw [find_of_mem hT hz] at h1
    exact (find_some h1).1
theorem underL_eq {S T : List AIt} (hS : sortedA S) (hT : sortedA T) {q : Txt} : underA S q = underA T q ↔ ∀ t, withinA q t = true → findA S t = findA T t := by
  constructor
  · intro h t hw
    rw [← find_under hw hS, ← find_under hw hT, h]
  · intro h
    refine find_ext (under_sorted hS q) (under_sorted hT q) fun t => ?_
    by_cases hw : withinA q t = true
    · rw [find_under hw hS, find_under hw hT, h t hw]
    · have key : ∀ X : List AIt, findA (underA X q) t = none := fun X => by
        rw [find_none_iff]
        intro z hz e
        rw [← e] at hw
        exact hw (mem_under.1 hz).2
      rw [key, key]

section
variable {o a b : List AIt} {s : Txt → List AIt}
theorem Right3.sel (h : Right3 o a b) (hs : Sel o a b s) (q : Txt) : RightP (s q) := by
  rcases hs q with e | e | e <;> rw [e]
  · exact h.o
  · exact h.a
  · exact h.b
theorem sel_in (hs : Sel o a b s) {q : Txt} {z : AIt} (hz : z ∈ s q) : inU o a b z.p := by
  rcases hs q with e | e | e <;> rw [e] at hz
  · exact .inl ⟨z, hz, rfl⟩
  · exact .inr (.inl ⟨z, hz, rfl⟩)
  · exact .inr (.inr ⟨z, hz, rfl⟩)
theorem hR_of (hs : Sel o a b s) : ∀ q z, z ∈ underA (s q) q → withinA q z.p = true ∧ inU o a b z.p := fun _ _ hz => ⟨(mem_under.1 hz).2, sel_in hs (mem_under.1 hz).1⟩
theorem within_nil (t : Txt) : withinA [] t = true := within_iff.2 (.inr (.inl rfl))
theorem mem_mgL (h : Right3 o a b) (hs : Sel o a b s) {z : AIt} : z ∈ mgL o a b s ↔ (FreeT o a b z.p ∧ inU o a b z.p ∧ z = ⟨z.p, true, []⟩) ∨ ∃ q, StopT o a b q z.p ∧ z ∈ underA (s q) q := by
  unfold mgL
  rw [mem_mgX h (hR_of hs) 126 [] (free_nil h) (by simp)]
  constructor
  · exact fun h => h.2.2
  · intro hz
    refine ⟨within_nil _, path_ne (h.pathU ?_), hz⟩
    rcases hz with ⟨_, hu, _⟩ | ⟨q, _, hz⟩
    · exact hu
    · exact (hR_of hs q z hz).2
theorem mgL_distinct (h : Right3 o a b) (hs : Sel o a b s) : (mgL o a b s).Pairwise fun x y => x.p ≠ y.p :=
  mgX_distinct h (hR_of hs) (fun q => sorted_paths (under_sorted (h.sel hs q).sorted q)) 126 [] (free_nil h) (by simp)
theorem mem_mgT (h : Right3 o a b) (hs : Sel o a b s) {z : AIt} : z ∈ mgT o a b s ↔ (FreeT o a b z.p ∧ inU o a b z.p ∧ z = ⟨z.p, true, []⟩) ∨ ∃ q, StopT o a b q z.p ∧ z ∈ underA (s q) q := by
  rw [← mem_mgL h hs]
  unfold mgT
  rw [mem_puts (mgL_distinct h hs)]
  constructor
  · rintro (h | ⟨h, _⟩)
    · exact h
    · cases h
  · exact .inl
theorem mgT_sorted (o a b : List AIt) (s : Txt → List AIt) : sortedA (mgT o a b s) := puts_sorted List.Pairwise.nil _
theorem mgT_in (h : Right3 o a b) (hs : Sel o a b s) {z : AIt} (hz : z ∈ mgT o a b s) : inU o a b z.p := by
  rcases (mem_mgT h hs).1 hz with ⟨_, hu, _⟩ | ⟨q, _, hz⟩
  · exact hu
  · exact (hR_of hs q z hz).2
theorem find_free (h : Right3 o a b) (hs : Sel o a b s) {t : Txt} (hf : FreeT o a b t) (hu : inU o a b t) : findA (mgT o a b s) t = some ⟨t, true, []⟩ :=
  (find_iff (mgT_sorted o a b s)).2 ⟨(mem_mgT h hs).2 (.inl ⟨hf, hu, rfl⟩), rfl⟩
theorem find_out (h : Right3 o a b) (hs : Sel o a b s) {t : Txt} (hu : ¬ inU o a b t) : findA (mgT o a b s) t = none := by
  rw [find_none_iff]
  rintro z hz rfl
  exact hu (mgT_in h hs hz)
theorem find_stop (h : Right3 o a b) (hs : Sel o a b s) {q t : Txt} (hq : StopT o a b q t) : findA (mgT o a b s) t = findA (s q) t := by
  cases hf : findA (s q) t with
  | none =>
    rw [find_none_iff] at hf ⊢
    rintro z hz rfl
    rcases (mem_mgT h hs).1 hz with ⟨hfr, _, _⟩ | ⟨r, hr, hz⟩
    · exact stop_free hq hfr
    · rw [stop_one h hr hq] at hz
      exact hf z (mem_under.1 hz).1 rfl
  | some z =>
    rw [find_iff (h.sel hs q).sorted] at hf
    rw [find_iff (mgT_sorted o a b s)]
    obtain ⟨h1, rfl⟩ := hf
    exact ⟨(mem_mgT h hs).2 (.inr ⟨q, hq, mem_under.2 ⟨h1, hq.2.1⟩⟩), rfl⟩
theorem free_up (h : Right3 o a b) {t : Txt} (ht : inU o a b t) (hf : FreeT o a b t) : FreeT o a b (upT t) := fun q hq hw => by
  by_cases hd : upT t = []
  · rw [hd] at hw
    exact free_nil h q hq hw
  · exact hf q hq (within_trans hd hw (dir_within (h.pathU ht) hd))
theorem stop_up (h : Right3 o a b) {q : Txt} (hq : StopT o a b q q) : FreeT o a b (upT q) := fun r hr hw => by
  by_cases hd : upT q = []
  · rw [hd] at hw
    exact free_nil h r hr hw
  · have hp := h.pathU hq.1
    have h1 := within_trans hd hw (dir_within hp hd)
    refine hq.2.2.2 r hr h1 fun e => ?_
    have h2 := within_len hw
    have h3 := up_short hp
    rw [e] at h2
    omega
theorem up_in (h : Right3 o a b) {t : Txt} (ht : inU o a b t) (hd : upT t ≠ []) : inU o a b (upT t) := by
  rcases ht with ⟨x, hx, rfl⟩ | ⟨x, hx, rfl⟩ | ⟨x, hx, rfl⟩
  · rcases (h.o.each x hx).2 with h0 | ⟨y, hy, hp, _⟩
    · exact absurd h0 hd
    · exact .inl ⟨y, hy, hp⟩
  · rcases (h.a.each x hx).2 with h0 | ⟨y, hy, hp, _⟩
    · exact absurd h0 hd
    · exact .inr (.inl ⟨y, hy, hp⟩)
  · rcases (h.b.each x hx).2 with h0 | ⟨y, hy, hp, _⟩
    · exact absurd h0 hd
    · exact .inr (.inr ⟨y, hy, hp⟩)
theorem right_mgT (h : Right3 o a b) (hs : Sel o a b s) (hl : (mgT o a b s).length ≤ 60) : RightP (mgT o a b s) := by
  refine ⟨hl, mgT_sorted o a b s, fun z hz => ?_⟩
  have hzu := mgT_in h hs hz
  rcases (mem_mgT h hs).1 hz with ⟨hf, hu, e⟩ | ⟨q, hq, hzq⟩
  · refine ⟨by rw [e]; exact ⟨h.pathU hu, by simp, by simp⟩, ?_⟩
    by_cases hd : upT z.p = []
    · exact .inl hd
    · exact .inr ⟨⟨upT z.p, true, []⟩, (mem_mgT h hs).2 (.inl ⟨free_up h hu hf, up_in h hu hd, rfl⟩), rfl, rfl⟩
  · obtain ⟨hzs, hw⟩ := mem_under.1 hzq
    obtain ⟨hok, hdir⟩ := (h.sel hs q).each z hzs
    refine ⟨hok, ?_⟩
    rcases hdir with h0 | ⟨y, hy, hyp, hyd⟩
    · exact .inl h0
    · by_cases hd : upT z.p = []
      · exact .inl hd
      · by_cases e : z.p = q
        · have hq' : StopT o a b z.p z.p := by rw [← e] at hq; exact hq
          exact .inr ⟨⟨upT z.p, true, []⟩, (mem_mgT h hs).2 (.inl ⟨stop_up h hq', up_in h hzu hd, rfl⟩), rfl, rfl⟩
        · have hwu := (within_up (h.pathU hzu) (path_ne (h.pathU hq.1)) (Ne.symm e) hw).2
          rw [← hyp] at hwu
          exact .inr ⟨y, (mem_mgT h hs).2 (.inr ⟨q, ⟨hq.1, hwu, hq.2.2⟩, mem_under.2 ⟨hy, hwu⟩⟩), hyp, hyd⟩

theorem mem_Cs (h : Right3 o a b) {c : Txt} : c ∈ mgCs o a b ↔ StopT o a b c c ∧ confB o a b c = true := by
  unfold mgCs
  rw [mem_mgC h 126 [] (free_nil h) (by simp)]
  constructor
  · exact fun h => h.2.2
  · intro hc
    exact ⟨within_nil _, path_ne (h.pathU hc.1.1), hc⟩
theorem conf_parts {q : Txt} (h : confB o a b q = true) : takeA o a b q = false ∧ firstO o a q = false ∧ bothD a b q = false := by
  unfold confB at h
  simp only [Bool.and_eq_true, Bool.not_eq_true'] at h
  exact ⟨h.1.1, h.1.2, h.2⟩
theorem desc_parts {q : Txt} (h : descB o a b q = true) : takeA o a b q = false ∧ firstO o a q = false ∧ bothD a b q = true := by
  unfold descB at h
  simp only [Bool.and_eq_true, Bool.not_eq_true'] at h
  exact ⟨h.1.1, h.1.2, h.2⟩
theorem take_parts {q : Txt} : takeA o a b q = false ↔ underA a q ≠ underA b q ∧ underA b q ≠ underA o q := by unfold takeA; simp
theorem first_part {q : Txt} : firstO o a q = false ↔ underA a q ≠ underA o q := by unfold firstO; simp
theorem foundDir_iff {T : List AIt} (hT : RightP T) {q : Txt} : foundDir T q = true ↔ findA T q = some ⟨q, true, []⟩ := by
  unfold foundDir
  constructor
  · intro h
    cases hf : findA T q with
    | none => rw [hf] at h; cases h
    | some x =>
      rw [hf] at h
      obtain ⟨hx, rfl⟩ := find_some hf
      have hok := (hT.each x hx).1
      obtain ⟨p, d, b⟩ := x
      simp only at h
      subst h
      have : b = [] := Classical.byContradiction fun hb => hok.2.1 ⟨rfl, hb⟩
      rw [this]
  · intro h; rw [h]
theorem stop_within (_h : Right3 o a b) {c t : Txt} (hc : StopT o a b c c) (hw : withinA c t = true) : StopT o a b c t := ⟨hc.1, hw, hc.2.2⟩

/-- within a conflict each has what it had -/
theorem spec_in (h : Right3 o a b) {c t : Txt} (hc : c ∈ mgCs o a b) (hw : withinA c t = true) :
    findA (mgT o a b (selA o a b)) t = findA a t ∧ findA (mgT o a b (selB o a b)) t = findA b t ∧ findA (mgT o a b (selO o a b)) t = findA o t := by
  obtain ⟨h1, h2⟩ := (mem_Cs h).1 hc
  obtain ⟨k1, k2, _⟩ := conf_parts h2
  have hs := stop_within h h1 hw
  rw [find_stop h (sel_A o a b) hs, find_stop h (sel_B o a b) hs, find_stop h (sel_O o a b) hs]
  unfold selA selB selO
  rw [k1, k2]
  exact ⟨rfl, rfl, rfl⟩
theorem take_or {q : Txt} (hd : descB o a b q = false) (hc : confB o a b q = false) : takeA o a b q = true ∨ firstO o a q = true := by
  unfold descB confB at *
  cases h1 : takeA o a b q
  · cases h2 : firstO o a q
    · rw [h1, h2] at hd hc
      cases h3 : bothD a b q <;> simp_all
    · exact .inr rfl
  · exact .inl rfl
/-- beside conflicts all have the same -/
theorem spec_out (h : Right3 o a b) {t : Txt} (hc : ∀ c ∈ mgCs o a b, withinA c t = false) :
    findA (mgT o a b (selA o a b)) t = findA (mgT o a b (selB o a b)) t ∧ findA (mgT o a b (selA o a b)) t = findA (mgT o a b (selO o a b)) t ∧
      (findA a t = findA o t → findA (mgT o a b (selA o a b)) t = findA b t) ∧ (findA b t = findA o t → findA (mgT o a b (selA o a b)) t = findA a t) ∧ (findA a t = findA b t → findA (mgT o a b (selA o a b)) t = findA a t) := by
  rcases stop_or h t with hf | ⟨q, hq⟩
  · by_cases hu : inU o a b t
    · rw [find_free h (sel_A o a b) hf hu, find_free h (sel_B o a b) hf hu, find_free h (sel_O o a b) hf hu]
      have hb := (desc_parts (hf t hu (within_self t))).2.2
      unfold bothD at hb
      rw [Bool.and_eq_true, foundDir_iff h.a, foundDir_iff h.b] at hb
      exact ⟨rfl, rfl, fun _ => hb.2.symm, fun _ => hb.1.symm, fun _ => hb.1.symm⟩
    · rw [find_out h (sel_A o a b) hu, find_out h (sel_B o a b) hu, find_out h (sel_O o a b) hu]
      have na : findA a t = none := find_none_iff.2 fun z hz e => hu (.inr (.inl ⟨z, hz, e⟩))
      have nb : findA b t = none := find_none_iff.2 fun z hz e => hu (.inr (.inr ⟨z, hz, e⟩))
      exact ⟨rfl, rfl, fun _ => nb.symm, fun _ => na.symm, fun _ => na.symm⟩
  · rw [find_stop h (sel_A o a b) hq, find_stop h (sel_B o a b) hq, find_stop h (sel_O o a b) hq]
    have hnc : confB o a b q = false := by
      cases hcf : confB o a b q
      · rfl
      · have := hc q ((mem_Cs h).2 ⟨⟨hq.1, within_self q, hq.2.2⟩, hcf⟩)
        rw [hq.2.1] at this; cases this
    unfold selA selB selO
    cases ht : takeA o a b q
    · have hfo : firstO o a q = true := (take_or hq.2.2.1 hnc).resolve_left (by simp [ht])
      rw [hfo]
      simp only [Bool.false_eq_true, if_false, if_true]
      have e := (underL_eq h.a.sorted h.o.sorted).1 (by unfold firstO at hfo; exact of_decide_eq_true hfo) t hq.2.1
      exact ⟨trivial, trivial, fun _ => trivial, fun hb => by rw [hb, e], fun hb => hb.symm⟩
    · simp only [if_true]
      refine ⟨trivial, trivial, fun hb => ?_, fun _ => trivial, fun _ => trivial⟩
      unfold takeA at ht
      rw [Bool.or_eq_true, decide_eq_true_eq, decide_eq_true_eq] at ht
      rcases ht with ht | ht
      · exact (underL_eq h.a.sorted h.b.sorted).1 ht t hq.2.1
      · rw [hb, (underL_eq h.b.sorted h.o.sorted).1 ht t hq.2.1]
end
end Go.Proofs.YtfbbjfbnkcklgaaGreatDoor

/- merged trees, as plain lists: merged once more, the other way around, with itself; beside the conflicts -/
namespace Go.Proofs.YtfbbjfbnkcklgaaGreatDoor
open Go.RowKit

section
variable {o a b : List AIt}
abbrev mA (o a b : List AIt) := mgT o a b (selA o a b)
abbrev mB (o a b : List AIt) := mgT o a b (selB o a b)
abbrev mO (o a b : List AIt) := mgT o a b (selO o a b)

/-- at a conflict the merged trees have what the three had -/
theorem conf_under (h : Right3 o a b) {c : Txt} (hc : c ∈ mgCs o a b) : underA (mA o a b) c = underA a c ∧ underA (mB o a b) c = underA b c ∧ underA (mO o a b) c = underA o c :=
  ⟨(underL_eq (mgT_sorted _ _ _ _) h.a.sorted).2 fun _ hw => (spec_in h hc hw).1, (underL_eq (mgT_sorted _ _ _ _) h.b.sorted).2 fun _ hw => (spec_in h hc hw).2.1, (underL_eq (mgT_sorted _ _ _ _) h.o.sorted).2 fun _ hw => (spec_in h hc hw).2.2⟩
theorem under_sub {S T : List AIt} (hS : sortedA S) (hT : sortedA T) {q c : Txt} (hc : c ≠ []) (hw : withinA q c = true) (he : underA S q = underA T q) : underA S c = underA T c :=
  (underL_eq hS hT).2 fun t ht => (underL_eq hS hT).1 he t (within_trans hc hw ht)
/-- above a conflict the three merged trees are not alike, and directories -/
theorem above_conf (h : Right3 o a b) (h' : Right3 (mO o a b) (mA o a b) (mB o a b)) {c q : Txt} (hc : c ∈ mgCs o a b) (hq : inU o a b q) (hw : withinA q c = true) :
    takeA (mO o a b) (mA o a b) (mB o a b) q = false ∧ firstO (mO o a b) (mA o a b) q = false ∧ (q ≠ c → bothD (mA o a b) (mB o a b) q = true ∧ findA (mO o a b) q = some ⟨q, true, []⟩ ∧ findA (mA o a b) q = some ⟨q, true, []⟩) := by
  obtain ⟨h1, h2⟩ := (mem_Cs h).1 hc
  obtain ⟨k1, k2, _⟩ := conf_parts h2
  rw [take_parts] at k1
  rw [first_part] at k2
  obtain ⟨ea, eb, eo⟩ := conf_under h hc
  have hcn := path_ne (h.pathU h1.1)
  refine ⟨?_, ?_, fun hne => ?_⟩
  · rw [take_parts]
    constructor
    · intro e
      have := under_sub h'.a.sorted h'.b.sorted hcn hw e
      rw [ea, eb] at this
      exact k1.1 this
    · intro e
      have := under_sub h'.b.sorted h'.o.sorted hcn hw e
      rw [eb, eo] at this
      exact k1.2 this
  · rw [first_part]
    intro e
    have := under_sub h'.a.sorted h'.o.sorted hcn hw e
    rw [ea, eo] at this
    exact k2 this
  · have hf : FreeT o a b q := fun r hr hwr => h1.2.2.2 r hr (within_trans (path_ne (h.pathU hq)) hwr hw) (fun e => by
      rw [e] at hwr
      have h3 := within_len hwr
      have h4 := within_len hw
      rw [within_iff] at hwr
      rcases hwr with e2 | e2 | ⟨s, e2⟩
      · exact hne e2
      · exact hcn e2
      · have h5 := congrArg List.length e2
        simp at h5
        omega)
    refine ⟨?_, find_free h (sel_O o a b) hf hq, find_free h (sel_A o a b) hf hq⟩
    unfold bothD
    rw [Bool.and_eq_true, foundDir_iff h'.a, foundDir_iff h'.b]
    exact ⟨find_free h (sel_A o a b) hf hq, find_free h (sel_B o a b) hf hq⟩
theorem conf_not_desc (h : Right3 o a b) (h' : Right3 (mO o a b) (mA o a b) (mB o a b)) {c : Txt} (hc : c ∈ mgCs o a b) : bothD (mA o a b) (mB o a b) c = false := by
  obtain ⟨h1, h2⟩ := (mem_Cs h).1 hc
  obtain ⟨_, _, k3⟩ := conf_parts h2
  have hs := spec_in h hc (within_self c)
  cases hb : bothD (mA o a b) (mB o a b) c
  · rfl
  · unfold bothD at hb k3
    rw [Bool.and_eq_true, foundDir_iff h'.a, foundDir_iff h'.b, hs.1, hs.2.1, ← foundDir_iff h.a, ← foundDir_iff h.b] at hb
    rw [hb.1, hb.2] at k3
    cases k3
theorem inU_again (h : Right3 o a b) {t : Txt} (ht : inU (mO o a b) (mA o a b) (mB o a b) t) : inU o a b t := by
  rcases ht with ⟨x, hx, rfl⟩ | ⟨x, hx, rfl⟩ | ⟨x, hx, rfl⟩
  · exact mgT_in h (sel_O o a b) hx
  · exact mgT_in h (sel_A o a b) hx
  · exact mgT_in h (sel_B o a b) hx
/-- where the three are not alike a conflict is near -/
theorem near_conf (h : Right3 o a b) {q : Txt} (hq : inU o a b q) (hne : underA (mA o a b) q ≠ underA (mB o a b) q) : ∃ c ∈ mgCs o a b, withinA c q = true ∨ withinA q c = true := by
  refine Classical.byContradiction fun hno => hne ?_
  refine (underL_eq (mgT_sorted _ _ _ _) (mgT_sorted _ _ _ _)).2 fun t ht => ?_
  refine (spec_out h fun c hc => ?_).1
  cases hw : withinA c t
  · rfl
  · exfalso
    have hcn := path_ne (h.pathU ((mem_Cs h).1 hc).1.1)
    exact hno ⟨c, hc, within_two hw ht hcn (path_ne (h.pathU hq))⟩
/-- where the second merge takes one side, no conflict is -/
theorem taken_far (h : Right3 o a b) (h' : Right3 (mO o a b) (mA o a b) (mB o a b)) {q t : Txt} (hq : StopT (mO o a b) (mA o a b) (mB o a b) q t)
    (htk : takeA (mO o a b) (mA o a b) (mB o a b) q = true ∨ firstO (mO o a b) (mA o a b) q = true) : ∀ c ∈ mgCs o a b, withinA c t = false := by
  intro c hc
  cases hw : withinA c t
  · rfl
  · exfalso
    have hcU := ((mem_Cs h).1 hc).1.1
    have hqU := inU_again h hq.1
    have hcn := path_ne (h.pathU hcU)
    rcases within_two hw hq.2.1 hcn (path_ne (h.pathU hqU)) with hcq | hqc
    · by_cases e : c = q
      · obtain ⟨k1, k2, _⟩ := above_conf h h' hc hqU (by rw [e]; exact within_self q)
        rcases htk with e1 | e1
        · rw [k1] at e1; cases e1
        · rw [k2] at e1; cases e1
      · have hcU' : inU (mO o a b) (mA o a b) (mB o a b) c := by
          have hs := spec_in h hc (within_self c)
          rcases hcU with ⟨x, hx, e⟩ | ⟨x, hx, e⟩ | ⟨x, hx, e⟩
          · have := find_of_mem h.o.sorted hx
            rw [e, ← hs.2.2] at this
            exact .inl ⟨x, (find_some this).1, e⟩
          · have := find_of_mem h.a.sorted hx
            rw [e, ← hs.1] at this
            exact .inr (.inl ⟨x, (find_some this).1, e⟩)
          · have := find_of_mem h.b.sorted hx
            rw [e, ← hs.2.1] at this
            exact .inr (.inr ⟨x, (find_some this).1, e⟩)
        have hd := (desc_parts (hq.2.2.2 c hcU' hcq e)).2.2
        rw [conf_not_desc h h' hc] at hd
        cases hd
    · obtain ⟨k1, k2, _⟩ := above_conf h h' hc hqU hqc
      rcases htk with e1 | e1
      · rw [k1] at e1; cases e1
      · rw [k2] at e1; cases e1
theorem conf_inU' (h : Right3 o a b) {c : Txt} (hc : c ∈ mgCs o a b) : inU (mO o a b) (mA o a b) (mB o a b) c := by
  have hcU := ((mem_Cs h).1 hc).1.1
  have hs := spec_in h hc (within_self c)
  rcases hcU with ⟨x, hx, e⟩ | ⟨x, hx, e⟩ | ⟨x, hx, e⟩
  · have := find_of_mem h.o.sorted hx
    rw [e, ← hs.2.2] at this
    exact .inl ⟨x, (find_some this).1, e⟩
  · have := find_of_mem h.a.sorted hx
    rw [e, ← hs.1] at this
    exact .inr (.inl ⟨x, (find_some this).1, e⟩)
  · have := find_of_mem h.b.sorted hx
    rw [e, ← hs.2.1] at this
    exact .inr (.inr ⟨x, (find_some this).1, e⟩)
/-- what the second merge merges within is a directory in all three -/
theorem desc_again (h : Right3 o a b) (h' : Right3 (mO o a b) (mA o a b) (mB o a b)) {t : Txt} (ht : inU (mO o a b) (mA o a b) (mB o a b) t) (hf : FreeT (mO o a b) (mA o a b) (mB o a b) t) :
    findA (mO o a b) t = some ⟨t, true, []⟩ := by
  have hU := inU_again h ht
  have hd := desc_parts (hf t ht (within_self t))
  obtain ⟨c, hc, hw⟩ := near_conf h hU (take_parts.1 hd.1).1
  have key : withinA c t = true → False := fun hw => by
    have h1 := (desc_parts (hf c (conf_inU' h hc) hw)).2.2
    rw [conf_not_desc h h' hc] at h1
    cases h1
  rcases hw with hw | hw
  · exact (key hw).elim
  · have hne : t ≠ c := fun e => key (by rw [e]; exact within_self c)
    exact ((above_conf h h' hc hU hw).2.2 hne).2.1
theorem again_find (h : Right3 o a b) (h' : Right3 (mO o a b) (mA o a b) (mB o a b)) (t : Txt) :
    findA (mA (mO o a b) (mA o a b) (mB o a b)) t = findA (mA o a b) t ∧ findA (mB (mO o a b) (mA o a b) (mB o a b)) t = findA (mB o a b) t ∧ findA (mO (mO o a b) (mA o a b) (mB o a b)) t = findA (mO o a b) t := by
  rcases stop_or h' t with hf | ⟨q, hq⟩
  · by_cases hu : inU (mO o a b) (mA o a b) (mB o a b) t
    · rw [find_free h' (sel_A _ _ _) hf hu, find_free h' (sel_B _ _ _) hf hu, find_free h' (sel_O _ _ _) hf hu, desc_again h h' hu hf]
      have hb := (desc_parts (hf t hu (within_self t))).2.2
      unfold bothD at hb
      rw [Bool.and_eq_true, foundDir_iff h'.a, foundDir_iff h'.b] at hb
      rw [hb.1, hb.2]
      exact ⟨rfl, rfl, rfl⟩
    · rw [find_out h' (sel_A _ _ _) hu, find_out h' (sel_B _ _ _) hu, find_out h' (sel_O _ _ _) hu]
      refine ⟨Eq.symm (find_none_iff.2 fun z hz e => hu (.inr (.inl ⟨z, hz, e⟩))), Eq.symm (find_none_iff.2 fun z hz e => hu (.inr (.inr ⟨z, hz, e⟩))), Eq.symm (find_none_iff.2 fun z hz e => hu (.inl ⟨z, hz, e⟩))⟩
  · rw [find_stop h' (sel_A _ _ _) hq, find_stop h' (sel_B _ _ _) hq, find_stop h' (sel_O _ _ _) hq]
    have hfar := taken_far h h' hq
    unfold selA selB selO
    cases ht : takeA (mO o a b) (mA o a b) (mB o a b) q
    · cases hfo : firstO (mO o a b) (mA o a b) q
      · exact ⟨rfl, rfl, rfl⟩
      · obtain ⟨e1, e2, _⟩ := spec_out h (hfar (.inr hfo))
        exact ⟨e1.symm, rfl, e1.symm.trans e2⟩
    · obtain ⟨e1, e2, _⟩ := spec_out h (hfar (.inl ht))
      exact ⟨rfl, e1, e2⟩
theorem again_eq (h : Right3 o a b) (h' : Right3 (mO o a b) (mA o a b) (mB o a b)) :
    mA (mO o a b) (mA o a b) (mB o a b) = mA o a b ∧ mB (mO o a b) (mA o a b) (mB o a b) = mB o a b ∧ mO (mO o a b) (mA o a b) (mB o a b) = mO o a b :=
  ⟨find_ext (mgT_sorted _ _ _ _) (mgT_sorted _ _ _ _) fun t => (again_find h h' t).1, find_ext (mgT_sorted _ _ _ _) (mgT_sorted _ _ _ _) fun t => (again_find h h' t).2.1, find_ext (mgT_sorted _ _ _ _) (mgT_sorted _ _ _ _) fun t => (again_find h h' t).2.2⟩
theorem again_Cs (h : Right3 o a b) (h' : Right3 (mO o a b) (mA o a b) (mB o a b)) {c : Txt} : c ∈ mgCs (mO o a b) (mA o a b) (mB o a b) ↔ c ∈ mgCs o a b := by
  constructor
  · intro hc
    obtain ⟨h1, h2⟩ := (mem_Cs h').1 hc
    obtain ⟨k1, _, k3⟩ := conf_parts h2
    have hU := inU_again h h1.1
    obtain ⟨d, hd, hw⟩ := near_conf h hU (take_parts.1 k1).1
    rcases hw with hw | hw
    · by_cases e : d = c
      · rw [← e]; exact hd
      · exfalso
        have := (desc_parts (h1.2.2.2 d (conf_inU' h hd) hw e)).2.2
        rw [conf_not_desc h h' hd] at this
        cases this
    · by_cases e : c = d
      · rw [e]; exact hd
      · exfalso
        have := ((above_conf h h' hd hU hw).2.2 e).1
        rw [k3] at this
        cases this
  · intro hc
    obtain ⟨h1, h2⟩ := (mem_Cs h).1 hc
    obtain ⟨a1, a2, _⟩ := above_conf h h' hc h1.1 (within_self c)
    have hb := conf_not_desc h h' hc
    refine (mem_Cs h').2 ⟨⟨conf_inU' h hc, within_self c, ?_, fun r hr hw hne => ?_⟩, ?_⟩
    · unfold descB; rw [hb]; simp
    · obtain ⟨k1, k2, k3⟩ := above_conf h h' hc (inU_again h hr) hw
      unfold descB
      rw [k1, k2, (k3 hne).1]
      rfl
    · unfold confB
      rw [a1, a2, hb]
      rfl

/-- the other way around -/
theorem Right3.swap (h : Right3 o a b) : Right3 o b a := ⟨h.o, h.b, h.a⟩
theorem inU_swap {t : Txt} : inU o b a t ↔ inU o a b t := by
  unfold inU
  constructor
  · rintro (h | h | h)
    · exact .inl h
    · exact .inr (.inr h)
    · exact .inr (.inl h)
  · rintro (h | h | h)
    · exact .inl h
    · exact .inr (.inr h)
    · exact .inr (.inl h)
theorem bothD_swap (q : Txt) : bothD b a q = bothD a b q := by unfold bothD; rw [Bool.and_comm]
theorem taken_swap (q : Txt) : (takeA o b a q || firstO o b q) = (takeA o a b q || firstO o a q) := by
  rw [Bool.eq_iff_iff]
  unfold takeA firstO
  simp only [Bool.or_eq_true, decide_eq_true_eq]
  constructor
  · rintro ((h | h) | h)
    · exact .inl (.inl h.symm)
    · exact .inr h
    · exact .inl (.inr h)
  · rintro ((h | h) | h)
    · exact .inl (.inl h.symm)
    · exact .inr h
    · exact .inl (.inr h)
theorem desc_swap (q : Txt) : descB o b a q = descB o a b q := by
  have h := taken_swap (o := o) (a := a) (b := b) q
  unfold descB
  rw [← Bool.not_or, ← Bool.not_or, h, bothD_swap]
theorem conf_swap (q : Txt) : confB o b a q = confB o a b q := by
  have h := taken_swap (o := o) (a := a) (b := b) q
  unfold confB
  rw [← Bool.not_or, h, bothD_swap, Bool.not_or]
theorem free_swap {t : Txt} (h : FreeT o b a t) : FreeT o a b t := fun q hq hw => by
  rw [← desc_swap]
  exact h q (inU_swap.2 hq) hw
theorem stop_swap {q t : Txt} (h : StopT o b a q t) : StopT o a b q t :=
  ⟨inU_swap.1 h.1, h.2.1, by rw [← desc_swap]; exact h.2.2.1, fun r hr hw hne => by rw [← desc_swap]; exact h.2.2.2 r (inU_swap.2 hr) hw hne⟩
theorem swap_find (h : Right3 o a b) (t : Txt) :
    findA (mA o b a) t = findA (mB o a b) t ∧ findA (mB o b a) t = findA (mA o a b) t ∧ findA (mO o b a) t = findA (mO o a b) t := by
  rcases stop_or h.swap t with hf | ⟨q, hq⟩
  · by_cases hu : inU o b a t
    · rw [find_free h.swap (sel_A _ _ _) hf hu, find_free h.swap (sel_B _ _ _) hf hu, find_free h.swap (sel_O _ _ _) hf hu,
        find_free h (sel_A _ _ _) (free_swap hf) (inU_swap.1 hu), find_free h (sel_B _ _ _) (free_swap hf) (inU_swap.1 hu), find_free h (sel_O _ _ _) (free_swap hf) (inU_swap.1 hu)]
      exact ⟨rfl, rfl, rfl⟩
    · have hu' : ¬ inU o a b t := fun h1 => hu (inU_swap.2 h1)
      rw [find_out h.swap (sel_A _ _ _) hu, find_out h.swap (sel_B _ _ _) hu, find_out h.swap (sel_O _ _ _) hu, find_out h (sel_A _ _ _) hu', find_out h (sel_B _ _ _) hu', find_out h (sel_O _ _ _) hu']
      exact ⟨rfl, rfl, rfl⟩
  · rw [find_stop h.swap (sel_A _ _ _) hq, find_stop h.swap (sel_B _ _ _) hq, find_stop h.swap (sel_O _ _ _) hq, find_stop h (sel_A _ _ _) (stop_swap hq), find_stop h (sel_B _ _ _) (stop_swap hq), find_stop h (sel_O _ _ _) (stop_swap hq)]
    have eab : underA a q = underA b q → findA a t = findA b t := fun e => (underL_eq h.a.sorted h.b.sorted).1 e t hq.2.1
    have eba : underA b q = underA o q → findA b t = findA o t := fun e => (underL_eq h.b.sorted h.o.sorted).1 e t hq.2.1
    by_cases e1 : underA a q = underA b q
    · have e2 := eab e1
      have t1 : takeA o a b q = true := by unfold takeA; simp [e1]
      have t2 : takeA o b a q = true := by unfold takeA; simp [e1]
      unfold selA selB selO
      rw [t1, t2]
      exact ⟨e2.symm ▸ rfl, e2.symm ▸ rfl, e2.symm ▸ rfl⟩
    · have e1' : ¬ underA b q = underA a q := fun e => e1 e.symm
      by_cases e3 : underA b q = underA o q
      · have e4 : ¬ underA a q = underA o q := fun e => e1 (e.trans e3.symm)
        have t1 : takeA o a b q = true := by unfold takeA; simp [e3]
        have t2 : takeA o b a q = false := by unfold takeA; simp [e1', e4]
        have t3 : firstO o b q = true := by unfold firstO; simp [e3]
        unfold selA selB selO
        rw [t1, t2, t3]
        exact ⟨rfl, rfl, rfl⟩
      · have t1 : takeA o a b q = false := by unfold takeA; simp [e1, e3]
        have t3 : firstO o b q = false := by unfold firstO; simp [e3]
        by_cases e4 : underA a q = underA o q
        · have t2 : takeA o b a q = true := by unfold takeA; simp [e4]
          have t4 : firstO o a q = true := by unfold firstO; simp [e4]
          unfold selA selB selO
          rw [t1, t2, t4]
          exact ⟨rfl, rfl, rfl⟩
        · have t2 : takeA o b a q = false := by unfold takeA; simp [e1', e4]
          have t4 : firstO o a q = false := by unfold firstO; simp [e4]
          unfold selA selB selO
          rw [t1, t2, t3, t4]
          exact ⟨rfl, rfl, rfl⟩
theorem swap_eq (h : Right3 o a b) : mA o b a = mB o a b ∧ mB o b a = mA o a b ∧ mO o b a = mO o a b :=
  ⟨find_ext (mgT_sorted _ _ _ _) (mgT_sorted _ _ _ _) fun t => (swap_find h t).1, find_ext (mgT_sorted _ _ _ _) (mgT_sorted _ _ _ _) fun t => (swap_find h t).2.1, find_ext (mgT_sorted _ _ _ _) (mgT_sorted _ _ _ _) fun t => (swap_find h t).2.2⟩
theorem swap_Cs (h : Right3 o a b) {c : Txt} : c ∈ mgCs o b a ↔ c ∈ mgCs o a b := by
  rw [mem_Cs h, mem_Cs h.swap, conf_swap]
  constructor
  · exact fun ⟨h1, h2⟩ => ⟨stop_swap h1, h2⟩
  · exact fun ⟨h1, h2⟩ => ⟨stop_swap h1, h2⟩

/-- with itself -/
theorem self_take (q : Txt) : takeA o a a q = true := by unfold takeA; simp
theorem self_find (h : Right3 o a a) (t : Txt) : findA (mA o a a) t = findA a t ∧ findA (mO o a a) t = findA a t := by
  rcases stop_or h t with hf | ⟨q, hq⟩
  · have hu : ¬ inU o a a t := fun hu => by
      have := (desc_parts (hf t hu (within_self t))).1
      rw [self_take] at this
      cases this
    rw [find_out h (sel_A _ _ _) hu, find_out h (sel_O _ _ _) hu]
    have := find_none_iff.2 fun z hz e => hu (.inr (.inl ⟨z, hz, e⟩))
    exact ⟨this.symm, this.symm⟩
  · rw [find_stop h (sel_A _ _ _) hq, find_stop h (sel_O _ _ _) hq]
    unfold selA selO
    rw [self_take]
    exact ⟨rfl, rfl⟩
theorem self_eq (h : Right3 o a a) : mA o a a = a ∧ mO o a a = a :=
  ⟨find_ext (mgT_sorted _ _ _ _) h.a.sorted fun t => (self_find h t).1, find_ext (mgT_sorted _ _ _ _) h.a.sorted fun t => (self_find h t).2⟩
theorem self_Cs (h : Right3 o a a) : mgCs o a a = [] := by
  rw [List.eq_nil_iff_forall_not_mem]
  intro c hc
  have := (conf_parts ((mem_Cs h).1 hc).2).1
  rw [self_take] at this
  cases this
/-- none is within another one -/
theorem conf_apart (h : Right3 o a b) {c d : Txt} (hc : c ∈ mgCs o a b) (hd : d ∈ mgCs o a b) (hne : c ≠ d) : withinA c d = false := by
  cases hw : withinA c d
  · rfl
  · exact absurd (stop_one h (stop_within h ((mem_Cs h).1 hc).1 hw) ((mem_Cs h).1 hd).1) hne
end
end Go.Proofs.YtfbbjfbnkcklgaaGreatDoor
