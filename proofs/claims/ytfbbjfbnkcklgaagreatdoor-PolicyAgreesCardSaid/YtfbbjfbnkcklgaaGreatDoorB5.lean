/- slices of records: cells, rows, what comes in -/
import Derived.Test.YtfbbjfbnkcklgaaGreatDoorB4
import Derived.Deep.Slices
import Derived.ProofKit
import Derived.OpenShut
namespace Go.Proofs.YtfbbjfbnkcklgaaGreatDoor
open Go.RowKit Go.Deep Go.ChangeShapes Go.WideShapes Go.ChangeAt

section
variable {α : Type} {f : α → List Value} {m : Nat}
theorem flat_get (hf : ∀ x, (f x).length = m) : ∀ (l : List α) (i : Nat) (x : α) (k : Nat), l[i]? = some x → k < m → (l.flatMap f)[i * m + k]? = (f x)[k]?
  | [], i, x, k, h, _ => by simp at h
  | y :: r, 0, x, k, h, hk => by
    simp at h
    subst h
    rw [List.flatMap_cons, List.getElem?_append_left (by rw [hf]; omega)]
    simp
  | y :: r, i + 1, x, k, h, hk => by
    rw [List.flatMap_cons, List.getElem?_append_right (by rw [hf, Nat.add_mul]; omega), show (i + 1) * m + k - (f y).length = i * m + k by rw [hf, Nat.add_mul]; omega]
    exact flat_get hf r i x k (by simpa using h) hk
theorem flat_len (hf : ∀ x, (f x).length = m) (l : List α) : (l.flatMap f).length = l.length * m := by
  induction l with
  | nil => simp
  | cons x r ih => rw [List.flatMap_cons, List.length_append, ih, hf, List.length_cons, Nat.add_mul]; omega
theorem flat_one (h1 : ∀ x, ∀ u ∈ f x, u.oneCell' = true) (l : List α) : ∀ u ∈ l.flatMap f, u.oneCell' = true := by
  intro u hu
  obtain ⟨x, _, hx⟩ := List.mem_flatMap.1 hu
  exact h1 x u hx

/-- a slice of records of m cells -/
structure Recs (f : α → List Value) (m : Nat) (w : World) (A : Option Addr) (c : Nat) (l : List α) : Prop where
  cap : l.length ≤ c
  nil : A = none → c = 0
  cell : ∀ (i : Nat) (x : α), l[i]? = some x → ∃ b off, A = some ⟨b, off, none⟩ ∧ ∀ k u, (f x)[k]? = some u → w.cell? ⟨b, off + i * m + k, none⟩ = some u
theorem Recs.below {w w' : World} {A : Option Addr} {c : Nat} {l : List α} (h : Recs f m w A c l) (hb : Below w.heap.size w w') : Recs f m w' A c l :=
  ⟨h.cap, h.nil, fun i x hx => by
    obtain ⟨b, off, h0, h1⟩ := h.cell i x hx
    exact ⟨b, off, h0, fun k u hu => (hb.cell (World.block_lt_of_cell? w _ (h1 k u hu))).trans (h1 k u hu)⟩⟩
theorem Recs.none (w : World) : Recs f m w none 0 [] := ⟨Nat.le_refl _, fun _ => rfl, fun i x h => by simp at h⟩
theorem Recs.ofRow (hf : ∀ x, (f x).length = m) (hm : 0 < m) {w : World} {e : TypeId} {A : Option Addr} {n c : Nat} {l : List α} (h : Row w e m (.slice A n c) (l.flatMap f)) : n = l.length ∧ Recs f m w A c l := by
  obtain ⟨A', n', c', hv, hl, hn, hc, hh⟩ := h
  cases hv
  rw [flat_len hf] at hl
  obtain rfl : n = l.length := Nat.eq_of_mul_eq_mul_right hm hl.symm
  refine ⟨rfl, hn, ?_, ?_⟩
  · rintro rfl
    rcases hh with ⟨_, h⟩ | ⟨_, _, _, h, _⟩
    · exact h
    · cases h
  · intro i x hx
    have hi : i < l.length := (List.getElem?_eq_some_iff.1 hx).1
    rcases hh with ⟨_, rfl⟩ | ⟨b, off, cs, rfl, hb, hs, ht⟩
    · omega
    · refine ⟨b, off, rfl, fun k u hu => ?_⟩
      have hk : k < m := by rw [← hf x]; exact (List.getElem?_eq_some_iff.1 hu).1
      have hlt : i * m + k < l.length * m := by
        have h1 : (i + 1) * m ≤ l.length * m := Nat.mul_le_mul_right _ hi
        rw [Nat.add_mul] at h1
        omega
      rw [blkCell hb, ← hu, ← flat_get hf l i x k hx hk, ← ht, List.getElem?_take, if_pos hlt, List.getElem?_drop, Array.getElem?_toList, Nat.add_assoc]
theorem Recs.src (hf : ∀ x, (f x).length = m) (hm : 0 < m) {w : World} {A : Option Addr} {c : Nat} {l : List α} (h : Recs f m w A c l) : Src w m (.slice A l.length c) (l.flatMap f) := by
  refine ⟨A, l.length, c, rfl, flat_len hf l, h.cap, h.nil, ?_⟩
  intro j u hj
  have hjl : j < l.length * m := by rw [← flat_len hf]; exact (List.getElem?_eq_some_iff.1 hj).1
  have hi : j / m < l.length := Nat.div_lt_of_lt_mul (by rw [Nat.mul_comm]; exact hjl)
  have hr : j % m < m := Nat.mod_lt _ hm
  have he : j / m * m + j % m = j := by rw [Nat.mul_comm]; exact Nat.div_add_mod j m
  obtain ⟨b, off, hA, hc⟩ := h.cell (j / m) l[j / m] (List.getElem?_eq_getElem hi)
  refine ⟨_, hA, ?_⟩
  rw [add_lit']
  have hg := flat_get hf l (j / m) l[j / m] (j % m) (List.getElem?_eq_getElem hi) hr
  rw [he, hj] at hg
  have := hc (j % m) u hg.symm
  rw [Nat.add_assoc, he] at this
  exact this
/-- one record in a block of its own -/
theorem Src.rec (hf : ∀ x, (f x).length = m) {w : World} {b : Nat} {e : TypeId} (x : α) (h : w.heap[b]? = some (.cells (f x).toArray e (0, 0))) : Src w m (.slice (some ⟨b, 0, none⟩) 1 1) (f x) := by
  have := (Row.ofBlock (sz := m) (n := 1) h (by simp [hf]) (by simp [maxLen])).src
  simpa using this

theorem open_recs [Inhabited α] (hf : ∀ x, (f x).length = m) (hm0 : 0 < m) {P : Program} {H : Type} {enc : TypeId × Value → H} {W : World} {base : Nat} {held : Bool} {fuel : Nat} {S E : TypeId} (hS : P.underlying S = some (.slice E)) (hE : P.cellsOf E = m) {G : α → Prop}
    (ho : ∀ (fuel : Nat) (cs : List Value) (x : DataW H × List MemPlace), DataW.trod enc P W base (fun _ => true) held fuel E cs = some x → ∃ y : α, cs = f y ∧ G y)
    {a : Option Addr} {len cap : Nat} {x : DataW H × List MemPlace} (h : DataW.trod enc P W base (fun _ => true) held fuel S [.slice a len cap] = some x) : ∃ l : List α, l.length = len ∧ Recs f m W a cap l ∧ ∀ y ∈ l, G y := by
  rcases open_slice hS h with ⟨hcs, _⟩ | ⟨b, l, c, mm, n, D, Pl, hcs, _, hl, _, hm, _, hx⟩
  · simp only [List.cons.injEq, Value.slice.injEq, and_true] at hcs
    obtain ⟨rfl, rfl, rfl⟩ := hcs
    exact ⟨[], rfl, Recs.none _, by simp⟩
  · simp only [List.cons.injEq, Value.slice.injEq, and_true] at hcs
    obtain ⟨rfl, rfl, rfl⟩ := hcs
    simp only [if_true] at hm
    obtain ⟨g, hg⟩ := choose_lt (n := len) (p := fun i (y : α) => (∀ j u, (f y)[j]? = some u → W.cell? ((b.add (i * m)).add j) = some u) ∧ G y) fun i hi => by
      obtain ⟨cs', h1, h2⟩ := hx i (by omega)
      rw [hE] at h1
      obtain ⟨y, rfl, hs⟩ := ho _ _ _ h2
      obtain ⟨_, hlen, hcell⟩ := World.cells?_some h1
      refine ⟨y, fun j u hj => ?_, hs⟩
      have hj5 : j < m := by rw [← hf y]; exact (List.getElem?_eq_some_iff.1 hj).1
      rw [hcell j hj5]
      simpa using hj
    refine ⟨(List.range len).map g, by simp, ⟨by simpa using hl, (fun h => nomatch h), fun i y hy => ?_⟩, fun y hy => ?_⟩
    · simp only [List.getElem?_map, Option.map_eq_some_iff] at hy
      obtain ⟨i', hi', rfl⟩ := hy
      obtain ⟨hlt, rfl⟩ := List.getElem?_eq_some_iff.1 hi'
      simp only [List.length_range] at hlt
      simp only [List.getElem_range]
      have h00 : ∃ u, (f (g 0))[0]? = some u := ⟨_, List.getElem?_eq_getElem (by rw [hf]; exact hm0)⟩
      obtain ⟨u0, hu0⟩ := h00
      have h0 := (hg 0 (by omega)).1 0 _ hu0
      rw [Nat.zero_mul] at h0
      have hsp : b.spot = none := World.cell?_spot (a := b) (by simpa [Addr.add] using h0)
      obtain ⟨bb, off, sp⟩ := b
      simp only at hsp
      subst hsp
      refine ⟨bb, off, rfl, fun k u hu => ?_⟩
      have := (hg i hlt).1 k u hu
      rw [add_lit', add_lit'] at this
      exact this
    · obtain ⟨i, hi, rfl⟩ := List.mem_map.1 hy
      exact (hg i (by simpa using hi)).2
end
end Go.Proofs.YtfbbjfbnkcklgaaGreatDoor
