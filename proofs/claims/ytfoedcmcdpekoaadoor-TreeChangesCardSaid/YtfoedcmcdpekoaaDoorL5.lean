/- (Tree).put -/
import Derived.Test.YtfoedcmcdpekoaaDoorL4
namespace Go.Proofs.YtfoedcmcdpekoaaDoor
open Go.RowKit

theorem place_ahead {l : List Itm} {q : List UInt8} {i : Nat} (h : PlaceAt l q i) (hs : sortedI l) : (l.map Itm.abs).filter (fun y => Op.bytesLess y.p q) = (l.map Itm.abs).take i := by
  conv => lhs; rw [← List.take_append_drop i (l.map Itm.abs), List.filter_append]
  rw [List.filter_eq_self.2, List.filter_eq_nil_iff.2, List.append_nil]
  · intro y hy
    obtain ⟨k, hk, e⟩ := List.getElem_of_mem hy
    rw [List.getElem_drop, List.getElem_map] at e
    have hkl : i + k < l.length := by rw [List.length_drop, List.length_map] at hk; omega
    rw [← e]
    show ¬ Op.bytesLess l[i + k].p.toList q = true
    rcases Nat.eq_zero_or_pos k with rfl | hp
    · rw [h.behind _ (List.getElem?_eq_getElem hkl)]; simp
    · rw [less_asymm (h.more hs (List.getElem?_eq_getElem hkl) (by omega))]; simp
  · intro y hy
    obtain ⟨k, hk, e⟩ := List.getElem_of_mem hy
    rw [List.getElem_take, List.getElem_map] at e
    rw [List.length_take, List.length_map] at hk
    rw [← e]
    exact h.less hs (List.getElem?_eq_getElem (by omega)) (by omega)
theorem place_behind {l : List Itm} {q : List UInt8} {i : Nat} (h : PlaceAt l q i) (hs : sortedI l) : (l.map Itm.abs).filter (fun y => Op.bytesLess q y.p) = (l.map Itm.abs).drop (if placeB l q i then i + 1 else i) := by
  have hlow : ∀ y ∈ (l.map Itm.abs).take (if placeB l q i then i + 1 else i), ¬ Op.bytesLess q y.p = true := by
    intro y hy
    obtain ⟨k, hk, e⟩ := List.getElem_of_mem hy
    rw [List.getElem_take, List.getElem_map] at e
    rw [List.length_take, List.length_map] at hk
    rw [← e]
    show ¬ Op.bytesLess q l[k].p.toList = true
    rcases Nat.lt_or_ge k i with h1 | h1
    · rw [less_asymm (h.less hs (List.getElem?_eq_getElem (by omega)) h1)]; simp
    · cases hp : placeB l q i
      · rw [hp] at hk; simp at hk; omega
      · rw [hp] at hk
        obtain ⟨hi, hq⟩ := placeB_lt hp
        obtain rfl : k = i := by simp at hk; omega
        have e2 : Op.bytesLess q l[k].p.toList = false := by conv => lhs; arg 1; rw [← hq]
                                                             exact less_irrefl _
        rw [e2]; simp
  have hhigh : ∀ y ∈ (l.map Itm.abs).drop (if placeB l q i then i + 1 else i), Op.bytesLess q y.p = true := by
    intro y hy
    cases hp : placeB l q i
    · rw [hp] at hy
      simp only [Bool.false_eq_true, if_false] at hy
      obtain ⟨k, hk, e⟩ := List.getElem_of_mem hy
      rw [List.getElem_drop, List.getElem_map] at e
      rw [List.length_drop, List.length_map] at hk
      rw [← e]
      show Op.bytesLess q l[i + k].p.toList = true
      rcases Nat.eq_zero_or_pos k with rfl | hpos
      · have hb := h.behind _ (List.getElem?_eq_getElem (by omega : i < l.length))
        show Op.bytesLess q l[i].p.toList = true
        cases hql : Op.bytesLess q l[i].p.toList
        · have he := less_total hql hb
          have : placeB l q i = true := by unfold placeB; rw [List.getElem?_eq_getElem (by omega : i < l.length)]; simp [← he]
          rw [hp] at this; cases this
        · rfl
      · exact h.more hs (List.getElem?_eq_getElem (by omega)) (by omega)
    · rw [hp] at hy
      simp only [if_true] at hy
      obtain ⟨k, hk, e⟩ := List.getElem_of_mem hy
      rw [List.getElem_drop, List.getElem_map] at e
      rw [List.length_drop, List.length_map] at hk
      rw [← e]
      exact h.more hs (List.getElem?_eq_getElem (by omega : i + 1 + k < l.length)) (by omega)
  conv => lhs; rw [← List.take_append_drop (if placeB l q i then i + 1 else i) (l.map Itm.abs), List.filter_append]
  rw [List.filter_eq_nil_iff.2 hlow, List.filter_eq_self.2 hhigh, List.nil_append]
theorem put_is {l : List Itm} {x : AIt} {i : Nat} (h : PlaceAt l x.p i) (hs : sortedI l) (hp : placeB l x.p i = true) : (l.map Itm.abs).set i x = putA (l.map Itm.abs) x := by
  obtain ⟨hi, _⟩ := placeB_lt hp
  unfold putA
  rw [place_ahead h hs, place_behind h hs, if_pos hp, List.set_eq_take_append_cons_drop, if_pos (by simpa using hi)]
theorem put_not {l : List Itm} {x : AIt} {i : Nat} (h : PlaceAt l x.p i) (hs : sortedI l) (hp : placeB l x.p i = false) : (l.map Itm.abs).take i ++ x :: (l.map Itm.abs).drop i = putA (l.map Itm.abs) x := by
  unfold putA
  rw [place_ahead h hs, place_behind h hs, hp]
  simp

theorem cells_set3 {l : List Itm} {i : Nat} (hi : i < l.length) (x : Itm) : (((l.flatMap Itm.cells).set (i * 3) (.string x.p)).set (i * 3 + 1) (.bool x.d)).set (i * 3 + 2) (.slice x.dA x.bs.length x.dc) = (l.set i x).flatMap Itm.cells := by
  induction l generalizing i with
  | nil => simp at hi
  | cons y r ih =>
    cases i with
    | zero => simp [Itm.cells]
    | succ i =>
      have h1 := ih (i := i) (by simpa using hi)
      have e : ∀ (xs : List Value) k u, (y.cells ++ xs).set ((i + 1) * 3 + k) u = y.cells ++ xs.set (i * 3 + k) u := fun xs k u => by
        rw [List.set_append_right _ _ (by simp [Itm.cells]; omega), show (i + 1) * 3 + k - y.cells.length = i * 3 + k by simp [Itm.cells]; omega]
      simp only [List.flatMap_cons, List.set_cons_succ]
      have e0 := e (r.flatMap Itm.cells) 0 (.string x.p)
      simp only [Nat.add_zero] at e0
      rw [e0, e, e, h1]
theorem Good.grown {w w' : World} {x : Itm} {row : Option Nat} (h : Good w x) (hg : w.grownBy w' row) (hn : ∀ k, (Value.slice x.dA x.bs.length x.dc).ownBlock = some k → row ≠ some k) : Good w' x :=
  ⟨h.size, h.len, h.src.keep fun k hk hl => hg.block k hl (fun e => hn k hk e.symm), h.rng⟩

end Go.Proofs.YtfoedcmcdpekoaaDoor
