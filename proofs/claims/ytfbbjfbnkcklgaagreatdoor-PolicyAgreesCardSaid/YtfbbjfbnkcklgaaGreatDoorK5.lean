/- what a place tells of items that lie ascending; (Tree).dir, Find -/
import Derived.Test.YtfbbjfbnkcklgaaGreatDoorK4
namespace Go.Proofs.YtfbbjfbnkcklgaaGreatDoor
open Go.RowKit

theorem sorted_lt {l : List Itm} (h : sortedI l) {i j : Nat} {x y : Itm} (hx : l[i]? = some x) (hy : l[j]? = some y) (hij : i < j) : Op.bytesLess x.p.toList y.p.toList = true := by
  obtain ⟨hi, ex⟩ := List.getElem?_eq_some_iff.1 hx
  obtain ⟨hj, ey⟩ := List.getElem?_eq_some_iff.1 hy
  rw [← ex, ← ey]
  exact List.pairwise_iff_getElem.1 h i j hi hj hij
/-- what stands ahead is less -/
theorem PlaceAt.less {l : List Itm} {q : List UInt8} {i : Nat} (h : PlaceAt l q i) (hs : sortedI l) {k : Nat} {x : Itm} (hx : l[k]? = some x) (hk : k < i) : Op.bytesLess x.p.toList q = true := by
  obtain ⟨j, rfl⟩ : ∃ j, i = j + 1 := ⟨i - 1, by omega⟩
  have hj : j < l.length := by have := h.le; omega
  have h1 := h.ahead j _ rfl (List.getElem?_eq_getElem hj)
  rcases Nat.lt_or_ge k j with hkj | hkj
  · exact less_trans (sorted_lt hs hx (List.getElem?_eq_getElem hj) hkj) h1
  · obtain rfl : k = j := by omega
    rw [List.getElem?_eq_getElem hj] at hx
    rw [← Option.some.inj hx]; exact h1
/-- what stands behind is greater -/
theorem PlaceAt.more {l : List Itm} {q : List UInt8} {i : Nat} (h : PlaceAt l q i) (hs : sortedI l) {k : Nat} {x : Itm} (hx : l[k]? = some x) (hk : i < k) : Op.bytesLess q x.p.toList = true := by
  have hkl : k < l.length := (List.getElem?_eq_some_iff.1 hx).1
  have hi : i < l.length := by omega
  have h1 := h.behind _ (List.getElem?_eq_getElem hi)
  have h2 := sorted_lt hs (List.getElem?_eq_getElem hi) hx hk
  cases h3 : Op.bytesLess q l[i].p.toList
  · rw [less_total h3 h1]; exact h2
  · exact less_trans h3 h2
theorem PlaceAt.find {l : List Itm} {q : List UInt8} {i : Nat} (h : PlaceAt l q i) (hs : sortedI l) : l.find? (fun x => x.p.toList == q) = if placeB l q i then l[i]? else none := by
  have h0 : (l.take i).find? (fun x => x.p.toList == q) = none := by
    rw [List.find?_eq_none]
    intro x hx
    obtain ⟨k, hk, e⟩ := List.getElem_of_mem hx
    rw [List.getElem_take] at e
    rw [List.length_take] at hk
    have := less_ne (h.less hs (k := k) (x := x) (by rw [List.getElem?_eq_getElem (by omega), e]) (by omega))
    simpa using this
  cases hp : placeB l q i
  · have : ∀ x ∈ l, ¬ (x.p.toList == q) = true := by
      intro x hx
      obtain ⟨k, hk, e⟩ := List.getElem_of_mem hx
      have hkx : l[k]? = some x := by rw [List.getElem?_eq_getElem hk, e]
      rcases Nat.lt_trichotomy k i with h1 | rfl | h1
      · have := less_ne (h.less hs hkx h1); simpa using this
      · unfold placeB at hp; rw [hkx] at hp; simpa using hp
      · have := (less_ne (h.more hs hkx h1)).symm; simpa using this
    rw [List.find?_eq_none.2 this]
    simp
  · have hi : i < l.length := by
      rcases Nat.lt_or_ge i l.length with h1 | h1
      · exact h1
      · unfold placeB at hp; rw [List.getElem?_eq_none h1] at hp; cases hp
    have hq : (l[i].p.toList == q) = true := by unfold placeB at hp; rw [List.getElem?_eq_getElem hi] at hp; exact hp
    rw [find_hit hi h0 hq, List.getElem?_eq_getElem hi]
    simp
theorem placeB_lt {l : List Itm} {q : List UInt8} {i : Nat} (hp : placeB l q i = true) : ∃ hi : i < l.length, l[i].p.toList = q := by
  have hi : i < l.length := by
    rcases Nat.lt_or_ge i l.length with h1 | h1
    · exact h1
    · unfold placeB at hp; rw [List.getElem?_eq_none h1] at hp; cases hp
  refine ⟨hi, ?_⟩
  unfold placeB at hp
  rw [List.getElem?_eq_getElem hi] at hp
  exact eq_of_beq hp

set_option maxRecDepth 100000 in
set_option maxHeartbeats 1600000 in
theorem dir_walk (A : Option Addr) (c : Nat) (l : List Itm) (q : ByteArray) (w : World) (h : Tr w A c l) (hs : sortedI l) (hq : q.size ≤ 140737488351232) :
    Calls Tryz.prog 44 #[.slice A l.length c, .string q] w fun e w' => e = .returned (.int .i64 (dirA (l.map Itm.abs) q.toList)) ∧ Below w.heap.size w w' := by
  have H := hid (split_walk q w hq)
  have hm := h.max
  have HT := hid h
  clear h
  go_enter Tryz.func44, Tryz.ntmps44
  go_wp2_with fail
  refine H.out.mono ?_
  rintro e w1 ⟨⟨d, n, rfl, hdn⟩, hb⟩
  have hd : (splitL q.toList).1 = d.toList := by rw [← hdn]
  have e0 : dirA (l.map Itm.abs) q.toList = if d.toList = [] then 0 else match (l.find? (fun x => x.p.toList == d.toList)).map Itm.abs with
    | none => 5
    | some x => if x.d then 0 else 7 := by
    unfold dirA
    rw [hd, find_abs]
    rfl
  have HE := hid e0
  clear H e0 hd hdn
  by_cases hd0 : d.toList = []
  · have g1 : (d.toList == []) = true := by simp [hd0]
    have HD := hid hd0
    clear hd0
    go_wp2_with fail
    go_ret
    exact ⟨by rw [HE.out, if_pos HD.out]; rfl, hb⟩
  · have g1 : (d.toList == []) = false := by simp [hd0]
    have HD := hid hd0
    clear hd0
    go_wp2_with fail
    refine (place_walk A c l d w1 (HT.out.below hb)).mono ?_
    rintro e w2 ⟨⟨i, rfl, hp⟩, hb2⟩
    have hf := hp.find hs
    have hb3 := thenB hb hb2
    cases hpb : placeB l d.toList i
    · rw [hpb] at hf
      have HF := hid hf
      clear hf hp
      go_wp2_with fail
      go_ret
      exact ⟨by rw [HE.out, if_neg HD.out, HF.out]; rfl, hb3⟩
    · obtain ⟨hi, hpe⟩ := placeB_lt hpb
      rw [hpb, List.getElem?_eq_getElem hi] at hf
      have HF := hid hf
      clear hf hp hpe
      have i0 : (0 : Int) ≤ (i : Int) := by omega
      have i1 : (i : Int) < (l.length : Int) := by omega
      obtain ⟨b, off, hA, c0, c1, c2, hg⟩ := (HT.out.below hb3).at hi
      subst hA
      have HR : HidP (dirA (l.map Itm.abs) q.toList = if l[i].d then 0 else 7) := hid (by rw [HE.out, if_neg HD.out, HF.out]; rfl)
      clear HE HF
      cases hdd : l[i].d
      · rw [hdd] at c1
        go_wp2_with fail
        go_ret
        exact ⟨by rw [HR.out, hdd]; rfl, hb3⟩
      · rw [hdd] at c1
        go_wp2_with fail
        go_ret
        exact ⟨by rw [HR.out, hdd]; rfl, hb3⟩

end Go.Proofs.YtfbbjfbnkcklgaaGreatDoor
