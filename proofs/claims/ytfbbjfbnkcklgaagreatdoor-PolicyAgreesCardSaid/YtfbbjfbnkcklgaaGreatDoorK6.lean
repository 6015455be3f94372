/- tree.Find, within, parted, Under, Bytes -/
import Derived.Test.YtfbbjfbnkcklgaaGreatDoorK5
namespace Go.Proofs.YtfbbjfbnkcklgaaGreatDoor
open Go.RowKit

/-- a stretch of a slice of items -/
theorem items_part {w : World} {b off c : Nat} {l : List Itm} (h : Tr w (some ⟨b, off, none⟩) c l) {i j : Nat} (hj : j ≤ l.length) (hij : i ≤ j) : Tr w (some ⟨b, off + i * 3, none⟩) (c - i) ((l.take j).drop i) := by
  refine ⟨⟨?_, (fun h => nomatch h), ?_⟩, ?_, fun x hx => h.good x (List.mem_of_mem_take (List.mem_of_mem_drop hx))⟩
  · have := h.cap
    rw [List.length_drop, List.length_take]; omega
  · intro k x hx
    rw [List.getElem?_drop, List.getElem?_take] at hx
    split at hx
    · obtain ⟨b', off', h0, h1, h2, h3⟩ := h.cell (i + k) x hx
      cases h0
      exact ⟨b, _, rfl, by rw [show off + i * 3 + k * 3 = off + (i + k) * 3 by omega]; exact h1, by rw [show off + i * 3 + k * 3 + 1 = off + (i + k) * 3 + 1 by omega]; exact h2, by rw [show off + i * 3 + k * 3 + 2 = off + (i + k) * 3 + 2 by omega]; exact h3⟩
    · cases hx
  · have := h.max
    rw [List.length_drop, List.length_take]; omega

set_option maxRecDepth 100000 in
set_option maxHeartbeats 1600000 in
theorem find_walk (A : Option Addr) (c : Nat) (l : List Itm) (q : ByteArray) (w : World) (h : Tr w A c l) :
    Calls Tryz.prog 146 #[.slice A l.length c, .string q] w fun e w' => (∃ x : Itm, ∃ is : Bool, e = .returned (.tuple #[.agg #[.string x.p, .bool x.d, .slice x.dA x.bs.length x.dc], .bool is]) ∧ Good w' x ∧ (is = false → x.abs = ⟨[], false, []⟩) ∧
      (sortedI l → (findA (l.map Itm.abs) q.toList).isSome = is ∧ (is = true → findA (l.map Itm.abs) q.toList = some x.abs))) ∧ Below w.heap.size w w' := by
  have hm := h.max
  have HT := hid h
  clear h
  go_enter Tryz.func146, Tryz.ntmps146
  go_wp2_with fail
  have hbx := heap_alloc_new w (.cells #[.string ⟨#[]⟩, .bool false, .slice none 0 0] 42 (0, 0))
  have hb0 : Below w.heap.size w (w.alloc (.cells #[.string ⟨#[]⟩, .bool false, .slice none 0 0] 42 (0, 0))) := (Below.refl _ w).alloc (Nat.le_refl _) _
  have hs0 : (w.alloc (.cells #[.string ⟨#[]⟩, .bool false, .slice none 0 0] 42 (0, 0))).heap.size = w.heap.size + 1 := by simp
  generalize w.alloc (.cells #[.string ⟨#[]⟩, .bool false, .slice none 0 0] 42 (0, 0)) = w1 at *
  refine (place_walk A c l q w1 (HT.out.below hb0)).mono ?_
  rintro e w2 ⟨⟨i, rfl, hp⟩, hb2⟩
  have hbx2 := (hb2.block _ (by omega)).trans hbx
  have hb2' := thenB hb0 hb2
  have hf := hid (fun hs => hp.find hs)
  clear hp
  cases hpb : placeB l q.toList i
  · have n0 : w2.cell? ⟨w.heap.size, 0, none⟩ = some (.string ⟨#[]⟩) := (blkCell hbx2 0).trans rfl
    have n1 : w2.cell? ⟨w.heap.size, 1, none⟩ = some (.bool false) := (blkCell hbx2 1).trans rfl
    have n2 : w2.cell? ⟨w.heap.size, 2, none⟩ = some (.slice none 0 0) := (blkCell hbx2 2).trans rfl
    have f0 := blkFree hbx2 0
    have f1 := blkFree hbx2 1
    have f2 := blkFree hbx2 2
    go_wp2_with fail
    have e0 := blkSet (blkSet (blkSet hbx2 0 (.string ⟨#[]⟩)) 1 (.bool false)) 2 (.slice none 0 0)
    have eb := ((hb2'.setCell (p := ⟨w.heap.size, 0, none⟩) (by simp) (.string ⟨#[]⟩)).setCell (p := ⟨w.heap.size, 1, none⟩) (by simp) (.bool false)).setCell (p := ⟨w.heap.size, 2, none⟩) (by simp) (.slice none 0 0)
    generalize World.setCell (World.setCell (World.setCell w2 _ _) _ _) _ _ = V at *
    have m0 : V.cell? ⟨w.heap.size, 0, none⟩ = some (.string ⟨#[]⟩) := (blkCell e0 0).trans rfl
    have m1 : V.cell? ⟨w.heap.size, 1, none⟩ = some (.bool false) := (blkCell e0 1).trans rfl
    have m2 : V.cell? ⟨w.heap.size, 2, none⟩ = some (.slice none 0 0) := (blkCell e0 2).trans rfl
    refine bodyPost_ret (v := .tuple #[.agg #[.string ⟨#[]⟩, .bool false, .slice none 0 0], .bool false]) ?_ rfl ?_
    · simp [results, go_sem, m0, m1, m2]
    · refine ⟨⟨⟨⟨#[]⟩, false, none, 0, []⟩, false, rfl, ⟨Nat.zero_le _, by simp, (Row.nil V 5 1).src, by simp⟩, fun _ => by unfold Itm.abs; rw [ByteArray.toList_eq], fun hs => ?_⟩, eb⟩
      have h1 := hf.out hs
      rw [hpb] at h1
      rw [find_abs, h1]
      simp
  · obtain ⟨hi, hpe⟩ := placeB_lt hpb
    have HPE := hid hpe
    clear hpe
    have i0 : (0 : Int) ≤ (i : Int) := by omega
    have i1 : (i : Int) ≤ (i : Int) + 1 := by omega
    have i2 : (i : Int) + 1 ≤ (l.length : Int) := by omega
    have i3 : (i : Int) + 1 ≤ (c : Int) := by have := HT.out.cap; omega
    have e1 : wrap64 ((i : Int) + 1) = (i : Int) + 1 := by unfold wrap64; omega
    have e2 : ((i : Int) + 1).toNat = i + 1 := by omega
    have e3 : ((i : Int) + 1 - i).toNat = 1 := by omega
    obtain ⟨b, off, hA, _⟩ := (HT.out.below hb2').at hi
    subst hA
    have htp := items_part (HT.out.below hb2') (i := i) (j := i + 1) (by omega) (by omega)
    have hone : (l.take (i + 1)).drop i = [l[i]] := by
      rw [List.drop_take, List.drop_eq_getElem_cons hi, show i + 1 - i = 1 by omega]
      rfl
    rw [hone] at htp
    have HO := hid (own_walk _ _ _ w2 htp)
    clear hone
    go_wp2_with fail
    refine HO.out.mono ?_
    rintro e w3 ⟨⟨B, d, l', rfl, hrow, _, hma, hgo⟩, hb3⟩
    obtain ⟨y, rfl⟩ : ∃ y, l' = [y] := by
      have hl : l'.length = 1 := by have := congrArg List.length hma; simpa using this
      match l', hl with
      | [y], _ => exact ⟨y, rfl⟩
    obtain ⟨b', off', hB, c0, c1, c2, _⟩ := hrow.at3 (i := 0) (by simp)
    subst hB
    simp only [List.getElem_cons_zero, Nat.zero_mul, Nat.add_zero] at c0 c1 c2
    have hbx3 := (hb3.block _ (by have := blkLt hbx2; omega)).trans hbx2
    have hb3' := thenB hb2' hb3
    have n0 : w3.cell? ⟨w.heap.size, 0, none⟩ = some (.string ⟨#[]⟩) := (blkCell hbx3 0).trans rfl
    have n1 : w3.cell? ⟨w.heap.size, 1, none⟩ = some (.bool false) := (blkCell hbx3 1).trans rfl
    have n2 : w3.cell? ⟨w.heap.size, 2, none⟩ = some (.slice none 0 0) := (blkCell hbx3 2).trans rfl
    have f0 := blkFree hbx3 0
    have f1 := blkFree hbx3 1
    have f2 := blkFree hbx3 2
    obtain ⟨hgy, hfy⟩ := hgo y (by simp)
    have HG := hid hgy
    have HMA : HidP (y.abs = l[i].abs) := hid (by simpa using hma)
    clear hgo hma hrow htp HO
    simp only [List.length_cons, List.length_nil, Nat.zero_add]
    go_wp2_with fail
    have e0 := blkSet (blkSet (blkSet hbx3 0 (.string y.p)) 1 (.bool y.d)) 2 (.slice y.dA y.bs.length y.dc)
    have eb := ((hb3'.setCell (p := ⟨w.heap.size, 0, none⟩) (by simp) (.string y.p)).setCell (p := ⟨w.heap.size, 1, none⟩) (by simp) (.bool y.d)).setCell (p := ⟨w.heap.size, 2, none⟩) (by simp) (.slice y.dA y.bs.length y.dc)
    have hne : ∀ k, (Value.slice y.dA y.bs.length y.dc).ownBlock = some k → k ≠ w.heap.size := fun k hk => by have h1 := (hfy k hk).1; have h2 := blkLt hbx2; omega
    have ebg := ((HG.out.set (p := ⟨w.heap.size, 0, none⟩) hne (.string y.p)).set (p := ⟨w.heap.size, 1, none⟩) hne (.bool y.d)).set (p := ⟨w.heap.size, 2, none⟩) hne (.slice y.dA y.bs.length y.dc)
    generalize World.setCell (World.setCell (World.setCell w3 _ _) _ _) _ _ = V at *
    have m0 : V.cell? ⟨w.heap.size, 0, none⟩ = some (.string y.p) := (blkCell e0 0).trans rfl
    have m1 : V.cell? ⟨w.heap.size, 1, none⟩ = some (.bool y.d) := (blkCell e0 1).trans rfl
    have m2 : V.cell? ⟨w.heap.size, 2, none⟩ = some (.slice y.dA y.bs.length y.dc) := (blkCell e0 2).trans rfl
    refine bodyPost_ret (v := .tuple #[.agg #[.string y.p, .bool y.d, .slice y.dA y.bs.length y.dc], .bool true]) ?_ rfl ?_
    · simp [results, go_sem, m0, m1, m2]
    · refine ⟨⟨y, true, rfl, ebg, (fun h => nomatch h), fun hs => ?_⟩, eb⟩
      have h1 := hf.out hs
      rw [hpb, List.getElem?_eq_getElem hi] at h1
      rw [find_abs, h1, HMA.out]
      simp

end Go.Proofs.YtfbbjfbnkcklgaaGreatDoor
