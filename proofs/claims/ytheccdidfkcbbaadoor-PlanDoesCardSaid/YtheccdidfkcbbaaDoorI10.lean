/- the reference's Mkdir, Write, Remove -/
import Derived.Test.YtheccdidfkcbbaaDoorI9
namespace Go.Proofs.YtheccdidfkcbbaaDoor
open Go.RowKit

set_option maxRecDepth 100000 in
set_option maxHeartbeats 4000000 in
theorem refmkdir (A : Option Addr) (c : Nat) (l : List Itm) (p : ByteArray) (w : World) (h : Tr w A c l) (hp : p.size ≤ 140737488351232) :
    Calls Tryd.prog 35 #[.slice A l.length c, .string p] w fun e w' => (∃ B d l' f, e = .returned (.tuple #[.slice B l'.length d, .int .i64 f]) ∧ Tr w' B d l' ∧ (l'.map Itm.abs, f) = mkdirA (l.map Itm.abs) p.toList) ∧ Below w.heap.size w w' := by
  have HF := hid (reffind_is A c l p w h)
  have HD := hid (fun W (hW : Below w.heap.size w W) => refdir A c l p W (h.below hW) hp)
  have HR := hid (fun W (hW : Below w.heap.size w W) => refright A c l W (h.below hW))
  have HP := hid (fun W => refpath p W)
  have HS := hid (right_sorted (t := l.map Itm.abs))
  have HT := hid h
  have hm := h.max
  have hlm : (l.map Itm.abs).length = l.length := List.length_map _
  have HLM := hid hlm
  clear h hlm
  obtain ⟨D, hD⟩ : ∃ D, dirA (l.map Itm.abs) p.toList = D := ⟨_, rfl⟩
  rw [hD] at HD
  have HDD := hid hD
  clear hD
  cases hR : rightA (l.map Itm.abs)
  · rw [hR] at HR
    go_enter Tryd.func35, Tryd.ntmps35
    go_wp2_with fail
    refine HF.out.mono ?_
    rintro e w1 ⟨⟨a0, a1, a2, a3, rfl⟩, hb1⟩
    go_wp2_with fail
    refine (HD.out _ (thenA hb1 _)).mono ?_
    rintro e w2 ⟨rfl, hb2⟩
    replace hb2 := thenB (thenA hb1 _) hb2
    go_wp2_with fail
    refine (HR.out _ hb2).mono ?_
    rintro e w3 ⟨rfl, hb3⟩
    replace hb3 := thenB hb2 hb3
    go_wp2_with fail
    go_ret2
    exact ⟨⟨none, 0, [], 1, rfl, Tr.none _, by simp [mkdirA, hR]⟩, hb3⟩
  · rw [hR] at HR
    cases hP : pathB p.toList
    · rw [hP] at HP
      go_enter Tryd.func35, Tryd.ntmps35
      go_wp2_with fail
      refine HF.out.mono ?_
      rintro e w1 ⟨⟨a0, a1, a2, a3, rfl⟩, hb1⟩
      go_wp2_with fail
      refine (HD.out _ (thenA hb1 _)).mono ?_
      rintro e w2 ⟨rfl, hb2⟩
      replace hb2 := thenB (thenA hb1 _) hb2
      go_wp2_with fail
      refine (HR.out _ hb2).mono ?_
      rintro e w3 ⟨rfl, hb3⟩
      replace hb3 := thenB hb2 hb3
      go_wp2_with fail
      refine (HP.out _).mono ?_
      rintro e w4 ⟨rfl, hb4⟩
      replace hb4 := thenB hb3 hb4
      go_wp2_with fail
      go_ret2
      exact ⟨⟨none, 0, [], 10, rfl, Tr.none _, by simp [mkdirA, hR, hP]⟩, hb4⟩
    · rw [hP] at HP
      by_cases hz : D = 0
      · subst hz
        cases hF : (findA (l.map Itm.abs) p.toList).isSome
        · rw [hF] at HF
          have hF2 := hid hF
          clear hF
          by_cases hl : 60 ≤ l.length
          · have g2 : decide ((l.length : Int) ≥ 60) = true := decide_eq_true (by omega)
            go_enter Tryd.func35, Tryd.ntmps35
            go_wp2_with fail
            refine HF.out.mono ?_
            rintro e w1 ⟨⟨a0, a1, a2, a3, rfl⟩, hb1⟩
            go_wp2_with fail
            refine (HD.out _ (thenA hb1 _)).mono ?_
            rintro e w2 ⟨rfl, hb2⟩
            replace hb2 := thenB (thenA hb1 _) hb2
            go_wp2_with fail
            refine (HR.out _ hb2).mono ?_
            rintro e w3 ⟨rfl, hb3⟩
            replace hb3 := thenB hb2 hb3
            go_wp2_with fail
            refine (HP.out _).mono ?_
            rintro e w4 ⟨rfl, hb4⟩
            replace hb4 := thenB hb3 hb4
            go_wp2_with fail
            go_ret2
            exact ⟨⟨none, 0, [], 2, rfl, Tr.none _, by simp [mkdirA, hR, hP, HDD.out, hF2.out, HLM.out, hl]⟩, hb4⟩
          · have g2 : decide ((l.length : Int) ≥ 60) = false := decide_eq_false (by omega)
            go_enter Tryd.func35, Tryd.ntmps35
            go_wp2_with fail
            refine HF.out.mono ?_
            rintro e w1 ⟨⟨a0, a1, a2, a3, rfl⟩, hb1⟩
            go_wp2_with fail
            refine (HD.out _ (thenA hb1 _)).mono ?_
            rintro e w2 ⟨rfl, hb2⟩
            replace hb2 := thenB (thenA hb1 _) hb2
            go_wp2_with fail
            refine (HR.out _ hb2).mono ?_
            rintro e w3 ⟨rfl, hb3⟩
            replace hb3 := thenB hb2 hb3
            go_wp2_with fail
            refine (HP.out _).mono ?_
            rintro e w4 ⟨rfl, hb4⟩
            replace hb4 := thenB hb3 hb4
            go_wp2_with fail
            refine (refput_sorted A c l (dirItm p) _ (HT.out.below hb4) (Good.dirItm _ hp) (by omega) (HS.out hR)).mono ?_
            rintro e w5 ⟨⟨B, d, l', rfl, ht, hl'⟩, hb5⟩
            replace hb5 := thenB hb4 hb5
            have hl'' := hid hl'
            clear hl'
            go_wp2_with fail
            go_ret2
            exact ⟨⟨B, d, l', 0, rfl, ht, by rw [hl''.out]; simp [mkdirA, hR, hP, HDD.out, hF2.out, HLM.out, hl]; rfl⟩, hb5⟩
        · rw [hF] at HF
          have hF2 := hid hF
          clear hF
          go_enter Tryd.func35, Tryd.ntmps35
          go_wp2_with fail
          refine HF.out.mono ?_
          rintro e w1 ⟨⟨a0, a1, a2, a3, rfl⟩, hb1⟩
          go_wp2_with fail
          refine (HD.out _ (thenA hb1 _)).mono ?_
          rintro e w2 ⟨rfl, hb2⟩
          replace hb2 := thenB (thenA hb1 _) hb2
          go_wp2_with fail
          refine (HR.out _ hb2).mono ?_
          rintro e w3 ⟨rfl, hb3⟩
          replace hb3 := thenB hb2 hb3
          go_wp2_with fail
          refine (HP.out _).mono ?_
          rintro e w4 ⟨rfl, hb4⟩
          replace hb4 := thenB hb3 hb4
          go_wp2_with fail
          go_ret2
          exact ⟨⟨none, 0, [], 6, rfl, Tr.none _, by simp [mkdirA, hR, hP, HDD.out, hF2.out]⟩, hb4⟩
      · have g1 : (D != 0) = true := by simp [hz]
        go_enter Tryd.func35, Tryd.ntmps35
        go_wp2_with fail
        refine HF.out.mono ?_
        rintro e w1 ⟨⟨a0, a1, a2, a3, rfl⟩, hb1⟩
        go_wp2_with fail
        refine (HD.out _ (thenA hb1 _)).mono ?_
        rintro e w2 ⟨rfl, hb2⟩
        replace hb2 := thenB (thenA hb1 _) hb2
        go_wp2_with fail
        refine (HR.out _ hb2).mono ?_
        rintro e w3 ⟨rfl, hb3⟩
        replace hb3 := thenB hb2 hb3
        go_wp2_with fail
        refine (HP.out _).mono ?_
        rintro e w4 ⟨rfl, hb4⟩
        replace hb4 := thenB hb3 hb4
        go_wp2_with fail
        go_ret2
        exact ⟨⟨none, 0, [], D, rfl, Tr.none _, by simp [mkdirA, hR, hP, HDD.out, hz]⟩, hb4⟩

set_option maxRecDepth 100000 in
set_option maxHeartbeats 4000000 in
theorem refremove (A : Option Addr) (c : Nat) (l : List Itm) (p : ByteArray) (deep : Bool) (w : World) (h : Tr w A c l) (hp : p.size ≤ 140737488351232) :
    Calls Tryd.prog 34 #[.slice A l.length c, .string p, .bool deep] w fun e w' => (∃ B d l' f, e = .returned (.tuple #[.slice B l'.length d, .int .i64 f]) ∧ Tr w' B d l' ∧ (l'.map Itm.abs, f) = removeA (l.map Itm.abs) p.toList deep) ∧ Below w.heap.size w w' := by
  have HF := hid (reffind_is A c l p w h)
  have HR := hid (fun W (hW : Below w.heap.size w W) => refright A c l W (h.below hW))
  have HP := hid (fun W => refpath p W)
  have HU := hid (fun W (hW : Below w.heap.size w W) => refunder A c l p W (h.below hW) hp)
  have HO := hid (fun W (hW : Below w.heap.size w W) => refwithout A c l p W (h.below hW) hp)
  have hun : (underA (l.map Itm.abs) p.toList).length = (l.filter fun x => withinA p.toList x.p.toList).length := by unfold underA; rw [List.filter_map, List.length_map]; rfl
  have hwo : (l.filter fun x => !withinA p.toList x.p.toList).map Itm.abs = withoutA (l.map Itm.abs) p.toList := by unfold withoutA; rw [List.filter_map]; rfl
  have HUN := hid hun
  have HWO := hid hwo
  have hm := h.max
  clear h hun hwo
  cases hR : rightA (l.map Itm.abs)
  · rw [hR] at HR
    go_enter Tryd.func34, Tryd.ntmps34
    go_wp2_with fail
    refine HF.out.mono ?_
    rintro e w1 ⟨⟨a0, a1, a2, a3, rfl⟩, hb1⟩
    go_wp2_with fail
    refine (HR.out _ (thenA hb1 _)).mono ?_
    rintro e w3 ⟨rfl, hb3⟩
    replace hb3 := thenB (thenA hb1 _) hb3
    go_wp2_with fail
    go_ret2
    exact ⟨⟨none, 0, [], 1, rfl, Tr.none _, by simp [removeA, hR]⟩, hb3⟩
  · rw [hR] at HR
    cases hP : pathB p.toList
    · rw [hP] at HP
      go_enter Tryd.func34, Tryd.ntmps34
      go_wp2_with fail
      refine HF.out.mono ?_
      rintro e w1 ⟨⟨a0, a1, a2, a3, rfl⟩, hb1⟩
      go_wp2_with fail
      refine (HR.out _ (thenA hb1 _)).mono ?_
      rintro e w3 ⟨rfl, hb3⟩
      replace hb3 := thenB (thenA hb1 _) hb3
      go_wp2_with fail
      refine (HP.out _).mono ?_
      rintro e w4 ⟨rfl, hb4⟩
      replace hb4 := thenB hb3 hb4
      go_wp2_with fail
      go_ret2
      exact ⟨⟨none, 0, [], 10, rfl, Tr.none _, by simp [removeA, hR, hP]⟩, hb4⟩
    · rw [hP] at HP
      cases hF : (findA (l.map Itm.abs) p.toList).isSome
      · rw [hF] at HF
        have hF2 := hid hF
        clear hF
        go_enter Tryd.func34, Tryd.ntmps34
        go_wp2_with fail
        refine HF.out.mono ?_
        rintro e w1 ⟨⟨a0, a1, a2, a3, rfl⟩, hb1⟩
        go_wp2_with fail
        refine (HR.out _ (thenA hb1 _)).mono ?_
        rintro e w3 ⟨rfl, hb3⟩
        replace hb3 := thenB (thenA hb1 _) hb3
        go_wp2_with fail
        refine (HP.out _).mono ?_
        rintro e w4 ⟨rfl, hb4⟩
        replace hb4 := thenB hb3 hb4
        go_wp2_with fail
        go_ret2
        exact ⟨⟨none, 0, [], 5, rfl, Tr.none _, by simp [removeA, hR, hP, hF2.out]⟩, hb4⟩
      · rw [hF] at HF
        have hF2 := hid hF
        clear hF
        cases deep
        · by_cases hl : 1 < (l.filter fun x => withinA p.toList x.p.toList).length
          · have g2 : decide (((l.filter fun x => withinA p.toList x.p.toList).length : Int) > 1) = true := decide_eq_true (by omega)
            go_enter Tryd.func34, Tryd.ntmps34
            go_wp2_with fail
            refine HF.out.mono ?_
            rintro e w1 ⟨⟨a0, a1, a2, a3, rfl⟩, hb1⟩
            go_wp2_with fail
            refine (HR.out _ (thenA hb1 _)).mono ?_
            rintro e w3 ⟨rfl, hb3⟩
            replace hb3 := thenB (thenA hb1 _) hb3
            go_wp2_with fail
            refine (HP.out _).mono ?_
            rintro e w4 ⟨rfl, hb4⟩
            replace hb4 := thenB hb3 hb4
            go_wp2_with fail
            refine (HU.out _ hb4).mono ?_
            rintro e w5 ⟨⟨B0, d0, rfl, ht0⟩, hb5⟩
            replace hb5 := thenB hb4 hb5
            clear ht0
            go_wp2_with fail
            go_ret2
            exact ⟨⟨none, 0, [], 9, rfl, Tr.none _, by simp [removeA, hR, hP, hF2.out, HUN.out, hl]⟩, hb5⟩
          · have g2 : decide (((l.filter fun x => withinA p.toList x.p.toList).length : Int) > 1) = false := decide_eq_false (by omega)
            go_enter Tryd.func34, Tryd.ntmps34
            go_wp2_with fail
            refine HF.out.mono ?_
            rintro e w1 ⟨⟨a0, a1, a2, a3, rfl⟩, hb1⟩
            go_wp2_with fail
            refine (HR.out _ (thenA hb1 _)).mono ?_
            rintro e w3 ⟨rfl, hb3⟩
            replace hb3 := thenB (thenA hb1 _) hb3
            go_wp2_with fail
            refine (HP.out _).mono ?_
            rintro e w4 ⟨rfl, hb4⟩
            replace hb4 := thenB hb3 hb4
            go_wp2_with fail
            refine (HU.out _ hb4).mono ?_
            rintro e w5 ⟨⟨B0, d0, rfl, ht0⟩, hb5⟩
            replace hb5 := thenB hb4 hb5
            clear ht0
            go_wp2_with fail
            refine (HO.out _ hb5).mono ?_
            rintro e w6 ⟨⟨B, d, rfl, ht⟩, hb6⟩
            replace hb6 := thenB hb5 hb6
            go_wp2_with fail
            go_ret2
            exact ⟨⟨B, d, _, 0, rfl, ht, by rw [HWO.out]; simp [removeA, hR, hP, hF2.out, HUN.out, hl]⟩, hb6⟩
        · go_enter Tryd.func34, Tryd.ntmps34
          go_wp2_with fail
          refine HF.out.mono ?_
          rintro e w1 ⟨⟨a0, a1, a2, a3, rfl⟩, hb1⟩
          go_wp2_with fail
          refine (HR.out _ (thenA hb1 _)).mono ?_
          rintro e w3 ⟨rfl, hb3⟩
          replace hb3 := thenB (thenA hb1 _) hb3
          go_wp2_with fail
          refine (HP.out _).mono ?_
          rintro e w4 ⟨rfl, hb4⟩
          replace hb4 := thenB hb3 hb4
          go_wp2_with fail
          refine (HO.out _ hb4).mono ?_
          rintro e w6 ⟨⟨B, d, rfl, ht⟩, hb6⟩
          replace hb6 := thenB hb4 hb6
          go_wp2_with fail
          go_ret2
          exact ⟨⟨B, d, _, 0, rfl, ht, by rw [HWO.out]; simp [removeA, hR, hP, hF2.out]⟩, hb6⟩

end Go.Proofs.YtheccdidfkcbbaaDoor
