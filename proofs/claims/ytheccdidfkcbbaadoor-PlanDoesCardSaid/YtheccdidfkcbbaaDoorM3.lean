/- tree.Remove, Rename -/
import Derived.Test.YtheccdidfkcbbaaDoorM2
namespace Go.Proofs.YtheccdidfkcbbaaDoor
open Go.RowKit

def renameB (t : List AIt) (frm to : List UInt8) : List AIt × Int :=
  if rightA t = false then ([], 1) else if pathB frm = false then ([], 10) else if pathB to = false then ([], 10) else if (findA t frm).isSome = false then ([], 5) else if dirA t to ≠ 0 then ([], dirA t to) else
  if frm = to then (t, 0) else if (findA t to).isSome = true then ([], 6) else if withinA frm to = true then ([], 1) else
  match moveL frm to (underA t frm) (withoutA t frm) with
  | none => ([], 10)
  | some o => (o, 0)
theorem within_prefB {p q : List UInt8} (h : withinA p q = true) : prefB p q = true := by
  rw [within_pref, Bool.and_eq_true] at h
  exact h.1

set_option maxRecDepth 100000 in
set_option maxHeartbeats 8000000 in
theorem remove_walk (A : Option Addr) (c : Nat) (l : List Itm) (p : ByteArray) (deep : Bool) (w : World) (h : Tr w A c l) (hp : p.size ≤ 140737488351232) :
    Calls Tryd.prog 44 #[.slice A l.length c, .string p, .bool deep] w fun e w' => (∃ B d l' f, e = .returned (.tuple #[.slice B l'.length d, .int .i64 f]) ∧ Tr w' B d l' ∧ (l'.map Itm.abs, f) = removeA (l.map Itm.abs) p.toList deep) ∧ Below w.heap.size w w' := by
  have HR := hid (right_walk A c l w h)
  have HP := hid (path_walk p hp)
  have HPL := hid (fun W (hW : Below w.heap.size w W) (hs : sortedI l) => place_found A c l p W (h.below hW) hs)
  have HPA := hid (fun W (hW : Below w.heap.size w W) => parted_walk A c l p W (h.below hW))
  have HS := hid (fun (hr : rightA (l.map Itm.abs) = true) => sortedI_of (right_sorted hr))
  have hun : (underA (l.map Itm.abs) p.toList).length = (l.filter fun x => withinA p.toList x.p.toList).length := by unfold underA; rw [List.filter_map, List.length_map]; rfl
  have hwo : (l.filter fun x => !withinA p.toList x.p.toList).map Itm.abs = withoutA (l.map Itm.abs) p.toList := by unfold withoutA; rw [List.filter_map]; rfl
  have HUN := hid hun
  have HWO := hid hwo
  have hm := h.max
  have hul := List.length_filter_le (fun x => withinA p.toList x.p.toList) l
  clear h hun hwo
  cases hR : rightA (l.map Itm.abs)
  · rw [hR] at HR
    go_enter Tryd.func44, Tryd.ntmps44
    go_wp2_with fail
    refine HR.out.mono ?_
    rintro e w1 ⟨rfl, hb1⟩
    go_wp2_with fail
    go_ret2
    exact ⟨⟨none, 0, [], 1, rfl, Tr.none _, by simp [removeA, hR]⟩, hb1⟩
  · rw [hR] at HR
    cases hP : pathB p.toList
    · rw [hP] at HP
      go_enter Tryd.func44, Tryd.ntmps44
      go_wp2_with fail
      refine HR.out.mono ?_
      rintro e w1 ⟨rfl, hb1⟩
      go_wp2_with fail
      refine (HP.out _).mono ?_
      rintro e w2 ⟨rfl, hb2⟩
      replace hb2 := thenB hb1 hb2
      go_wp2_with fail
      go_ret2
      exact ⟨⟨none, 0, [], 10, rfl, Tr.none _, by simp [removeA, hR, hP]⟩, hb2⟩
    · rw [hP] at HP
      cases hF : (findA (l.map Itm.abs) p.toList).isSome
      · rw [hF] at HPL
        have hF2 := hid hF
        clear hF
        go_enter Tryd.func44, Tryd.ntmps44
        go_wp2_with fail
        refine HR.out.mono ?_
        rintro e w1 ⟨rfl, hb1⟩
        go_wp2_with fail
        refine (HP.out _).mono ?_
        rintro e w2 ⟨rfl, hb2⟩
        replace hb2 := thenB hb1 hb2
        go_wp2_with fail
        refine (HPL.out _ hb2 (HS.out hR)).mono ?_
        rintro e w3 ⟨⟨i, rfl, _⟩, hb3⟩
        replace hb3 := thenB hb2 hb3
        go_wp2_with fail
        go_ret2
        exact ⟨⟨none, 0, [], 5, rfl, Tr.none _, by simp [removeA, hR, hP, hF2.out]⟩, hb3⟩
      · rw [hF] at HPL
        have hF2 := hid hF
        clear hF
        cases deep
        · by_cases hl : 1 < (l.filter fun x => withinA p.toList x.p.toList).length
          · have g2 : decide (((l.filter fun x => withinA p.toList x.p.toList).length : Int) > 1) = true := decide_eq_true (by omega)
            go_enter Tryd.func44, Tryd.ntmps44
            go_wp2_with fail
            refine HR.out.mono ?_
            rintro e w1 ⟨rfl, hb1⟩
            go_wp2_with fail
            refine (HP.out _).mono ?_
            rintro e w2 ⟨rfl, hb2⟩
            replace hb2 := thenB hb1 hb2
            go_wp2_with fail
            refine (HPL.out _ hb2 (HS.out hR)).mono ?_
            rintro e w3 ⟨⟨i, rfl, _⟩, hb3⟩
            replace hb3 := thenB hb2 hb3
            go_wp2_with fail
            refine (HPA.out _ hb3).mono ?_
            rintro e w4 ⟨⟨B0, d0, C0, u0, rfl, ht0, ht1⟩, hb4⟩
            replace hb4 := thenB hb3 hb4
            go_wp2_with fail
            go_ret2
            exact ⟨⟨none, 0, [], 9, rfl, Tr.none _, by simp [removeA, hR, hP, hF2.out, HUN.out, hl]⟩, hb4⟩
          · have g2 : decide (((l.filter fun x => withinA p.toList x.p.toList).length : Int) > 1) = false := decide_eq_false (by omega)
            go_enter Tryd.func44, Tryd.ntmps44
            go_wp2_with fail
            refine HR.out.mono ?_
            rintro e w1 ⟨rfl, hb1⟩
            go_wp2_with fail
            refine (HP.out _).mono ?_
            rintro e w2 ⟨rfl, hb2⟩
            replace hb2 := thenB hb1 hb2
            go_wp2_with fail
            refine (HPL.out _ hb2 (HS.out hR)).mono ?_
            rintro e w3 ⟨⟨i, rfl, _⟩, hb3⟩
            replace hb3 := thenB hb2 hb3
            go_wp2_with fail
            refine (HPA.out _ hb3).mono ?_
            rintro e w4 ⟨⟨B0, d0, C0, u0, rfl, ht0, ht1⟩, hb4⟩
            replace hb4 := thenB hb3 hb4
            go_wp2_with fail
            refine (own_tr _ _ _ _ ht1).mono ?_
            rintro e w5 ⟨⟨B, d, l', rfl, ht, hma⟩, hb5⟩
            replace hb5 := thenB hb4 hb5
            replace hma := hid hma
            go_wp2_with fail
            go_ret2
            exact ⟨⟨B, d, l', 0, rfl, ht, by rw [hma.out, HWO.out]; simp [removeA, hR, hP, hF2.out, HUN.out, hl]⟩, hb5⟩
        · go_enter Tryd.func44, Tryd.ntmps44
          go_wp2_with fail
          refine HR.out.mono ?_
          rintro e w1 ⟨rfl, hb1⟩
          go_wp2_with fail
          refine (HP.out _).mono ?_
          rintro e w2 ⟨rfl, hb2⟩
          replace hb2 := thenB hb1 hb2
          go_wp2_with fail
          refine (HPL.out _ hb2 (HS.out hR)).mono ?_
          rintro e w3 ⟨⟨i, rfl, _⟩, hb3⟩
          replace hb3 := thenB hb2 hb3
          go_wp2_with fail
          refine (HPA.out _ hb3).mono ?_
          rintro e w4 ⟨⟨B0, d0, C0, u0, rfl, ht0, ht1⟩, hb4⟩
          replace hb4 := thenB hb3 hb4
          go_wp2_with fail
          refine (own_tr _ _ _ _ ht1).mono ?_
          rintro e w5 ⟨⟨B, d, l', rfl, ht, hma⟩, hb5⟩
          replace hb5 := thenB hb4 hb5
          replace hma := hid hma
          go_wp2_with fail
          go_ret2
          exact ⟨⟨B, d, l', 0, rfl, ht, by rw [hma.out, HWO.out]; simp [removeA, hR, hP, hF2.out]⟩, hb5⟩

end Go.Proofs.YtheccdidfkcbbaaDoor
