/- tree.Remove, Rename -/
import Derived.Test.YtfoedcmcdpekoaaDoorM2
namespace Go.Proofs.YtfoedcmcdpekoaaDoor
open Go.RowKit

def renameB (t : List AIt) (frm to : List UInt8) : List AIt × Int :=
  if rightA t = false then ([], 1) else if pathB frm = false then ([], 10) else if pathB to = false then ([], 10) else if (findA t frm).isSome = false then ([], 5) else if dirA t to ≠ 0 then ([], dirA t to) else
  if frm = to then (t, 0) else if (findA t to).isSome = true then ([], 6) else if withinA frm to = true then ([], 1) else
  match moveL frm to (underA t frm) (withoutA t frm) with
  | none => ([], 10)
  | some o => (o, 0)
theorem within_prefB {p q : List UInt8} (h : withinA p q = true) : prefB p q = true := by
  rw [within_pref, Bool.and_eq_true] at h
  exact h.1

set_option maxRecDepth 100000 in
set_option maxHeartbeats 8000000 in
theorem remove_walk (A : Option Addr) (c : Nat) (l : List Itm) (p : ByteArray) (deep : Bool) (w : World) (h : Tr w A c l) (hp : p.size ≤ 140737488351232) :
    Calls Tryd.prog 34 #[.slice A l.length c, .string p, .bool deep] w fun e w' => (∃ B d l' f, e = .returned (.tuple #[.slice B l'.length d, .int .i64 f]) ∧ Tr w' B d l' ∧ (l'.map Itm.abs, f) = removeA (l.map Itm.abs) p.toList deep) ∧ Below w.heap.size w w' := by
  have HR := hid (right_walk A c l w h)
  have HP := hid (path_walk p hp)
  have HPL := hid (fun W (hW : Below w.heap.size w W) (hs : sortedI l) => place_found A c l p W (h.below hW) hs)
  have HPA := hid (fun W (hW : Below w.heap.size w W) => parted_walk A c l p W (h.below hW))
  have HS := hid (fun (hr : rightA (l.map Itm.abs) = true) => sortedI_of (right_sorted hr))
  have hun : (underA (l.map Itm.abs) p.toList).length = (l.filter fun x => withinA p.toList x.p.toList).length := by unfold underA; rw [List.filter_map, List.length_map]; rfl
  have hwo : (l.filter fun x => !withinA p.toList x.p.toList).map Itm.abs = withoutA (l.map Itm.abs) p.toList := by unfold withoutA; rw [List.filter_map]; rfl
  have HUN := hid hun
  have HWO := hid hwo
  have hm := h.max
  have hul := List.length_filter_le (fun x => withinA p.toList x.p.toList) l
  clear h hun hwo
  cases hR : rightA (l.map Itm.abs)
  · rw [hR] at HR
    go_enter Tryd.func34, Tryd.ntmps34
    go_wp2_with fail
    refine HR.out.mono ?_
    rintro e w1 ⟨rfl, hb1⟩
    go_wp2_with fail
    go_ret2
    exact ⟨⟨none, 0, [], 1, rfl, Tr.none _, by simp [removeA, hR]⟩, hb1⟩
  · rw [hR] at HR
    cases hP : pathB p.toList
    · rw [hP] at HP
      go_enter Tryd.func34, Tryd.ntmps34
      go_wp2_with fail
      refine HR.out.mono ?_
      rintro e w1 ⟨rfl, hb1⟩
      go_wp2_with fail
      refine (HP.out _).mono ?_
      rintro e w2 ⟨rfl, hb2⟩
      replace hb2 := thenB hb1 hb2
      go_wp2_with fail
      go_ret2
      exact ⟨⟨none, 0, [], 10, rfl, Tr.none _, by simp [removeA, hR, hP]⟩, hb2⟩
    · rw [hP] at HP
      cases hF : (findA (l.map Itm.abs) p.toList).isSome
      · rw [hF] at HPL
        have hF2 := hid hF
        clear hF
        go_enter Tryd.func34, Tryd.ntmps34
        go_wp2_with fail
        refine HR.out.mono ?_
        rintro e w1 ⟨rfl, hb1⟩
        go_wp2_with fail
        refine (HP.out _).mono ?_
        rintro e w2 ⟨rfl, hb2⟩
        replace hb2 := thenB hb1 hb2
        go_wp2_with fail
        refine (HPL.out _ hb2 (HS.out hR)).mono ?_
        rintro e w3 ⟨⟨i, rfl, _⟩, hb3⟩
        replace hb3 := thenB hb2 hb3
        go_wp2_with fail
        go_ret2
        exact ⟨⟨none, 0, [], 5, rfl, Tr.none _, by simp [removeA, hR, hP, hF2.out]⟩, hb3⟩
      · rw [hF] at HPL
        have hF2 := hid hF
        clear hF
        cases deep
        · by_cases hl : 1 < (l.filter fun x => withinA p.toList x.p.toList).length
          · have g2 : decide (((l.filter fun x => withinA p.toList x.p.toList).length : Int) > 1) = true := decide_eq_true (by omega)
            go_enter Tryd.func34, Tryd.ntmps34
            go_wp2_with fail
            refine HR.out.mono ?_
            rintro e w1 ⟨rfl, hb1⟩
            go_wp2_with fail
            refine (HP.out _).mono ?_
            rintro e w2 ⟨rfl, hb2⟩
            replace hb2 := thenB hb1 hb2
            go_wp2_with fail
            refine (HPL.out _ hb2 (HS.out hR)).mono ?_
            rintro e w3 ⟨⟨i, rfl, _⟩, hb3⟩
            replace hb3 := thenB hb2 hb3
            go_wp2_with fail
            refine (HPA.out _ hb3).mono ?_
            rintro e w4 ⟨⟨B0, d0, C0, u0, rfl, ht0, ht1⟩, hb4⟩
            replace hb4 := thenB hb3 hb4
            go_wp2_with fail
            go_ret2
            exact ⟨⟨none, 0, [], 9, rfl, Tr.none _, by simp [removeA, hR, hP, hF2.out, HUN.out, hl]⟩, hb4⟩
          · have g2 : decide (((l.filter fun x => withinA p.toList x.p.toList).length : Int) > 1) = false := decide_eq_false (by omega)
            go_enter Tryd.func34, Tryd.ntmps34
            go_wp2_with fail
            refine HR.out.mono ?_
            rintro e w1 ⟨rfl, hb1⟩
            go_wp2_with fail
            refine (HP.out _).mono ?_
            rintro e w2 ⟨rfl, hb2⟩
            replace hb2 := thenB hb1 hb2
            go_wp2_with fail
            refine (HPL.out _ hb2 (HS.out hR)).mono ?_
            rintro e w3 ⟨⟨i, rfl, _⟩, hb3⟩
            replace hb3 := thenB hb2 hb3
            go_wp2_with fail
            refine (HPA.out _ hb3).mono ?_
            rintro e w4 ⟨⟨B0, d0, C0, u0, rfl, ht0, ht1⟩, hb4⟩
            replace hb4 := thenB hb3 hb4
            go_wp2_with fail
            refine (own_tr _ _ _ _ ht1).mono ?_
            rintro e w5 ⟨⟨B, d, l', rfl, ht, hma⟩, hb5⟩
            replace hb5 := thenB hb4 hb5
            replace hma := hid hma
            go_wp2_with fail
            go_ret2
            exact ⟨⟨B, d, l', 0, rfl, ht, by rw [hma.out, HWO.out]; simp [removeA, hR, hP, hF2.out, HUN.out, hl]⟩, hb5⟩
        · go_enter Tryd.func34, Tryd.ntmps34
          go_wp2_with fail
          refine HR.out.mono ?_
          rintro e w1 ⟨rfl, hb1⟩
          go_wp2_with fail
          refine (HP.out _).mono ?_
          rintro e w2 ⟨rfl, hb2⟩
          replace hb2 := thenB hb1 hb2
          go_wp2_with fail
          refine (HPL.out _ hb2 (HS.out hR)).mono ?_
          rintro e w3 ⟨⟨i, rfl, _⟩, hb3⟩
          replace hb3 := thenB hb2 hb3
          go_wp2_with fail
          refine (HPA.out _ hb3).mono ?_
          rintro e w4 ⟨⟨B0, d0, C0, u0, rfl, ht0, ht1⟩, hb4⟩
          replace hb4 := thenB hb3 hb4
          go_wp2_with fail
          refine (own_tr _ _ _ _ ht1).mono ?_
          rintro e w5 ⟨⟨B, d, l', rfl, ht, hma⟩, hb5⟩
          replace hb5 := thenB hb4 hb5
          replace hma := hid hma
          go_wp2_with fail
          go_ret2
          exact ⟨⟨B, d, l', 0, rfl, ht, by rw [hma.out, HWO.out]; simp [removeA, hR, hP, hF2.out]⟩, hb5⟩

set_option maxRecDepth 100000 in
set_option maxHeartbeats 8000000 in
theorem rename_walk (A : Option Addr) (c : Nat) (l : List Itm) (frm to : ByteArray) (w : World) (h : Tr w A c l) (hf : frm.size ≤ 140737488351232) (ht : to.size ≤ 140737488351232) :
    Calls Tryd.prog 33 #[.slice A l.length c, .string frm, .string to] w fun e w' => (∃ B d l' f, e = .returned (.tuple #[.slice B l'.length d, .int .i64 f]) ∧ Tr w' B d l' ∧ (l'.map Itm.abs, f) = renameB (l.map Itm.abs) frm.toList to.toList) ∧ Below w.heap.size w w' := by
  have HR := hid (right_walk A c l w h)
  have HP := hid (path_walk frm hf)
  have HQ := hid (path_walk to ht)
  have HPL := hid (fun W (hW : Below w.heap.size w W) (hs : sortedI l) => place_found A c l frm W (h.below hW) hs)
  have HQL := hid (fun W (hW : Below w.heap.size w W) (hs : sortedI l) => place_found A c l to W (h.below hW) hs)
  have HD := hid (fun W (hW : Below w.heap.size w W) (hs : sortedI l) => dir_walk A c l to W (h.below hW) hs ht)
  have HW := hid (fun W => within_walk frm to W)
  have HOW := hid (fun W (hW : Below w.heap.size w W) => own_tr A c l W (h.below hW))
  have HPA := hid (fun W (hW : Below w.heap.size w W) => parted_walk A c l frm W (h.below hW))
  have HS := hid (fun (hr : rightA (l.map Itm.abs) = true) => sortedI_of (right_sorted hr))
  have HSA := hid (right_sorted (t := l.map Itm.abs))
  have hun : (l.filter fun x => withinA frm.toList x.p.toList).map Itm.abs = underA (l.map Itm.abs) frm.toList := by unfold underA; rw [List.filter_map]; rfl
  have hwo : (l.filter fun x => !withinA frm.toList x.p.toList).map Itm.abs = withoutA (l.map Itm.abs) frm.toList := by unfold withoutA; rw [List.filter_map]; rfl
  have HUN := hid hun
  have HWO := hid hwo
  have HRP := hid (fun (hR : rightA (l.map Itm.abs) = true) (y : AIt) (hy : y ∈ underA (l.map Itm.abs) frm.toList) => (⟨right_path hR (List.mem_filter.1 hy).1, within_prefB (List.mem_filter.1 hy).2⟩ : pathB y.p = true ∧ prefB frm.toList y.p = true))
  have hm := h.max
  clear h hun hwo
  obtain ⟨D, hD⟩ : ∃ D, dirA (l.map Itm.abs) to.toList = D := ⟨_, rfl⟩
  rw [hD] at HD
  have HDD := hid hD
  clear hD
  cases hR : rightA (l.map Itm.abs)
  · rw [hR] at HR
    go_enter Tryd.func33, Tryd.ntmps33
    go_wp2_with fail
    refine HR.out.mono ?_
    rintro e w1 ⟨rfl, hb1⟩
    go_wp2_with fail
    go_ret2
    exact ⟨⟨none, 0, [], 1, rfl, Tr.none _, by simp [renameB, hR]⟩, hb1⟩
  · rw [hR] at HR
    cases hP : pathB frm.toList
    · rw [hP] at HP
      go_enter Tryd.func33, Tryd.ntmps33
      go_wp2_with fail
      refine HR.out.mono ?_
      rintro e w1 ⟨rfl, hb1⟩
      go_wp2_with fail
      refine (HP.out _).mono ?_
      rintro e w2 ⟨rfl, hb2⟩
      replace hb2 := thenB hb1 hb2
      go_wp2_with fail
      go_ret2
      exact ⟨⟨none, 0, [], 10, rfl, Tr.none _, by simp [renameB, hR, hP]⟩, hb2⟩
    · rw [hP] at HP
      cases hQ : pathB to.toList
      · rw [hQ] at HQ
        go_enter Tryd.func33, Tryd.ntmps33
        go_wp2_with fail
        refine HR.out.mono ?_
        rintro e w1 ⟨rfl, hb1⟩
        go_wp2_with fail
        refine (HP.out _).mono ?_
        rintro e w2 ⟨rfl, hb2⟩
        replace hb2 := thenB hb1 hb2
        go_wp2_with fail
        refine (HQ.out _).mono ?_
        rintro e w3 ⟨rfl, hb3⟩
        replace hb3 := thenB hb2 hb3
        go_wp2_with fail
        go_ret2
        exact ⟨⟨none, 0, [], 10, rfl, Tr.none _, by simp [renameB, hR, hP, hQ]⟩, hb3⟩
      · rw [hQ] at HQ
        replace hQ := hid hQ
        cases hF : (findA (l.map Itm.abs) frm.toList).isSome
        · rw [hF] at HPL
          have hF2 := hid hF
          clear hF
          go_enter Tryd.func33, Tryd.ntmps33
          go_wp2_with fail
          refine HR.out.mono ?_
          rintro e w1 ⟨rfl, hb1⟩
          go_wp2_with fail
          refine (HP.out _).mono ?_
          rintro e w2 ⟨rfl, hb2⟩
          replace hb2 := thenB hb1 hb2
          go_wp2_with fail
          refine (HQ.out _).mono ?_
          rintro e w3 ⟨rfl, hb3⟩
          replace hb3 := thenB hb2 hb3
          go_wp2_with fail
          refine (HPL.out _ hb3 (HS.out hR)).mono ?_
          rintro e w4 ⟨⟨i, rfl, _⟩, hb4⟩
          replace hb4 := thenB hb3 hb4
          go_wp2_with fail
          go_ret2
          exact ⟨⟨none, 0, [], 5, rfl, Tr.none _, by simp [renameB, hR, hP, hQ.out, hF2.out]⟩, hb4⟩
        · rw [hF] at HPL
          have hF2 := hid hF
          clear hF
          by_cases hz : D = 0
          · subst hz
            cases hft : (frm.toList == to.toList)
            · have hne := hid (show ¬ frm.toList = to.toList by simpa using hft)
              cases hG : (findA (l.map Itm.abs) to.toList).isSome
              · rw [hG] at HQL
                have hG2 := hid hG
                clear hG
                cases hW : withinA frm.toList to.toList
                · rw [hW] at HW
                  have hW2 := hid hW
                  clear hW
                  go_enter Tryd.func33, Tryd.ntmps33
                  go_wp2_with fail
                  refine HR.out.mono ?_
                  rintro e w1 ⟨rfl, hb1⟩
                  go_wp2_with fail
                  refine (HP.out _).mono ?_
                  rintro e w2 ⟨rfl, hb2⟩
                  replace hb2 := thenB hb1 hb2
                  go_wp2_with fail
                  refine (HQ.out _).mono ?_
                  rintro e w3 ⟨rfl, hb3⟩
                  replace hb3 := thenB hb2 hb3
                  go_wp2_with fail
                  refine (HPL.out _ hb3 (HS.out hR)).mono ?_
                  rintro e w4 ⟨⟨i, rfl, _⟩, hb4⟩
                  replace hb4 := thenB hb3 hb4
                  go_wp2_with fail
                  refine (HD.out _ hb4 (HS.out hR)).mono ?_
                  rintro e w5 ⟨rfl, hb5⟩
                  replace hb5 := thenB hb4 hb5
                  go_wp2_with fail
                  refine (HQL.out _ hb5 (HS.out hR)).mono ?_
                  rintro e w6 ⟨⟨i2, rfl, _⟩, hb6⟩
                  replace hb6 := thenB hb5 hb6
                  go_wp2_with fail
                  refine (HW.out _).mono ?_
                  rintro e w7 ⟨rfl, rfl⟩
                  go_wp2_with fail
                  refine (HPA.out _ hb6).mono ?_
                  rintro e w8 ⟨⟨B0, d0, C0, u0, rfl, htI, htO⟩, hb8⟩
                  replace hb8 := thenB hb6 hb8
                  go_wp2_with fail
                  refine (own_tr _ _ _ _ htO).mono ?_
                  rintro e w9 ⟨⟨B, d, O, rfl, htO2, hmO⟩, hb9⟩
                  replace htI := htI.below hb9
                  replace hb9 := thenB hb8 hb9
                  go_wp2_with fail
                  refine (own_tr _ _ _ _ htI).mono ?_
                  rintro e w10 ⟨⟨C, u, U, rfl, htU, hmU⟩, hb10⟩
                  replace htO2 := htO2.below hb10
                  replace hb10 := thenB hb9 hb10
                  rw [HUN.out] at hmU
                  rw [HWO.out] at hmO
                  have hlU : U.length ≤ l.length := by have h1 := congrArg List.length hmU; rw [List.length_map] at h1; rw [h1]; unfold underA; have h2 := List.length_filter_le (fun x => withinA frm.toList x.p) (l.map Itm.abs); rw [List.length_map] at h2; exact h2
                  have hlO : O.length ≤ l.length := by have h1 := congrArg List.length hmO; rw [List.length_map] at h1; rw [h1]; unfold withoutA; have h2 := List.length_filter_le (fun x => !withinA frm.toList x.p) (l.map Itm.abs); rw [List.length_map] at h2; exact h2
                  have HUM : HidP (∀ x ∈ U, pathB x.p.toList = true ∧ prefB frm.toList x.p.toList = true) := hid (fun x hx => HRP.out hR x.abs (by rw [← hmU]; exact List.mem_map_of_mem hx))
                  have hsw : sortedA (O.map Itm.abs) := by rw [hmO]; exact (HSA.out hR).filter _
                  have HSW := hid hsw
                  have h60 := (right_fine hR).1
                  rw [List.length_map] at h60
                  have hlf := str_len frm
                  have hlt := str_len to
                  have hto : to.size ≤ 125 := by rw [← hlt]; exact pathB_short hQ.out
                  have e0 : renameB (l.map Itm.abs) frm.toList to.toList = match moveL frm.toList to.toList (U.map Itm.abs) (O.map Itm.abs) with | none => ([], 10) | some o => (o, 0) := by rw [hmU, hmO]; simp [renameB, hR, hP, hQ.out, hF2.out, HDD.out, hne.out, hG2.out, hW2.out]
                  have HE := hid e0
                  clear e0 hsw hmU hmO htI htO hb8 hb9
                  go_wp2_with fail
                  go_loopg [14, 71] U.length (fun k out i wr => ∃ (j : Nat) (pA : Option Addr) (pc : Nat) (L : List Itm), j ≤ U.length ∧ k = U.length - j ∧ i = .int .i64 j ∧ out = .slice pA L.length pc ∧ Tr wr pA pc L ∧ Below w10.heap.size w10 wr ∧ L.length ≤ O.length + j ∧ sortedA (L.map Itm.abs) ∧ moveL frm.toList to.toList (U.map Itm.abs) (O.map Itm.abs) = moveL frm.toList to.toList ((U.drop j).map Itm.abs) (L.map Itm.abs))
                  case atStart => exact ⟨0, B, d, O, Nat.zero_le _, rfl, rfl, rfl, htO2, Below.refl _ _, by omega, HSW.out, by simp⟩
                  case round =>
                    obtain ⟨j, pA, pc, L, hj, rfl, rfl, rfl, htr, hb, hle, hso, hmv⟩ := hrel
                    have HSO := hid hso
                    have HMV := hid hmv
                    clear hso hmv
                    by_cases hlt2 : j < U.length
                    · have k0 : (0 : Int) ≤ (j : Int) := by omega
                      have k1 : (j : Int) < (U.length : Int) := by omega
                      obtain ⟨hpx, hfl⟩ := HUM.out U[j] (List.getElem_mem hlt2)
                      obtain ⟨b, off, hA, c0, c1, c2, hg⟩ := (htU.below hb).at hlt2
                      have hlx := str_len U[j].p
                      have hsx : U[j].p.size ≤ 125 := by rw [← hlx]; exact pathB_short hpx
                      have hadd : ∀ W, (Op.stringOp .add to (U[j].p.extract frm.size U[j].p.size)).run Tryd.prog W = .ok (.string (to ++ U[j].p.extract frm.size U[j].p.size)) W := fun W => run_string_add_sum W _ _ (by simp; omega)
                      have hq : (to ++ U[j].p.extract frm.size U[j].p.size).toList = to.toList ++ U[j].p.toList.drop frm.toList.length := by rw [app_toList, ext_drop, hlf]
                      have hqs : (to ++ U[j].p.extract frm.size U[j].p.size).size ≤ 140737488351232 := by simp; omega
                      have hst : moveL frm.toList to.toList ((U.drop j).map Itm.abs) (L.map Itm.abs) = if pathB (to.toList ++ U[j].p.toList.drop frm.toList.length) then moveL frm.toList to.toList ((U.drop (j + 1)).map Itm.abs) (putA (L.map Itm.abs) ⟨to.toList ++ U[j].p.toList.drop frm.toList.length, U[j].d, U[j].bs⟩) else none := by
                        rw [List.drop_eq_getElem_cons hlt2]; rfl
                      rw [← hq] at hst
                      have htp := fun W => trimprefix U[j].p frm W
                      simp only [hfl, if_true] at htp
                      have HST := hid hst
                      have HTP := hid htp
                      clear hst hq hpx hfl hlx htp
                      subst hA
                      generalize U[j].p.extract frm.size U[j].p.size = E at *
                      generalize to ++ E = Q at *
                      have HPQ := hid (path_walk Q hqs)
                      cases hpq : pathB Q.toList
                      · rw [hpq] at HPQ
                        go_wp2_with fail
                        refine (HTP.out _).mono ?_
                        rintro e w11 ⟨rfl, rfl⟩
                        go_wp2_with fail
                        refine (HPQ.out _).mono ?_
                        rintro e w12 ⟨rfl, hb12⟩
                        go_wp2_with fail
                        go_ret2
                        exact ⟨⟨none, 0, [], 10, rfl, Tr.none _, by rw [HE.out, HMV.out, HST.out, hpq]; rfl⟩, thenB hb10 (thenB (thenA hb _) hb12)⟩
                      · rw [hpq] at HPQ
                        go_wp2_with fail
                        refine (HTP.out _).mono ?_
                        rintro e w11 ⟨rfl, rfl⟩
                        go_wp2_with fail
                        refine (HPQ.out _).mono ?_
                        rintro e w12 ⟨rfl, hb12⟩
                        have y0 := cellB hb12 ((blkCell (heap_alloc_new wr _) 0).trans rfl)
                        have y1 := cellB hb12 ((blkCell (heap_alloc_new wr _) 1).trans rfl)
                        have y2 := cellB hb12 ((blkCell (heap_alloc_new wr _) 2).trans rfl)
                        have hbr := thenB (thenA (Below.refl _ wr) _) hb12
                        replace hb12 := thenB (thenA hb _) hb12
                        go_wp2_with fail
                        refine (put_walk pA pc L ⟨Q, U[j].d, U[j].dA, U[j].dc, U[j].bs⟩ w12 (htr.below hbr) ⟨hqs, hg.len, hg.src.below hbr, hg.rng⟩ (by omega) HSO.out).mono ?_
                        rintro e w13 ⟨⟨B', d', L', rfl, ht', hl'⟩, hb13⟩
                        have hlen : L'.length ≤ L.length + 1 := by have h1 := congrArg List.length hl'; rw [List.length_map] at h1; have h2 := putA_len (L.map Itm.abs) (Itm.abs ⟨Q, U[j].d, U[j].dA, U[j].dc, U[j].bs⟩); rw [List.length_map] at h2; omega
                        have HL' := hid hl'
                        clear hl'
                        go_wp2_with fail
                        go_roundg (U.length - (j + 1))
                        case measure => omega
                        case rel => exact ⟨j + 1, B', d', L', by omega, rfl, by go_num, rfl, ht', thenB hb12 hb13, by omega, by rw [HL'.out]; exact putA_sorted HSO.out _, by rw [HMV.out, HST.out, hpq, HL'.out]; rfl⟩
                    · obtain rfl : j = U.length := by omega
                      go_wp2_with fail
                      go_ret2
                      refine ⟨⟨pA, pc, L, 0, rfl, htr, ?_⟩, thenB hb10 hb⟩
                      rw [HE.out, HMV.out]
                      simp [moveL]
                · rw [hW] at HW
                  have hW2 := hid hW
                  clear hW
                  go_enter Tryd.func33, Tryd.ntmps33
                  go_wp2_with fail
                  refine HR.out.mono ?_
                  rintro e w1 ⟨rfl, hb1⟩
                  go_wp2_with fail
                  refine (HP.out _).mono ?_
                  rintro e w2 ⟨rfl, hb2⟩
                  replace hb2 := thenB hb1 hb2
                  go_wp2_with fail
                  refine (HQ.out _).mono ?_
                  rintro e w3 ⟨rfl, hb3⟩
                  replace hb3 := thenB hb2 hb3
                  go_wp2_with fail
                  refine (HPL.out _ hb3 (HS.out hR)).mono ?_
                  rintro e w4 ⟨⟨i, rfl, _⟩, hb4⟩
                  replace hb4 := thenB hb3 hb4
                  go_wp2_with fail
                  refine (HD.out _ hb4 (HS.out hR)).mono ?_
                  rintro e w5 ⟨rfl, hb5⟩
                  replace hb5 := thenB hb4 hb5
                  go_wp2_with fail
                  refine (HQL.out _ hb5 (HS.out hR)).mono ?_
                  rintro e w6 ⟨⟨i2, rfl, _⟩, hb6⟩
                  replace hb6 := thenB hb5 hb6
                  go_wp2_with fail
                  refine (HW.out _).mono ?_
                  rintro e w7 ⟨rfl, rfl⟩
                  go_wp2_with fail
                  go_ret2
                  exact ⟨⟨none, 0, [], 1, rfl, Tr.none _, by simp [renameB, hR, hP, hQ.out, hF2.out, HDD.out, hne.out, hG2.out, hW2.out]⟩, hb6⟩
              · rw [hG] at HQL
                have hG2 := hid hG
                clear hG
                go_enter Tryd.func33, Tryd.ntmps33
                go_wp2_with fail
                refine HR.out.mono ?_
                rintro e w1 ⟨rfl, hb1⟩
                go_wp2_with fail
                refine (HP.out _).mono ?_
                rintro e w2 ⟨rfl, hb2⟩
                replace hb2 := thenB hb1 hb2
                go_wp2_with fail
                refine (HQ.out _).mono ?_
                rintro e w3 ⟨rfl, hb3⟩
                replace hb3 := thenB hb2 hb3
                go_wp2_with fail
                refine (HPL.out _ hb3 (HS.out hR)).mono ?_
                rintro e w4 ⟨⟨i, rfl, _⟩, hb4⟩
                replace hb4 := thenB hb3 hb4
                go_wp2_with fail
                refine (HD.out _ hb4 (HS.out hR)).mono ?_
                rintro e w5 ⟨rfl, hb5⟩
                replace hb5 := thenB hb4 hb5
                go_wp2_with fail
                refine (HQL.out _ hb5 (HS.out hR)).mono ?_
                rintro e w6 ⟨⟨i2, rfl, _⟩, hb6⟩
                replace hb6 := thenB hb5 hb6
                go_wp2_with fail
                go_ret2
                exact ⟨⟨none, 0, [], 6, rfl, Tr.none _, by simp [renameB, hR, hP, hQ.out, hF2.out, HDD.out, hne.out, hG2.out]⟩, hb6⟩
            · have heq := hid (eq_of_beq hft)
              go_enter Tryd.func33, Tryd.ntmps33
              go_wp2_with fail
              refine HR.out.mono ?_
              rintro e w1 ⟨rfl, hb1⟩
              go_wp2_with fail
              refine (HP.out _).mono ?_
              rintro e w2 ⟨rfl, hb2⟩
              replace hb2 := thenB hb1 hb2
              go_wp2_with fail
              refine (HQ.out _).mono ?_
              rintro e w3 ⟨rfl, hb3⟩
              replace hb3 := thenB hb2 hb3
              go_wp2_with fail
              refine (HPL.out _ hb3 (HS.out hR)).mono ?_
              rintro e w4 ⟨⟨i, rfl, _⟩, hb4⟩
              replace hb4 := thenB hb3 hb4
              go_wp2_with fail
              refine (HD.out _ hb4 (HS.out hR)).mono ?_
              rintro e w5 ⟨rfl, hb5⟩
              replace hb5 := thenB hb4 hb5
              go_wp2_with fail
              refine (HQL.out _ hb5 (HS.out hR)).mono ?_
              rintro e w6 ⟨⟨i2, rfl, _⟩, hb6⟩
              replace hb6 := thenB hb5 hb6
              go_wp2_with fail
              refine (HOW.out _ hb6).mono ?_
              rintro e w7 ⟨⟨B, d, l', rfl, ht', hma⟩, hb7⟩
              replace hb7 := thenB hb6 hb7
              replace hma := hid hma
              go_wp2_with fail
              go_ret2
              exact ⟨⟨B, d, l', 0, rfl, ht', by rw [hma.out]; unfold renameB; rw [if_neg (by rw [hR]; simp), if_neg (by rw [hP]; simp), if_neg (by rw [hQ.out]; simp), if_neg (by rw [hF2.out]; simp), if_neg (by rw [HDD.out]; simp), if_pos heq.out]⟩, hb7⟩
          · have g1 : (D != 0) = true := by simp [hz]
            go_enter Tryd.func33, Tryd.ntmps33
            go_wp2_with fail
            refine HR.out.mono ?_
            rintro e w1 ⟨rfl, hb1⟩
            go_wp2_with fail
            refine (HP.out _).mono ?_
            rintro e w2 ⟨rfl, hb2⟩
            replace hb2 := thenB hb1 hb2
            go_wp2_with fail
            refine (HQ.out _).mono ?_
            rintro e w3 ⟨rfl, hb3⟩
            replace hb3 := thenB hb2 hb3
            go_wp2_with fail
            refine (HPL.out _ hb3 (HS.out hR)).mono ?_
            rintro e w4 ⟨⟨i, rfl, _⟩, hb4⟩
            replace hb4 := thenB hb3 hb4
            go_wp2_with fail
            refine (HD.out _ hb4 (HS.out hR)).mono ?_
            rintro e w5 ⟨rfl, hb5⟩
            replace hb5 := thenB hb4 hb5
            go_wp2_with fail
            go_ret2
            exact ⟨⟨none, 0, [], D, rfl, Tr.none _, by simp [renameB, hR, hP, hQ.out, hF2.out, HDD.out, hz]⟩, hb5⟩

end Go.Proofs.YtfoedcmcdpekoaaDoor
