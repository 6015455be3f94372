/- (Tree).room; tree.Mkdir, Write, Remove -/
import Derived.Test.YtheccdidfkcbbaaDoorM1
import Derived.Test.YtheccdidfkcbbaaDoorI12
namespace Go.Proofs.YtheccdidfkcbbaaDoor
open Go.RowKit

/-- what is wrong with a place for something -/
def roomA (t : List AIt) (p : List UInt8) : Int := if rightA t = false then 1 else if pathB p = false then 10 else dirA t p
theorem room_zero {t : List AIt} {p : List UInt8} (h : roomA t p = 0) : rightA t = true ∧ pathB p = true ∧ dirA t p = 0 := by
  unfold roomA at h
  cases hr : rightA t
  · rw [hr] at h; simp at h
  · cases hp : pathB p
    · rw [hr, hp] at h; simp at h
    · rw [hr, hp] at h; exact ⟨rfl, rfl, by simpa using h⟩
theorem mkdir_room {t : List AIt} {p : List UInt8} (h : roomA t p ≠ 0) : mkdirA t p = ([], roomA t p) := by
  unfold mkdirA roomA at *
  split
  · rfl
  · split
    · rfl
    · rename_i h1 h2; rw [if_neg h1, if_neg h2] at h; rw [if_pos h]
theorem write_room {t : List AIt} {p : List UInt8} {b : List Int} (h : roomA t p ≠ 0) : writeA t p b = ([], roomA t p) := by
  unfold writeA roomA at *
  split
  · rfl
  · split
    · rfl
    · rename_i h1 h2; rw [if_neg h1, if_neg h2] at h; rw [if_pos h]

theorem place_found (A : Option Addr) (c : Nat) (l : List Itm) (q : ByteArray) (w : World) (h : Tr w A c l) (hs : sortedI l) :
    Calls Tryd.prog 42 #[.slice A l.length c, .string q] w fun e w' => (∃ i : Nat, e = .returned (.tuple #[.int .i64 i, .bool (findA (l.map Itm.abs) q.toList).isSome]) ∧
      ((findA (l.map Itm.abs) q.toList).isSome = true → ∃ hi : i < l.length, findA (l.map Itm.abs) q.toList = some l[i].abs)) ∧ Below w.heap.size w w' := by
  refine (place_walk A c l q w h).mono ?_
  rintro e w' ⟨⟨i, rfl, hp⟩, hb⟩
  have hf := hp.find hs
  have e1 : findA (l.map Itm.abs) q.toList = if placeB l q.toList i then (l[i]?).map Itm.abs else none := by
    rw [find_abs, hf]; split <;> rfl
  cases hpb : placeB l q.toList i
  · rw [hpb] at e1
    exact ⟨⟨i, by rw [e1]; rfl, by rw [e1]; simp⟩, hb⟩
  · obtain ⟨hi, _⟩ := placeB_lt hpb
    rw [hpb, List.getElem?_eq_getElem hi] at e1
    exact ⟨⟨i, by rw [e1]; rfl, fun _ => ⟨hi, by rw [e1]; rfl⟩⟩, hb⟩

set_option maxRecDepth 100000 in
set_option maxHeartbeats 1600000 in
theorem room_walk (A : Option Addr) (c : Nat) (l : List Itm) (p : ByteArray) (w : World) (h : Tr w A c l) (hp : p.size ≤ 140737488351232) :
    Calls Tryd.prog 62 #[.slice A l.length c, .string p] w fun e w' => e = .returned (.int .i64 (roomA (l.map Itm.abs) p.toList)) ∧ Below w.heap.size w w' := by
  have HR := hid (right_walk A c l w h)
  have HP := hid (path_walk p hp)
  have HD := hid (fun W (hW : Below w.heap.size w W) (hs : sortedI l) => dir_walk A c l p W (h.below hW) hs hp)
  have HS := hid (fun (hr : rightA (l.map Itm.abs) = true) => sortedI_of (right_sorted hr))
  clear h
  cases hR : rightA (l.map Itm.abs)
  · rw [hR] at HR
    go_enter Tryd.func62, Tryd.ntmps62
    go_wp2_with fail
    refine HR.out.mono ?_
    rintro e w1 ⟨rfl, hb1⟩
    go_wp2_with fail
    go_ret
    exact ⟨by simp [roomA, hR], hb1⟩
  · rw [hR] at HR
    cases hP : pathB p.toList
    · rw [hP] at HP
      go_enter Tryd.func62, Tryd.ntmps62
      go_wp2_with fail
      refine HR.out.mono ?_
      rintro e w1 ⟨rfl, hb1⟩
      go_wp2_with fail
      refine (HP.out _).mono ?_
      rintro e w2 ⟨rfl, hb2⟩
      replace hb2 := thenB hb1 hb2
      go_wp2_with fail
      go_ret
      exact ⟨by simp [roomA, hR, hP], hb2⟩
    · rw [hP] at HP
      go_enter Tryd.func62, Tryd.ntmps62
      go_wp2_with fail
      refine HR.out.mono ?_
      rintro e w1 ⟨rfl, hb1⟩
      go_wp2_with fail
      refine (HP.out _).mono ?_
      rintro e w2 ⟨rfl, hb2⟩
      replace hb2 := thenB hb1 hb2
      go_wp2_with fail
      refine (HD.out _ hb2 (HS.out hR)).mono ?_
      rintro e w3 ⟨rfl, hb3⟩
      replace hb3 := thenB hb2 hb3
      go_wp2_with fail
      go_ret
      exact ⟨by simp [roomA, hR, hP], hb3⟩

set_option maxRecDepth 100000 in
set_option maxHeartbeats 4000000 in
theorem mkdir_walk (A : Option Addr) (c : Nat) (l : List Itm) (p : ByteArray) (w : World) (h : Tr w A c l) (hp : p.size ≤ 140737488351232) :
    Calls Tryd.prog 45 #[.slice A l.length c, .string p] w fun e w' => (∃ B d l' f, e = .returned (.tuple #[.slice B l'.length d, .int .i64 f]) ∧ Tr w' B d l' ∧ (l'.map Itm.abs, f) = mkdirA (l.map Itm.abs) p.toList) ∧ Below w.heap.size w w' := by
  have HR := hid (room_walk A c l p w h hp)
  have HPL := hid (fun W (hW : Below w.heap.size w W) (hs : sortedI l) => place_found A c l p W (h.below hW) hs)
  have HS := hid (fun (hr : rightA (l.map Itm.abs) = true) => sortedI_of (right_sorted hr))
  have HSA := hid (right_sorted (t := l.map Itm.abs))
  have HT := hid h
  have hm := h.max
  have hlm : (l.map Itm.abs).length = l.length := List.length_map _
  have HLM := hid hlm
  clear h hlm
  obtain ⟨D, hD⟩ : ∃ D, roomA (l.map Itm.abs) p.toList = D := ⟨_, rfl⟩
  rw [hD] at HR
  have HDD := hid hD
  clear hD
  by_cases hz : D = 0
  · subst hz
    obtain ⟨h1, h2, h3⟩ := room_zero HDD.out
    have hR := hid h1
    have hP := hid h2
    have hDi := hid h3
    clear h1 h2 h3
    cases hF : (findA (l.map Itm.abs) p.toList).isSome
    · rw [hF] at HPL
      have hF2 := hid hF
      clear hF
      by_cases hl : 60 ≤ l.length
      · have g2 : decide ((l.length : Int) ≥ 60) = true := decide_eq_true (by omega)
        go_enter Tryd.func45, Tryd.ntmps45
        go_wp2_with fail
        refine HR.out.mono ?_
        rintro e w1 ⟨rfl, hb1⟩
        go_wp2_with fail
        refine (HPL.out _ hb1 (HS.out hR.out)).mono ?_
        rintro e w2 ⟨⟨i, rfl, hfi⟩, hb2⟩
        replace hb2 := thenB hb1 hb2
        replace hfi := hid hfi
        go_wp2_with fail
        go_ret2
        exact ⟨⟨none, 0, [], 2, rfl, Tr.none _, by simp [mkdirA, hR.out, hP.out, hDi.out, hF2.out, HLM.out, hl]⟩, hb2⟩
      · have g2 : decide ((l.length : Int) ≥ 60) = false := decide_eq_false (by omega)
        go_enter Tryd.func45, Tryd.ntmps45
        go_wp2_with fail
        refine HR.out.mono ?_
        rintro e w1 ⟨rfl, hb1⟩
        go_wp2_with fail
        refine (HPL.out _ hb1 (HS.out hR.out)).mono ?_
        rintro e w2 ⟨⟨i, rfl, hfi⟩, hb2⟩
        replace hb2 := thenB hb1 hb2
        replace hfi := hid hfi
        go_wp2_with fail
        refine (put_walk A c l (dirItm p) _ (HT.out.below hb2) (Good.dirItm _ hp) (by omega) (HSA.out hR.out)).mono ?_
        rintro e w5 ⟨⟨B, d, l', rfl, ht, hl'⟩, hb5⟩
        replace hb5 := thenB hb2 hb5
        replace hl' := hid hl'
        go_wp2_with fail
        go_ret2
        exact ⟨⟨B, d, l', 0, rfl, ht, by rw [hl'.out]; simp [mkdirA, hR.out, hP.out, hDi.out, hF2.out, HLM.out, hl]; rfl⟩, hb5⟩
    · rw [hF] at HPL
      have hF2 := hid hF
      clear hF
      go_enter Tryd.func45, Tryd.ntmps45
      go_wp2_with fail
      refine HR.out.mono ?_
      rintro e w1 ⟨rfl, hb1⟩
      go_wp2_with fail
      refine (HPL.out _ hb1 (HS.out hR.out)).mono ?_
      rintro e w2 ⟨⟨i, rfl, hfi⟩, hb2⟩
      replace hb2 := thenB hb1 hb2
      replace hfi := hid hfi
      go_wp2_with fail
      go_ret2
      exact ⟨⟨none, 0, [], 6, rfl, Tr.none _, by simp [mkdirA, hR.out, hP.out, hDi.out, hF2.out]⟩, hb2⟩
  · have g1 : (D != 0) = true := by simp [hz]
    go_enter Tryd.func45, Tryd.ntmps45
    go_wp2_with fail
    refine HR.out.mono ?_
    rintro e w1 ⟨rfl, hb1⟩
    go_wp2_with fail
    go_ret2
    exact ⟨⟨none, 0, [], D, rfl, Tr.none _, by rw [mkdir_room (by rw [HDD.out]; exact hz), HDD.out]; rfl⟩, hb1⟩

set_option maxRecDepth 100000 in
set_option maxHeartbeats 4000000 in
theorem write_walk (A : Option Addr) (c : Nat) (l : List Itm) (p : ByteArray) (dA : Option Addr) (dc : Nat) (bs : List Int) (w : World) (h : Tr w A c l) (hg : Good w ⟨p, false, dA, dc, bs⟩) :
    Calls Tryd.prog 46 #[.slice A l.length c, .string p, .slice dA bs.length dc] w fun e w' => (∃ B d l' f, e = .returned (.tuple #[.slice B l'.length d, .int .i64 f]) ∧ Tr w' B d l' ∧ (l'.map Itm.abs, f) = writeA (l.map Itm.abs) p.toList bs) ∧ Below w.heap.size w w' := by
  have hp : p.size ≤ 140737488351232 := hg.size
  have HR := hid (room_walk A c l p w h hp)
  have HPL := hid (fun W (hW : Below w.heap.size w W) (hs : sortedI l) => place_found A c l p W (h.below hW) hs)
  have HS := hid (fun (hr : rightA (l.map Itm.abs) = true) => sortedI_of (right_sorted hr))
  have HSA := hid (right_sorted (t := l.map Itm.abs))
  have HT := hid h
  have hm := h.max
  have hlm : (l.map Itm.abs).length = l.length := List.length_map _
  have HLM := hid hlm
  clear h hlm
  obtain ⟨D, hD⟩ : ∃ D, roomA (l.map Itm.abs) p.toList = D := ⟨_, rfl⟩
  rw [hD] at HR
  have HDD := hid hD
  clear hD
  have HC := hid (fun W (hW : Below w.heap.size w W) => clone_any (.slice dA bs.length dc) bs W (hg.below hW).src (by have := hg.len; simp at this; omega))
  have hbl : bs.length ≤ 140737488351232 := hg.len
  have HG := hid hg
  clear hg
  obtain ⟨N, hN⟩ : ∃ N, bs.length = N := ⟨_, rfl⟩
  rw [hN] at hbl HC ⊢
  have HN := hid hN
  clear hN
  by_cases hz : D = 0
  · subst hz
    obtain ⟨h1, h2, h3⟩ := room_zero HDD.out
    have hR := hid h1
    have hP := hid h2
    have hDi := hid h3
    clear h1 h2 h3
    cases hF : (findA (l.map Itm.abs) p.toList).isSome
    · have hfd := foundDir_some hF
      rw [hF] at HPL
      have hF2 := hid hF
      have hfd2 := hid hfd
      clear hF hfd
      by_cases hl : 2000 < N
      · have g2 : decide ((N : Int) > 2000) = true := decide_eq_true (by omega)
        go_enter Tryd.func46, Tryd.ntmps46
        go_wp2_with fail
        refine HR.out.mono ?_
        rintro e w1 ⟨rfl, hb1⟩
        go_wp2_with fail
        refine (HPL.out _ hb1 (HS.out hR.out)).mono ?_
        rintro e w2 ⟨⟨i, rfl, hfi⟩, hb2⟩
        replace hb2 := thenB hb1 hb2
        replace hfi := hid hfi
        go_wp2_with fail
        go_ret2
        exact ⟨⟨none, 0, [], 2, rfl, Tr.none _, by simp [writeA, hR.out, hP.out, hDi.out, hfd2.out, HN.out, hl]⟩, hb2⟩
      · have g2 : decide ((N : Int) > 2000) = false := decide_eq_false (by omega)
        by_cases hk : 60 ≤ l.length
        · have g3 : decide ((l.length : Int) ≥ 60) = true := decide_eq_true (by omega)
          go_enter Tryd.func46, Tryd.ntmps46
          go_wp2_with fail
          refine HR.out.mono ?_
          rintro e w1 ⟨rfl, hb1⟩
          go_wp2_with fail
          refine (HPL.out _ hb1 (HS.out hR.out)).mono ?_
          rintro e w2 ⟨⟨i, rfl, hfi⟩, hb2⟩
          replace hb2 := thenB hb1 hb2
          replace hfi := hid hfi
          go_wp2_with fail
          go_ret2
          exact ⟨⟨none, 0, [], 2, rfl, Tr.none _, by simp [writeA, hR.out, hP.out, hDi.out, hF2.out, hfd2.out, HN.out, hl, HLM.out, hk]⟩, hb2⟩
        · have g3 : decide ((l.length : Int) ≥ 60) = false := decide_eq_false (by omega)
          go_enter Tryd.func46, Tryd.ntmps46
          go_wp2_with fail
          refine HR.out.mono ?_
          rintro e w1 ⟨rfl, hb1⟩
          go_wp2_with fail
          refine (HPL.out _ hb1 (HS.out hR.out)).mono ?_
          rintro e w2 ⟨⟨i, rfl, hfi⟩, hb2⟩
          replace hb2 := thenB hb1 hb2
          replace hfi := hid hfi
          go_wp2_with fail
          refine (HC.out _ hb2).mono ?_
          rintro e w3 ⟨vA, vn, vc, rfl, hrv, hb3, hfv⟩
          obtain rfl : vn = bs.length := by
            obtain ⟨_, _, _, hv, hl, _⟩ := id hrv
            cases hv
            have := nums_length bs
            omega
          have hgn : Good w3 ⟨p, false, vA, vc, bs⟩ := ⟨hp, HG.out.len, hrv.src, HG.out.rng⟩
          replace hb3 := thenB hb2 hb3
          have h60 := (right_fine hR.out).1
          rw [HLM.out] at h60
          go_wp2_with fail
          refine (put_walk _ c l ⟨p, false, vA, vc, bs⟩ _ (HT.out.below hb3) hgn (by omega) (HSA.out hR.out)).mono ?_
          rintro e w5 ⟨⟨B, d, l', rfl, ht, hl'⟩, hb5⟩
          replace hb5 := thenB hb3 hb5
          replace hl' := hid hl'
          go_wp2_with fail
          go_ret2
          exact ⟨⟨B, d, l', 0, rfl, ht, by rw [hl'.out]; simp [writeA, hR.out, hP.out, hDi.out, hF2.out, hfd2.out, HN.out, hl, HLM.out, hk]; rfl⟩, hb5⟩
    · have hF2 := hid hF
      obtain ⟨FD, hFD⟩ : ∃ FD, foundDir (l.map Itm.abs) p.toList = FD := ⟨_, rfl⟩
      have HFD := hid hFD
      rw [hF] at HPL
      clear hF hFD
      cases FD
      · by_cases hl : 2000 < N
        · have g2 : decide ((N : Int) > 2000) = true := decide_eq_true (by omega)
          go_enter Tryd.func46, Tryd.ntmps46
          go_wp2_with fail
          refine HR.out.mono ?_
          rintro e w1 ⟨rfl, hb1⟩
          go_wp2_with fail
          refine (HPL.out _ hb1 (HS.out hR.out)).mono ?_
          rintro e w2 ⟨⟨i, rfl, hfi⟩, hb2⟩
          replace hb2 := thenB hb1 hb2
          replace hfi := hid hfi
          obtain ⟨hi, hfe⟩ := hfi.out (by simp)
          have hdd : l[i].d = foundDir (l.map Itm.abs) p.toList := by unfold foundDir; rw [hfe]; rfl
          obtain ⟨b, off, hA, c0, c1, c2, _⟩ := (HT.out.below hb2).at hi
          rw [hdd, HFD.out] at c1
          subst hA
          have i0 : (0 : Int) ≤ (i : Int) := by omega
          have i1 : (i : Int) < (l.length : Int) := by omega
          clear hdd hfe
          go_wp2_with fail
          go_ret2
          exact ⟨⟨none, 0, [], 2, rfl, Tr.none _, by simp [writeA, hR.out, hP.out, hDi.out, HFD.out, HN.out, hl]⟩, hb2⟩
        · have g2 : decide ((N : Int) > 2000) = false := decide_eq_false (by omega)
          go_enter Tryd.func46, Tryd.ntmps46
          go_wp2_with fail
          refine HR.out.mono ?_
          rintro e w1 ⟨rfl, hb1⟩
          go_wp2_with fail
          refine (HPL.out _ hb1 (HS.out hR.out)).mono ?_
          rintro e w2 ⟨⟨i, rfl, hfi⟩, hb2⟩
          replace hb2 := thenB hb1 hb2
          replace hfi := hid hfi
          obtain ⟨hi, hfe⟩ := hfi.out (by simp)
          have hdd : l[i].d = foundDir (l.map Itm.abs) p.toList := by unfold foundDir; rw [hfe]; rfl
          obtain ⟨b, off, hA, c0, c1, c2, _⟩ := (HT.out.below hb2).at hi
          rw [hdd, HFD.out] at c1
          subst hA
          have i0 : (0 : Int) ≤ (i : Int) := by omega
          have i1 : (i : Int) < (l.length : Int) := by omega
          clear hdd hfe
          go_wp2_with fail
          refine (HC.out _ hb2).mono ?_
          rintro e w3 ⟨vA, vn, vc, rfl, hrv, hb3, hfv⟩
          obtain rfl : vn = bs.length := by
            obtain ⟨_, _, _, hv, hl, _⟩ := id hrv
            cases hv
            have := nums_length bs
            omega
          have hgn : Good w3 ⟨p, false, vA, vc, bs⟩ := ⟨hp, HG.out.len, hrv.src, HG.out.rng⟩
          replace hb3 := thenB hb2 hb3
          have h60 := (right_fine hR.out).1
          rw [HLM.out] at h60
          go_wp2_with fail
          refine (put_walk _ c l ⟨p, false, vA, vc, bs⟩ _ (HT.out.below hb3) hgn (by omega) (HSA.out hR.out)).mono ?_
          rintro e w5 ⟨⟨B, d, l', rfl, ht, hl'⟩, hb5⟩
          replace hb5 := thenB hb3 hb5
          replace hl' := hid hl'
          go_wp2_with fail
          go_ret2
          exact ⟨⟨B, d, l', 0, rfl, ht, by rw [hl'.out]; simp [writeA, hR.out, hP.out, hDi.out, hF2.out, HFD.out, HN.out, hl]; rfl⟩, hb5⟩
      · go_enter Tryd.func46, Tryd.ntmps46
        go_wp2_with fail
        refine HR.out.mono ?_
        rintro e w1 ⟨rfl, hb1⟩
        go_wp2_with fail
        refine (HPL.out _ hb1 (HS.out hR.out)).mono ?_
        rintro e w2 ⟨⟨i, rfl, hfi⟩, hb2⟩
        replace hb2 := thenB hb1 hb2
        replace hfi := hid hfi
        obtain ⟨hi, hfe⟩ := hfi.out (by simp)
        have hdd : l[i].d = foundDir (l.map Itm.abs) p.toList := by unfold foundDir; rw [hfe]; rfl
        obtain ⟨b, off, hA, c0, c1, c2, _⟩ := (HT.out.below hb2).at hi
        rw [hdd, HFD.out] at c1
        subst hA
        have i0 : (0 : Int) ≤ (i : Int) := by omega
        have i1 : (i : Int) < (l.length : Int) := by omega
        clear hdd hfe
        go_wp2_with fail
        go_ret2
        exact ⟨⟨none, 0, [], 8, rfl, Tr.none _, by simp [writeA, hR.out, hP.out, hDi.out, HFD.out]⟩, hb2⟩
  · have g1 : (D != 0) = true := by simp [hz]
    go_enter Tryd.func46, Tryd.ntmps46
    go_wp2_with fail
    refine HR.out.mono ?_
    rintro e w1 ⟨rfl, hb1⟩
    go_wp2_with fail
    go_ret2
    exact ⟨⟨none, 0, [], D, rfl, Tr.none _, by rw [write_room (by rw [HDD.out]; exact hz), HDD.out]; rfl⟩, hb1⟩

end Go.Proofs.YtheccdidfkcbbaaDoor
