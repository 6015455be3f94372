/- the reference's Write -/
import Derived.Test.YtheccdidfkcbbaaDoorI10
namespace Go.Proofs.YtheccdidfkcbbaaDoor
open Go.RowKit

theorem foundDir_some {t : List AIt} {q : List UInt8} (h : (findA t q).isSome = false) : foundDir t q = false := by
  unfold foundDir
  cases hf : findA t q
  · rfl
  · rw [hf] at h; cases h

set_option maxRecDepth 100000 in
set_option maxHeartbeats 4000000 in
theorem refwrite (A : Option Addr) (c : Nat) (l : List Itm) (p : ByteArray) (dA : Option Addr) (dc : Nat) (bs : List Int) (w : World) (h : Tr w A c l) (hg : Good w ⟨p, false, dA, dc, bs⟩) :
    Calls Tryd.prog 36 #[.slice A l.length c, .string p, .slice dA bs.length dc] w fun e w' => (∃ B d l' f, e = .returned (.tuple #[.slice B l'.length d, .int .i64 f]) ∧ Tr w' B d l' ∧ (l'.map Itm.abs, f) = writeA (l.map Itm.abs) p.toList bs) ∧ Below w.heap.size w w' := by
  have hp : p.size ≤ 140737488351232 := hg.size
  have HF := hid (reffind_is A c l p w h)
  have HD := hid (fun W (hW : Below w.heap.size w W) => refdir A c l p W (h.below hW) hp)
  have HR := hid (fun W (hW : Below w.heap.size w W) => refright A c l W (h.below hW))
  have HP := hid (fun W => refpath p W)
  have HS := hid (right_sorted (t := l.map Itm.abs))
  have HT := hid h
  have HG := hid hg
  have hm := h.max
  have hlm : (l.map Itm.abs).length = l.length := List.length_map _
  have HLM := hid hlm
  have hbl : bs.length ≤ 140737488351232 := hg.len
  clear h hlm hg
  obtain ⟨D, hD⟩ : ∃ D, dirA (l.map Itm.abs) p.toList = D := ⟨_, rfl⟩
  rw [hD] at HD
  have HDD := hid hD
  clear hD
  obtain ⟨N, hN⟩ : ∃ N, bs.length = N := ⟨_, rfl⟩
  rw [hN] at hbl ⊢
  have HN := hid hN
  clear hN
  cases hR : rightA (l.map Itm.abs)
  · rw [hR] at HR
    go_enter Tryd.func36, Tryd.ntmps36
    go_wp2_with fail
    refine HF.out.mono ?_
    rintro e w1 ⟨⟨a0, a1, a2, a3, rfl⟩, hb1⟩
    go_wp2_with fail
    refine (HD.out _ (thenA hb1 _)).mono ?_
    rintro e w2 ⟨rfl, hb2⟩
    have x1 := cellB hb2 ((blkCell (heap_alloc_new w1 _) 1).trans rfl)
    replace hb2 := thenB (thenA hb1 _) hb2
    go_wp2_with fail
    refine (HR.out _ hb2).mono ?_
    rintro e w3 ⟨rfl, hb3⟩
    replace x1 := cellB hb3 x1
    replace hb3 := thenB hb2 hb3
    go_wp2_with fail
    go_ret2
    exact ⟨⟨none, 0, [], 1, rfl, Tr.none _, by simp [writeA, hR]⟩, hb3⟩
  · rw [hR] at HR
    cases hP : pathB p.toList
    · rw [hP] at HP
      go_enter Tryd.func36, Tryd.ntmps36
      go_wp2_with fail
      refine HF.out.mono ?_
      rintro e w1 ⟨⟨a0, a1, a2, a3, rfl⟩, hb1⟩
      go_wp2_with fail
      refine (HD.out _ (thenA hb1 _)).mono ?_
      rintro e w2 ⟨rfl, hb2⟩
      have x1 := cellB hb2 ((blkCell (heap_alloc_new w1 _) 1).trans rfl)
      replace hb2 := thenB (thenA hb1 _) hb2
      go_wp2_with fail
      refine (HR.out _ hb2).mono ?_
      rintro e w3 ⟨rfl, hb3⟩
      replace x1 := cellB hb3 x1
      replace hb3 := thenB hb2 hb3
      go_wp2_with fail
      refine (HP.out _).mono ?_
      rintro e w4 ⟨rfl, hb4⟩
      replace x1 := cellB hb4 x1
      replace hb4 := thenB hb3 hb4
      go_wp2_with fail
      go_ret2
      exact ⟨⟨none, 0, [], 10, rfl, Tr.none _, by simp [writeA, hR, hP]⟩, hb4⟩
    · rw [hP] at HP
      by_cases hz : D = 0
      · subst hz
        cases hF : (findA (l.map Itm.abs) p.toList).isSome
        · have hfd := foundDir_some hF
          rw [hF, hfd] at HF
          have hF2 := hid hF
          have hfd2 := hid hfd
          clear hF hfd
          by_cases hl : 2000 < N
          · have g2 : decide ((N : Int) > 2000) = true := decide_eq_true (by omega)
            go_enter Tryd.func36, Tryd.ntmps36
            go_wp2_with fail
            refine HF.out.mono ?_
            rintro e w1 ⟨⟨a0, a1, a2, a3, rfl⟩, hb1⟩
            go_wp2_with fail
            refine (HD.out _ (thenA hb1 _)).mono ?_
            rintro e w2 ⟨rfl, hb2⟩
            have x1 := cellB hb2 ((blkCell (heap_alloc_new w1 _) 1).trans rfl)
            replace hb2 := thenB (thenA hb1 _) hb2
            go_wp2_with fail
            refine (HR.out _ hb2).mono ?_
            rintro e w3 ⟨rfl, hb3⟩
            replace x1 := cellB hb3 x1
            replace hb3 := thenB hb2 hb3
            go_wp2_with fail
            refine (HP.out _).mono ?_
            rintro e w4 ⟨rfl, hb4⟩
            replace x1 := cellB hb4 x1
            replace hb4 := thenB hb3 hb4
            go_wp2_with fail
            go_ret2
            exact ⟨⟨none, 0, [], 2, rfl, Tr.none _, by simp [writeA, hR, hP, HDD.out, hfd2.out, HN.out, hl]⟩, hb4⟩
          · have g2 : decide ((N : Int) > 2000) = false := decide_eq_false (by omega)
            by_cases hk : 60 ≤ l.length
            · have g3 : decide ((l.length : Int) ≥ 60) = true := decide_eq_true (by omega)
              go_enter Tryd.func36, Tryd.ntmps36
              go_wp2_with fail
              refine HF.out.mono ?_
              rintro e w1 ⟨⟨a0, a1, a2, a3, rfl⟩, hb1⟩
              go_wp2_with fail
              refine (HD.out _ (thenA hb1 _)).mono ?_
              rintro e w2 ⟨rfl, hb2⟩
              have x1 := cellB hb2 ((blkCell (heap_alloc_new w1 _) 1).trans rfl)
              replace hb2 := thenB (thenA hb1 _) hb2
              go_wp2_with fail
              refine (HR.out _ hb2).mono ?_
              rintro e w3 ⟨rfl, hb3⟩
              replace x1 := cellB hb3 x1
              replace hb3 := thenB hb2 hb3
              go_wp2_with fail
              refine (HP.out _).mono ?_
              rintro e w4 ⟨rfl, hb4⟩
              replace x1 := cellB hb4 x1
              replace hb4 := thenB hb3 hb4
              go_wp2_with fail
              go_ret2
              exact ⟨⟨none, 0, [], 2, rfl, Tr.none _, by simp [writeA, hR, hP, HDD.out, hF2.out, hfd2.out, HN.out, hl, HLM.out, hk]⟩, hb4⟩
            · have g3 : decide ((l.length : Int) ≥ 60) = false := decide_eq_false (by omega)
              go_enter Tryd.func36, Tryd.ntmps36
              go_wp2_with fail
              refine HF.out.mono ?_
              rintro e w1 ⟨⟨a0, a1, a2, a3, rfl⟩, hb1⟩
              go_wp2_with fail
              refine (HD.out _ (thenA hb1 _)).mono ?_
              rintro e w2 ⟨rfl, hb2⟩
              have x1 := cellB hb2 ((blkCell (heap_alloc_new w1 _) 1).trans rfl)
              replace hb2 := thenB (thenA hb1 _) hb2
              go_wp2_with fail
              refine (HR.out _ hb2).mono ?_
              rintro e w3 ⟨rfl, hb3⟩
              replace x1 := cellB hb3 x1
              replace hb3 := thenB hb2 hb3
              go_wp2_with fail
              refine (HP.out _).mono ?_
              rintro e w4 ⟨rfl, hb4⟩
              replace x1 := cellB hb4 x1
              replace hb4 := thenB hb3 hb4
              go_wp2_with fail
              have HPT := refput_sorted A c l ⟨p, false, dA, dc, bs⟩ _ (HT.out.below hb4) (HG.out.below hb4) (by have h60 := (right_fine hR).1; rw [HLM.out] at h60; omega) (HS.out hR)
              rw [HN.out] at HPT
              refine HPT.mono ?_
              rintro e w5 ⟨⟨B, d, l', rfl, ht, hl'⟩, hb5⟩
              replace hb5 := thenB hb4 hb5
              have hl'' := hid hl'
              clear hl'
              go_wp2_with fail
              go_ret2
              exact ⟨⟨B, d, l', 0, rfl, ht, by rw [hl''.out]; simp [writeA, hR, hP, HDD.out, hF2.out, hfd2.out, HN.out, hl, HLM.out, hk]; rfl⟩, hb5⟩
        · rw [hF] at HF
          have hF2 := hid hF
          clear hF
          cases hfd : foundDir (l.map Itm.abs) p.toList
          · rw [hfd] at HF
            have hfd2 := hid hfd
            clear hfd
            by_cases hl : 2000 < N
            · have g2 : decide ((N : Int) > 2000) = true := decide_eq_true (by omega)
              go_enter Tryd.func36, Tryd.ntmps36
              go_wp2_with fail
              refine HF.out.mono ?_
              rintro e w1 ⟨⟨a0, a1, a2, a3, rfl⟩, hb1⟩
              go_wp2_with fail
              refine (HD.out _ (thenA hb1 _)).mono ?_
              rintro e w2 ⟨rfl, hb2⟩
              have x1 := cellB hb2 ((blkCell (heap_alloc_new w1 _) 1).trans rfl)
              replace hb2 := thenB (thenA hb1 _) hb2
              go_wp2_with fail
              refine (HR.out _ hb2).mono ?_
              rintro e w3 ⟨rfl, hb3⟩
              replace x1 := cellB hb3 x1
              replace hb3 := thenB hb2 hb3
              go_wp2_with fail
              refine (HP.out _).mono ?_
              rintro e w4 ⟨rfl, hb4⟩
              replace x1 := cellB hb4 x1
              replace hb4 := thenB hb3 hb4
              go_wp2_with fail
              go_ret2
              exact ⟨⟨none, 0, [], 2, rfl, Tr.none _, by simp [writeA, hR, hP, HDD.out, hfd2.out, HN.out, hl]⟩, hb4⟩
            · have g2 : decide ((N : Int) > 2000) = false := decide_eq_false (by omega)
              go_enter Tryd.func36, Tryd.ntmps36
              go_wp2_with fail
              refine HF.out.mono ?_
              rintro e w1 ⟨⟨a0, a1, a2, a3, rfl⟩, hb1⟩
              go_wp2_with fail
              refine (HD.out _ (thenA hb1 _)).mono ?_
              rintro e w2 ⟨rfl, hb2⟩
              have x1 := cellB hb2 ((blkCell (heap_alloc_new w1 _) 1).trans rfl)
              replace hb2 := thenB (thenA hb1 _) hb2
              go_wp2_with fail
              refine (HR.out _ hb2).mono ?_
              rintro e w3 ⟨rfl, hb3⟩
              replace x1 := cellB hb3 x1
              replace hb3 := thenB hb2 hb3
              go_wp2_with fail
              refine (HP.out _).mono ?_
              rintro e w4 ⟨rfl, hb4⟩
              replace x1 := cellB hb4 x1
              replace hb4 := thenB hb3 hb4
              go_wp2_with fail
              have HPT := refput_sorted A c l ⟨p, false, dA, dc, bs⟩ _ (HT.out.below hb4) (HG.out.below hb4) (by have h60 := (right_fine hR).1; rw [HLM.out] at h60; omega) (HS.out hR)
              rw [HN.out] at HPT
              refine HPT.mono ?_
              rintro e w5 ⟨⟨B, d, l', rfl, ht, hl'⟩, hb5⟩
              replace hb5 := thenB hb4 hb5
              have hl'' := hid hl'
              clear hl'
              go_wp2_with fail
              go_ret2
              exact ⟨⟨B, d, l', 0, rfl, ht, by rw [hl''.out]; simp [writeA, hR, hP, HDD.out, hF2.out, hfd2.out, HN.out, hl]; rfl⟩, hb5⟩
          · rw [hfd] at HF
            have hfd2 := hid hfd
            clear hfd
            go_enter Tryd.func36, Tryd.ntmps36
            go_wp2_with fail
            refine HF.out.mono ?_
            rintro e w1 ⟨⟨a0, a1, a2, a3, rfl⟩, hb1⟩
            go_wp2_with fail
            refine (HD.out _ (thenA hb1 _)).mono ?_
            rintro e w2 ⟨rfl, hb2⟩
            have x1 := cellB hb2 ((blkCell (heap_alloc_new w1 _) 1).trans rfl)
            replace hb2 := thenB (thenA hb1 _) hb2
            go_wp2_with fail
            refine (HR.out _ hb2).mono ?_
            rintro e w3 ⟨rfl, hb3⟩
            replace x1 := cellB hb3 x1
            replace hb3 := thenB hb2 hb3
            go_wp2_with fail
            refine (HP.out _).mono ?_
            rintro e w4 ⟨rfl, hb4⟩
            replace x1 := cellB hb4 x1
            replace hb4 := thenB hb3 hb4
            go_wp2_with fail
            go_ret2
            exact ⟨⟨none, 0, [], 8, rfl, Tr.none _, by simp [writeA, hR, hP, HDD.out, hfd2.out]⟩, hb4⟩
      · have g1 : (D != 0) = true := by simp [hz]
        go_enter Tryd.func36, Tryd.ntmps36
        go_wp2_with fail
        refine HF.out.mono ?_
        rintro e w1 ⟨⟨a0, a1, a2, a3, rfl⟩, hb1⟩
        go_wp2_with fail
        refine (HD.out _ (thenA hb1 _)).mono ?_
        rintro e w2 ⟨rfl, hb2⟩
        have x1 := cellB hb2 ((blkCell (heap_alloc_new w1 _) 1).trans rfl)
        replace hb2 := thenB (thenA hb1 _) hb2
        go_wp2_with fail
        refine (HR.out _ hb2).mono ?_
        rintro e w3 ⟨rfl, hb3⟩
        replace x1 := cellB hb3 x1
        replace hb3 := thenB hb2 hb3
        go_wp2_with fail
        refine (HP.out _).mono ?_
        rintro e w4 ⟨rfl, hb4⟩
        replace x1 := cellB hb4 x1
        replace hb4 := thenB hb3 hb4
        go_wp2_with fail
        go_ret2
        exact ⟨⟨none, 0, [], D, rfl, Tr.none _, by simp [writeA, hR, hP, HDD.out, hz]⟩, hb4⟩

end Go.Proofs.YtheccdidfkcbbaaDoor
