/- PlanReaches: the walk -/
import Derived.Test.YtheccdidfkcbbaaDoorG9
import Derived.WalkLawsBesides
import Derived.Deep.CutRange
namespace Go.Proofs.YtheccdidfkcbbaaDoor
open Go.RowKit

theorem makeA_bad {F T : List AIt} (h : (makeA F T).2 ≠ 0) : makeA F T = ([], 1) := by
  unfold makeA at h ⊢
  split
  · rfl
  · rename_i hn; rw [if_neg hn] at h; exact absurd rfl h

set_option maxRecDepth 100000 in
set_option maxHeartbeats 8000000 in
theorem planreaches_walk (A : Option Addr) (c : Nat) (l : List Itm) (B : Option Addr) (d : Nat) (m : List Itm) (w : World) (hT : TrQ w A c l) (hU : TrQ w B d m) :
    Calls Tryd.prog 4 #[.slice A l.length c, .slice B m.length d] w fun e w' => e = .returned (.bool true) ∧ Below w.heap.size w w' := by
  have HA := hid alive24_walk
  have HL := hid (light2 A c l B d m w hT hU)
  have hb0 := thenA (Below.refl _ w) (.cells #[.slice A l.length c, .slice B m.length d] 22 (0, 0))
  cases hv : lightB l 62 && lightB m 62
  · rw [hv] at HL
    clear hv hT hU
    go_enter Tryd.func4, Tryd.ntmps4
    go_wp2_with fail
    refine HL.out.mono ?_
    rintro e w1 ⟨rfl, rfl⟩
    go_wp2_with fail
    refine (HA.out _).mono ?_
    rintro e w2 ⟨rfl, hb2⟩
    have hb3 := thenB hb0 hb2
    go_wp2_with fail
    go_ret
    exact ⟨rfl, hb3⟩
  rw [hv] at HL
  rw [Bool.and_eq_true] at hv
  have hl := hT.tr hv.1 (by omega)
  have hm := hU.tr hv.2 (by omega)
  have HMK := hid (make_walk A c l B d m _ (hl.below hb0) (hm.below hb0))
  have HLT := hid hl
  have HMT := hid hm
  have hl1 := hl.max
  have hm1 := hm.max
  clear hv hT hU hl hm
  go_enter Tryd.func4, Tryd.ntmps4
  go_wp2_with fail
  refine HL.out.mono ?_
  rintro e w1 ⟨rfl, rfl⟩
  go_wp2_with fail
  refine HMK.out.mono ?_
  rintro e w2 ⟨⟨C, u, L, f, rfl, hst, hL⟩, hb1⟩
  replace hL := hid hL
  have hb2 := thenB hb0 hb1
  by_cases hf : f = 0
  case neg =>
    have hbad := makeA_bad (F := l.map Itm.abs) (T := m.map Itm.abs) (by rw [← hL.out]; exact hf)
    rw [← hL.out] at hbad
    obtain ⟨hL0, rfl⟩ := Prod.mk.inj hbad
    obtain rfl : L = [] := by simpa using hL0
    clear hf hst hbad hL0
    simp only [List.length_nil]
    go_wp2_with fail
    refine (HA.out _).mono ?_
    rintro e w3 ⟨rfl, hb3⟩
    have hb4 := thenB hb2 hb3
    go_wp2_with fail
    go_ret
    exact ⟨rfl, hb4⟩
  subst hf
  obtain ⟨hr1, hr2⟩ := makeA_zero (F := l.map Itm.abs) (T := m.map Itm.abs) (by rw [← hL.out])
  rw [right_iff] at hr1 hr2
  have HLE : HidP (L.map StI.abs = (makeA (l.map Itm.abs) (m.map Itm.abs)).1) := hid (by rw [← hL.out])
  have hreach := make_reaches hr1 hr2
  have hdist := make_distinct hr1 hr2
  rw [← HLE.out] at hreach hdist
  rw [List.length_map, List.length_map] at hreach
  have HRE := hid hreach
  have HRUN := hid (okRun_run 0 hreach)
  have HDI : HidP (∀ q j (hq : q < j) (hj : j < L.length), ¬ (L[q].k = L[j].k ∧ L[q].p.toList = L[j].p.toList)) := hid (fun q j hq hj => by
    have h1 := List.pairwise_iff_getElem.1 hdist q j (by simp; omega) (by simpa using hj) hq
    simpa [StI.abs] using h1)
  have HSELF := hid (make_self hr2)
  have hLm := hst.max
  have HST := hid hst
  clear hr1 hr2 hL hst hdist
  go_wp2_with fail
  go_loopg [7, 8] L.length (fun k t i wr => ∃ (j : Nat) (tA : Option Addr) (tc : Nat) (t1 : List Itm), j ≤ L.length ∧ k = L.length - j ∧ i = .int .i64 j ∧ t = .slice tA t1.length tc ∧ Tr wr tA tc t1 ∧ Below w2.heap.size w2 wr ∧
    okRun (max l.length m.length) (t1.map Itm.abs) ((L.map StI.abs).drop j) (m.map Itm.abs))
  case atStart => exact ⟨0, A, c, l, Nat.zero_le _, rfl, rfl, rfl, HLT.out.below hb2, Below.refl _ _, hreach⟩
  case round =>
    clear hreach
    obtain ⟨j, tA, tc, t1, hj, rfl, rfl, rfl, ht, hbr, hok⟩ := hrel
    have hbw := thenB hb2 hbr
    by_cases hlt : j < L.length
    · have i0 : (0 : Int) ≤ (j : Int) := by omega
      have i1 : (j : Int) < (L.length : Int) := by omega
      obtain ⟨b, off, hA, c0, c1, c2, hg⟩ := (HST.out.below hbr).at hlt
      subst hA
      have hdr : (L.map StI.abs).drop j = L[j].abs :: (L.map StI.abs).drop (j + 1) := by
        rw [List.drop_eq_getElem_cons (by simpa using hlt), List.getElem_map]
      rw [hdr] at hok
      obtain ⟨ho1, ho2, ho3⟩ := hok
      have HDO := hid (stdo_walk tA tc t1 L[j] wr ht hg)
      have HO1 := hid ho1
      have HO2 := hid ho2
      have HO3 := hid ho3
      clear hdr ho1 ho2 ho3 ht hg c0 c1 c2
      obtain ⟨b', off', hA', c0, c1, c2, hg⟩ := (HST.out.below hbr).at hlt
      cases hA'
      clear hg
      go_wp2_with fail
      refine HDO.out.mono ?_
      rintro e w3 ⟨⟨aA, ac, a1, f, rfl, ha, hae⟩, hb3⟩
      have hf0 : f = 0 := by have := HO1.out; rw [← hae] at this; exact this
      subst hf0
      have hae1 : a1.map Itm.abs = (sdoA (t1.map Itm.abs) L[j].abs).1 := by rw [← hae]
      have hle : a1.length ≤ max l.length m.length := by
        have h2 := HO2.out
        rw [← hae1, List.length_map] at h2
        exact h2
      have HAE := hid hae1
      have g1 : decide ((a1.length : Int) > max (l.length : Int) (m.length : Int)) = false := decide_eq_false (by omega)
      have hb4 := thenB hbr hb3
      have HAA := hid ha
      clear hae hae1 ha c0 c1 c2 HDO
      go_wp2_with fail
      go_loopg [11] j (fun k q wx => ∃ n : Nat, n ≤ j ∧ k = j - n ∧ q = .int .i64 n ∧ Below w3.heap.size w3 wx)
      case atStart => exact ⟨0, Nat.zero_le _, rfl, rfl, Below.refl _ _⟩
      case round =>
        obtain ⟨n, hn, rfl, rfl, hbx⟩ := hrel
        have hb5 := thenB hb4 hbx
        by_cases hnl : n < j
        · have n0 : (0 : Int) ≤ (n : Int) := by omega
          have n1 : (n : Int) < (j : Int) := by omega
          have n2 : (n : Int) < (L.length : Int) := by omega
          obtain ⟨b1, off1, hA1, c0, c1, c2, _⟩ := (HST.out.below hb5).at (show n < L.length by omega)
          obtain ⟨b2, off2, hA2, e0, e1, e2, _⟩ := (HST.out.below hb5).at hlt
          cases hA1
          cases hA2
          have hdd := HDI.out n j hnl hlt
          clear c2 e2
          cases hk : (L[n].k == L[j].k)
          · clear hdd
            go_wp2_with fail
            go_quiet (fail)
            go_wp2_with fail
            go_roundg (j - (n + 1))
            case measure => omega
            case rel => exact ⟨n + 1, by omega, rfl, by go_num, Below.drewN hbx⟩
          · have hp : (L[n].p.toList == L[j].p.toList) = false := by
              rw [beq_eq_false_iff_ne]
              intro e
              exact hdd ⟨by simpa using hk, e⟩
            clear hdd
            go_wp2_with fail
            go_quiet (fail)
            go_wp2_with fail
            go_roundg (j - (n + 1))
            case measure => omega
            case rel => exact ⟨n + 1, by omega, rfl, by go_num, Below.drewN hbx⟩
        · obtain rfl : n = j := by omega
          go_wp2_with fail
          go_roundg (L.length - (n + 1))
          case measure => omega
          case rel => exact ⟨n + 1, aA, ac, a1, by omega, rfl, by go_num, rfl, HAA.out.below hbx, hb5, by rw [HAE.out]; exact HO3.out⟩
    · obtain rfl : j = L.length := by omega
      rw [List.drop_of_length_le (by simp)] at hok
      have HOK : HidP (t1.map Itm.abs = m.map Itm.abs) := hid hok
      have HRW := hid (strun_walk A c l C u L wr (HLT.out.below hbw) (HST.out.below hbr))
      have HSM := hid (fun W (hW : Below wr.heap.size wr W) => make_walk B d m B d m W ((HMT.out.below hbw).below hW) ((HMT.out.below hbw).below hW))
      have HTT := hid ht
      clear ht hok
      go_wp2_with fail
      refine HRW.out.mono ?_
      rintro e w3 ⟨⟨aA, ac, a1, n, f, rfl, ha, hae⟩, hb3⟩
      rw [HRUN.out] at hae
      obtain ⟨ha1, hae2⟩ := Prod.mk.inj hae
      obtain ⟨rfl, rfl⟩ := Prod.mk.inj hae2
      rw [List.length_map, Nat.zero_add]
      have HA1 := hid ha1
      have HAA := hid ha
      clear hae ha1 hae2 ha
      go_wp2_with fail
      refine (HSM.out _ hb3).mono ?_
      rintro e w4 ⟨⟨D, v, S, f, rfl, _, hS⟩, hb4⟩
      rw [HSELF.out] at hS
      obtain ⟨hS1, rfl⟩ := Prod.mk.inj hS
      obtain rfl : S = [] := by simpa using hS1
      clear hS hS1
      have hb5 := thenB hb3 hb4
      have hbm := thenB hbw hb5
      have HS1 : HidP (Calls Tryd.prog 15 #[.slice tA t1.length tc, .slice B m.length d] w4 fun e w' => e = .returned (.bool true) ∧ Below w4.heap.size w4 w') := hid (by
        have h1 := refsame tA B tc d t1 m w4 (HTT.out.below hb5) (HMT.out.below hbm)
        rw [show sameL t1 m = true by unfold sameL; exact decide_eq_true HOK.out] at h1
        exact h1)
      have HS2 : HidP (∀ W, Below w4.heap.size w4 W → Calls Tryd.prog 15 #[.slice aA a1.length ac, .slice B m.length d] W fun e w' => e = .returned (.bool true) ∧ Below W.heap.size W w') := hid (fun W hW => by
        have h1 := refsame aA B ac d a1 m W ((HAA.out.below hb4).below hW) ((HMT.out.below hbm).below hW)
        rw [show sameL a1 m = true by unfold sameL; exact decide_eq_true HA1.out] at h1
        exact h1)
      simp only [List.length_nil]
      go_wp2_with fail
      refine HS1.out.mono ?_
      rintro e w5 ⟨rfl, hb6⟩
      go_wp2_with fail
      refine (HS2.out _ hb6).mono ?_
      rintro e w6 ⟨rfl, hb7⟩
      have hb8 := thenB hbm (thenB hb6 hb7)
      go_wp2_with fail
      refine (HA.out _).mono ?_
      rintro e w7 ⟨rfl, hb9⟩
      have hb10 := thenB hb8 hb9
      go_wp2_with fail
      go_ret
      exact ⟨rfl, hb10⟩

end Go.Proofs.YtheccdidfkcbbaaDoor
