/- PlanSmall: the walk -/
import Derived.Test.YtheccdidfkcbbaaDoorG8
namespace Go.Proofs.YtheccdidfkcbbaaDoor
open Go.RowKit

theorem light2 (A : Option Addr) (c : Nat) (l : List Itm) (B : Option Addr) (d : Nat) (m : List Itm) (w : World) (h : TrQ w A c l) (k : TrQ w B d m) :
    Calls Tryd.prog 6 #[.slice (some ⟨w.heap.size, 0, none⟩) 2 2] (w.alloc (.cells #[.slice A l.length c, .slice B m.length d] 22 (0, 0))) fun e w' => e = .returned (.bool (lightB l 62 && lightB m 62)) ∧ (w.alloc (.cells #[.slice A l.length c, .slice B m.length d] 22 (0, 0))) = w' := by
  have hb := thenA (Below.refl _ w) (.cells #[.slice A l.length c, .slice B m.length d] 22 (0, 0))
  have h1 := (h.below hb).toTrW
  have h2 := (k.below hb).toTrW
  refine (light22_walk (some ⟨w.heap.size, 0, none⟩) 2 [⟨A, c, l⟩, ⟨B, d, m⟩] _ (Recs.ofBlock (l := [⟨A, c, l⟩, ⟨B, d, m⟩]) tri_len (heap_alloc_new w (.cells #[.slice A l.length c, .slice B m.length d] 22 (0, 0))) rfl) (by simp) (fun t ht => ?_)).mono ?_
  · simp only [List.mem_cons, List.not_mem_nil, or_false] at ht
    rcases ht with rfl | rfl
    · exact h1
    · exact h2
  · rintro e w' ⟨rfl, rfl⟩
    exact ⟨by simp, rfl⟩
theorem light1 (A : Option Addr) (c : Nat) (l : List Itm) (w : World) (h : TrQ w A c l) :
    Calls Tryd.prog 6 #[.slice (some ⟨w.heap.size, 0, none⟩) 1 1] (w.alloc (.cells #[.slice A l.length c] 22 (0, 0))) fun e w' => e = .returned (.bool (lightB l 62)) ∧ (w.alloc (.cells #[.slice A l.length c] 22 (0, 0))) = w' := by
  have hb := thenA (Below.refl _ w) (.cells #[.slice A l.length c] 22 (0, 0))
  have h1 := (h.below hb).toTrW
  refine (light22_walk (some ⟨w.heap.size, 0, none⟩) 1 [⟨A, c, l⟩] _ (Recs.ofBlock (l := [⟨A, c, l⟩]) tri_len (heap_alloc_new w (.cells #[.slice A l.length c] 22 (0, 0))) rfl) (by simp) (fun t ht => ?_)).mono ?_
  · rw [List.mem_singleton.1 ht]
    exact h1
  · rintro e w' ⟨rfl, rfl⟩
    exact ⟨by simp, rfl⟩

set_option maxRecDepth 100000 in
set_option maxHeartbeats 8000000 in
theorem plansmall_walk (A : Option Addr) (c : Nat) (l : List Itm) (B : Option Addr) (d : Nat) (m : List Itm) (w : World) (hT : TrQ w A c l) (hU : TrQ w B d m) :
    Calls Tryd.prog 3 #[.slice A l.length c, .slice B m.length d] w fun e w' => e = .returned (.bool true) ∧ Below w.heap.size w w' := by
  have HA := hid alive24_walk
  have HL := hid (light2 A c l B d m w hT hU)
  have hb0 := thenA (Below.refl _ w) (.cells #[.slice A l.length c, .slice B m.length d] 22 (0, 0))
  cases hv : lightB l 62 && lightB m 62
  · rw [hv] at HL
    clear hv hT hU
    go_enter Tryd.func3, Tryd.ntmps3
    go_wp2_with fail
    refine HL.out.mono ?_
    rintro e w1 ⟨rfl, rfl⟩
    go_wp2_with fail
    refine (HA.out _).mono ?_
    rintro e w2 ⟨rfl, hb2⟩
    have hb3 := thenB hb0 hb2
    go_wp2_with fail
    go_ret
    exact ⟨rfl, hb3⟩
  rw [hv] at HL
  rw [Bool.and_eq_true] at hv
  have hl := hT.tr hv.1 (by omega)
  have hm := hU.tr hv.2 (by omega)
  have hbl := bytes_light hv.2
  have HMK := hid (make_walk A c l B d m _ (hl.below hb0) (hm.below hb0))
  have HLT := hid hl
  have HMT := hid hm
  have HBL := hid hbl
  have hl1 := hl.max
  have hm1 := hm.max
  clear hv hT hU hl hm hbl
  go_enter Tryd.func3, Tryd.ntmps3
  go_wp2_with fail
  refine HL.out.mono ?_
  rintro e w1 ⟨rfl, rfl⟩
  go_wp2_with fail
  refine HMK.out.mono ?_
  rintro e w2 ⟨⟨C, u, L, f, rfl, hst, hL⟩, hb1⟩
  replace hL := hid hL
  have hb2 := thenB hb0 hb1
  by_cases hf : f = 0
  case neg =>
    have g0 : (f == 0) = false := by simp [hf]
    clear hf hst
    go_wp2_with fail
    refine (HA.out _).mono ?_
    rintro e w3 ⟨rfl, hb3⟩
    have hb4 := thenB hb2 hb3
    go_wp2_with fail
    go_ret
    exact ⟨rfl, hb4⟩
  subst hf
  obtain ⟨hr1, hr2⟩ := makeA_zero (F := l.map Itm.abs) (T := m.map Itm.abs) (by rw [← hL.out])
  rw [right_iff] at hr1 hr2
  have HLE : HidP (L.map StI.abs = (makeA (l.map Itm.abs) (m.map Itm.abs)).1) := hid (by rw [← hL.out])
  have hsmall := hid (fun (s : StA) hs => make_small hr1 hr2 (s := s) hs)
  have hcost := make_cost (l.map Itm.abs) (m.map Itm.abs)
  have hlen := make_len hr1 hr2
  rw [← HLE.out] at hcost hlen
  rw [List.length_map, List.length_map, List.length_map] at hlen
  have hLm := hst.max
  have HST := hid hst
  have HCO := hid hcost
  clear hr1 hr2 hL hst hcost
  go_wp2_with fail
  go_loopg [7] L.length (fun k i wr => ∃ j : Nat, j ≤ L.length ∧ k = L.length - j ∧ i = .int .i64 j ∧ Below w2.heap.size w2 wr)
  case atStart => exact ⟨0, Nat.zero_le _, rfl, rfl, Below.refl _ _⟩
  case round =>
    obtain ⟨j, hj, rfl, rfl, hbr⟩ := hrel
    have hbw := thenB hb2 hbr
    by_cases hlt : j < L.length
    · have i0 : (0 : Int) ≤ (j : Int) := by omega
      have i1 : (j : Int) < (L.length : Int) := by omega
      obtain ⟨b, off, hA, c0, c1, c2, hg⟩ := (HST.out.below hbr).at hlt
      subst hA
      have hsm := hsmall.out L[j].abs (by rw [← HLE.out]; exact List.mem_map_of_mem (List.getElem_mem hlt))
      have HSM := hid hsm
      have HF1 := hid (reffind_item A c l L[j].p wr (HLT.out.below hbw))
      have HF2 := hid (fun W (hW : Below wr.heap.size wr W) => reffind_item B d m L[j].p W ((HMT.out.below hbw).below hW))
      clear hsm hg
      go_wp2_with fail
      refine HF1.out.mono ?_
      rintro e w3 ⟨⟨x, is, rfl, hgx, _, hx1, hx2⟩, hb3⟩
      have hby := thenA hb3 (.cells #[.string x.p, .bool x.d, .slice x.dA x.bs.length x.dc] 31 (0, 0))
      have d0 := cellB hby c0
      have d1 := cellB hby c1
      have X0 := hid hx1
      have X1 := hid hx2
      clear hx1 hx2 c2
      go_wp2_with fail
      refine (HF2.out _ hby).mono ?_
      rintro e w4 ⟨⟨y, was, rfl, hgy, _, hy1, hy2⟩, hb4⟩
      have hb5 := thenA hb4 (.cells #[.string y.p, .bool y.d, .slice y.dA y.bs.length y.dc] 31 (0, 0))
      have e0 := cellB hb5 d0
      have x0 := cellB hb5 ((blkCell (heap_alloc_new w3 (.cells #[.string x.p, .bool x.d, .slice x.dA x.bs.length x.dc] 31 (0, 0))) 0).trans rfl)
      have x1 := cellB hb5 ((blkCell (heap_alloc_new w3 (.cells #[.string x.p, .bool x.d, .slice x.dA x.bs.length x.dc] 31 (0, 0))) 1).trans rfl)
      have x2 := cellB hb5 ((blkCell (heap_alloc_new w3 (.cells #[.string x.p, .bool x.d, .slice x.dA x.bs.length x.dc] 31 (0, 0))) 2).trans rfl)
      have hgx5 := (hgx.below (thenA (Below.refl _ w3) (.cells #[.string x.p, .bool x.d, .slice x.dA x.bs.length x.dc] 31 (0, 0)))).below hb5
      have hgy5 := hgy.below (thenA (Below.refl _ w4) (.cells #[.string y.p, .bool y.d, .slice y.dA y.bs.length y.dc] 31 (0, 0)))
      have HSI := hid (refsameitem x y _ hgx5 hgy5)
      have hb6 := thenB hby hb5
      obtain ⟨hs1, hs2, hs3⟩ := HSM.out
      have hk3 : L[j].k = 1 → is = true := fun h => X0.out ▸ hs3 h
      have hk2 : L[j].k ≠ 1 → was = true := fun h => hy1 ▸ hs2 h
      have hsame : is = true → was = true → sameI x y = false := fun h1 h2 => by
        rw [sameI_abs]
        exact decide_eq_false (hs1 x.abs y.abs (X1.out h1) (hy2 h2))
      have hbe := thenB hbr hb6
      clear hs1 hs2 hs3 hgx hgy hgx5 hgy5 d0 d1 c0 c1 hy1 hy2 X0 X1 HSM
      by_cases hk : L[j].k = 1
      · have g1 : (L[j].k == 1) = true := by simp [hk]
        have g2 : (L[j].k != 1) = false := by simp [hk]
        obtain rfl := hk3 hk
        clear hk3 hk2 hk
        cases was
        · clear hsame
          go_wp2_with fail
          go_roundg (L.length - (j + 1))
          case measure => omega
          case rel => exact ⟨j + 1, by omega, rfl, by go_num, hbe⟩
        · rw [hsame rfl rfl] at HSI
          clear hsame
          go_wp2_with fail
          refine HSI.out.mono ?_
          rintro e w5 ⟨rfl, hb7⟩
          have f0 := cellB hb7 e0
          have hbf := thenB hbe hb7
          go_wp2_with fail
          go_roundg (L.length - (j + 1))
          case measure => omega
          case rel => exact ⟨j + 1, by omega, rfl, by go_num, hbf⟩
      · have g1 : (L[j].k == 1) = false := by simp [hk]
        have g2 : (L[j].k != 1) = true := by simp [hk]
        obtain rfl := hk2 hk
        clear hk3 hk2 hk
        cases is
        · clear hsame
          go_wp2_with fail
          go_roundg (L.length - (j + 1))
          case measure => omega
          case rel => exact ⟨j + 1, by omega, rfl, by go_num, hbe⟩
        · rw [hsame rfl rfl] at HSI
          clear hsame
          go_wp2_with fail
          refine HSI.out.mono ?_
          rintro e w5 ⟨rfl, hb7⟩
          have f0 := cellB hb7 e0
          have hbf := thenB hbe hb7
          go_wp2_with fail
          go_roundg (L.length - (j + 1))
          case measure => omega
          case rel => exact ⟨j + 1, by omega, rfl, by go_num, hbf⟩
    · obtain rfl : j = L.length := by omega
      have hbl := HBL.out
      have hco := HCO.out
      have HCW := hid (cost_walk C u L wr (HST.out.below hbr) (by omega))
      have HBW := hid (fun W (hW : Below wr.heap.size wr W) => bytes_walk B d m W ((HMT.out.below hbw).below hW) (by omega))
      have g1 : decide ((costA (L.map StI.abs) : Int) ≤ (bytesA (m.map Itm.abs) : Int)) = true := decide_eq_true (by omega)
      have g2 : decide ((L.length : Int) ≤ (l.length : Int) + (m.length : Int)) = true := decide_eq_true (by omega)
      have g3 : decide (costA (L.map StI.abs) ≤ bytesA (m.map Itm.abs)) = true := decide_eq_true hco
      have g4 : decide (L.length ≤ l.length + m.length) = true := decide_eq_true (by omega)
      clear hbl hco
      go_wp2_with fail
      refine HCW.out.mono ?_
      rintro e w3 ⟨rfl, hb3⟩
      go_wp2_with fail
      refine (HBW.out _ hb3).mono ?_
      rintro e w4 ⟨rfl, hb4⟩
      have hb5 := thenB hb3 hb4
      go_wp2_with fail
      refine (HA.out _).mono ?_
      rintro e w5 ⟨rfl, hb6⟩
      have hb7 := thenB hbw (thenB hb5 hb6)
      go_wp2_with fail
      go_ret
      exact ⟨rfl, hb7⟩

end Go.Proofs.YtheccdidfkcbbaaDoor
