/- TreeWrites: the walk -/
import Derived.Test.YtfoedcmcdpekoaaDoorW2
import Derived.Deep.Cut
import Derived.Deep.CutBlock
namespace Go.Proofs.YtfoedcmcdpekoaaDoor
open Go.RowKit

theorem abs_inj {x : Itm} {p : List UInt8} {d : Bool} {b : List Int} (h : x.abs = ⟨p, d, b⟩) : x.p.toList = p ∧ x.d = d ∧ x.bs = b := by
  unfold Itm.abs at h
  simpa using h

/-- bytes that came in -/
structure SlB (w : World) (A : Option Addr) (c : Nat) (bs : List Int) : Prop where
  src : Src w 1 (.slice A bs.length c) (nums bs)
  rng : ∀ b ∈ bs, 0 ≤ b ∧ b < 256

set_option maxRecDepth 100000 in
set_option maxHeartbeats 8000000 in
theorem treewrites_walk (A : Option Addr) (c : Nat) (l : List OpI) (p q : ByteArray) (bA : Option Addr) (bc : Nat) (bs : List Int) (w : World) (hO : OpsQ w A c l) (hB : SlB w bA bc bs) :
    Calls Tryd.prog 7 #[.slice A l.length c, .string p, .string q, .slice bA bs.length bc] w fun e w' => e = .returned (.bool true) ∧ Below w.heap.size w w' := by
  have HA := hid alive_walk
  have HOP : HidP (Calls Tryd.prog 27 #[.slice A l.length c, .int .i64 20] w fun e w' => e = .returned (.bool (opsB l 20)) ∧ w = w') := hid (ops_walk A c l 20 w hO (by omega))
  obtain ⟨N, hN⟩ : ∃ N, bs.length = N := ⟨_, rfl⟩
  have HN := hid hN
  rw [hN]
  by_cases hguard : opsB l 20 = true ∧ p.size ≤ 250 ∧ q.size ≤ 250 ∧ N ≤ 2100
  case neg =>
    obtain ⟨OB, hOB⟩ : ∃ OB, opsB l 20 = OB := ⟨_, rfl⟩
    rw [hOB] at hguard HOP
    clear hOB hN
    cases OB
    case false =>
      go_enter Tryd.func7, Tryd.ntmps7
      go_wp2_with fail
      refine HOP.out.mono ?_
      rintro e w1 ⟨rfl, rfl⟩
      go_wp2_with fail
      refine (HA.out _).mono ?_
      rintro e w2 ⟨rfl, hb2⟩
      go_wp2_with fail
      go_ret
      exact ⟨rfl, hb2⟩
    by_cases h1 : p.size > 250
    · have g1 : decide ((p.size : Int) > 250) = true := decide_eq_true (by omega)
      clear hguard
      go_enter Tryd.func7, Tryd.ntmps7
      go_wp2_with fail
      refine HOP.out.mono ?_
      rintro e w1 ⟨rfl, rfl⟩
      go_wp2_with fail
      refine (HA.out _).mono ?_
      rintro e w2 ⟨rfl, hb2⟩
      go_wp2_with fail
      go_ret
      exact ⟨rfl, hb2⟩
    have g1 : decide ((p.size : Int) > 250) = false := decide_eq_false (by omega)
    by_cases h2 : q.size > 250
    · have g2 : decide ((q.size : Int) > 250) = true := decide_eq_true (by omega)
      clear hguard
      go_enter Tryd.func7, Tryd.ntmps7
      go_wp2_with fail
      refine HOP.out.mono ?_
      rintro e w1 ⟨rfl, rfl⟩
      go_wp2_with fail
      refine (HA.out _).mono ?_
      rintro e w2 ⟨rfl, hb2⟩
      go_wp2_with fail
      go_ret
      exact ⟨rfl, hb2⟩
    have g2 : decide ((q.size : Int) > 250) = false := decide_eq_false (by omega)
    have h3 : N > 2100 := by
      have : ¬ N ≤ 2100 := fun h => hguard ⟨rfl, by omega, by omega, h⟩
      omega
    have g3 : decide ((N : Int) > 2100) = true := decide_eq_true (by omega)
    clear hguard
    go_enter Tryd.func7, Tryd.ntmps7
    go_wp2_with fail
    refine HOP.out.mono ?_
    rintro e w1 ⟨rfl, rfl⟩
    go_wp2_with fail
    refine (HA.out _).mono ?_
    rintro e w2 ⟨rfl, hb2⟩
    go_wp2_with fail
    go_ret
    exact ⟨rfl, hb2⟩
  obtain ⟨h0, h1, h2, h3⟩ := hguard
  rw [h0] at HOP
  have g1 : decide ((p.size : Int) > 250) = false := decide_eq_false (by omega)
  have g2 : decide ((q.size : Int) > 250) = false := decide_eq_false (by omega)
  have g3 : decide ((N : Int) > 2100) = false := decide_eq_false (by omega)
  have HG := hid (grown_walk A c 20 l w hO h0 (by omega))
  have HB := hid hB
  have HP : HidP (p.size ≤ 140737488351232) := hid (by omega)
  have HQ : HidP (q.size ≤ 140737488351232) := hid (by omega)
  have HN3 := hid h3
  clear hO hB h0 h1 h2 h3 hN
  go_enter Tryd.func7, Tryd.ntmps7
  go_wp2_with fail
  refine HOP.out.mono ?_
  rintro e w0 ⟨rfl, rfl⟩
  go_wp2_with fail
  refine HG.out.mono ?_
  rintro e w1 ⟨⟨tA, tc, t, rfl, ht, hri⟩, hb1⟩
  have HT := hid ht
  have HR := hid hri
  have hgp : Good w1 ⟨p, false, bA, bc, bs⟩ := ⟨HP.out, by have h1 := HN.out; have h2 := HN3.out; simp only; omega, HB.out.src.below hb1, HB.out.rng⟩
  have HW := write_walk tA tc t p bA bc bs w1 ht hgp
  rw [HN.out] at HW
  replace HW := hid HW
  have HB1 := hid (HB.out.src.below hb1)
  have HB0 := hid hb1
  clear ht hri hgp HG HOP hb1
  go_wp2_with fail
  refine HW.out.mono ?_
  rintro e w2 ⟨⟨uA, uc, u, f, rfl, hu, hue⟩, hb2⟩
  replace hue := hid hue
  have HU := hid hu
  have HB2 := hid (HB1.out.below hb2)
  clear HW hu
  go_upto_if 52 with fail
  go_cut [] from 10 (fun wx => Below w1.heap.size w1 wx)
  case first =>
    by_cases hf : f = 0
    · subst hf
      have hwd := write_done HR.out (show (writeA (t.map Itm.abs) p.toList bs).2 = 0 by rw [← hue.out])
      rw [← hue.out] at hwd
      simp only at hwd
      obtain ⟨wu, ws, wf, wy⟩ := hwd
      rw [← wu] at ws wf wy
      have WS := hid ws
      have WF := hid wf
      have WY := hid wy
      clear wu ws wf wy
      go_wp2_with fail
      refine (find_walk uA uc u p _ HU.out).mono ?_
      rintro e w3 ⟨⟨x, is, rfl, hgx, _, hfx⟩, hb3⟩
      obtain ⟨f1, f2⟩ := hfx (sortedI_of WS.out)
      rw [WF.out] at f1 f2
      obtain rfl : is = true := f1.symm
      obtain ⟨_, hxd, hxb⟩ := abs_inj (Option.some.inj (f2 rfl)).symm
      obtain ⟨xp, xd, xA, xc, xb⟩ := x
      simp only at hxd hxb
      subst xd xb
      have hgs := hgx.src
      simp only at hgs ⊢
      rw [HN.out] at hgs
      rw [HN.out]
      have hB3 := thenA (Below.refl _ w3) (.cells #[.string xp, .bool false, .slice xA N xc] 30 (0, 0))
      have hx3 := heap_alloc_new w3 (.cells #[.string xp, .bool false, .slice xA N xc] 30 (0, 0))
      have a1 : (w3.alloc (.cells #[.string xp, .bool false, .slice xA N xc] 30 (0, 0))).cell? ⟨w3.heap.size, 1, none⟩ = some (.bool false) := (blkCell hx3 1).trans rfl
      have a2 : (w3.alloc (.cells #[.string xp, .bool false, .slice xA N xc] 30 (0, 0))).cell? ⟨w3.heap.size, 2, none⟩ = some (.slice xA N xc) := (blkCell hx3 2).trans rfl
      have HBY := bytes_same (.slice xA N xc) (.slice bA N bc) bs bs (w3.alloc (.cells #[.string xp, .bool false, .slice xA N xc] 30 (0, 0))) (hgs.below hB3) (by have h1 := HB2.out; rw [HN.out] at h1; exact (h1.below hb3).below hB3) (by rw [HN.out]; have := HN3.out; omega)
      rw [decide_eq_true rfl] at HBY
      replace HBY := hid HBY
      have HB3 := hid (thenB hb3 hB3)
      clear f1 f2 hfx hgx hgs hB3 hx3 hb3
      go_wp2_with fail
      refine HBY.out.mono ?_
      rintro e w4 ⟨rfl, n4, rfl⟩
      have HB4 := hid (Below.drewN (n := n4) HB3.out)
      clear a1 a2 HBY
      go_wp2_with fail
      have HM := hid HT.out.max
      go_loopg [14] t.length (fun k i wr => ∃ j : Nat, j ≤ t.length ∧ k = t.length - j ∧ i = .int .i64 j ∧ Below w2.heap.size w2 wr)
      case atStart => exact ⟨0, Nat.zero_le _, rfl, rfl, HB4.out⟩
      case round =>
        obtain ⟨j, hj, rfl, rfl, hbr⟩ := hrel
        have HBR := hid hbr
        clear hbr
        by_cases hlt : j < t.length
        · have i0 : (0 : Int) ≤ (j : Int) := by omega
          have i1 : (j : Int) < (t.length : Int) := by omega
          obtain ⟨b, off, hA, c0, c1, c2⟩ := (HT.out.below (thenB hb2 HBR.out)).cell j t[j] (List.getElem?_eq_getElem hlt)
          have HY := hid (WY.out t[j].abs (List.mem_map_of_mem (List.getElem_mem hlt)))
          have hgt := (HT.out.good t[j] (List.getElem_mem hlt)).below (thenB hb2 HBR.out)
          have FW := hid (find_walk uA uc u t[j].p wr (HU.out.below HBR.out))
          subst hA
          go_wp2_with fail
          refine FW.out.mono ?_
          rintro e w5 ⟨⟨y, was, rfl, hgy, _, hfy⟩, hb5⟩
          obtain ⟨f1, f2⟩ := hfy (sortedI_of WS.out)
          obtain rfl : was = true := f1.symm.trans HY.out.1
          have HF2 := hid (f2 rfl)
          have hB6 := thenA (Below.refl _ w5) (.cells #[.string y.p, .bool y.d, .slice y.dA y.bs.length y.dc] 30 (0, 0))
          have hy6 := heap_alloc_new w5 (.cells #[.string y.p, .bool y.d, .slice y.dA y.bs.length y.dc] 30 (0, 0))
          have HB6 := hid (thenB (thenB HBR.out hb5) hB6)
          have k0 := cellB (thenB hb5 hB6) c0
          have k1 := cellB (thenB hb5 hB6) c1
          have k2 := cellB (thenB hb5 hB6) c2
          have hgt6 := hgt.below (thenB hb5 hB6)
          have hgy6 := hgy.below hB6
          have d0 : (w5.alloc (.cells #[.string y.p, .bool y.d, .slice y.dA y.bs.length y.dc] 30 (0, 0))).cell? ⟨w5.heap.size, 0, none⟩ = some (.string y.p) := (blkCell hy6 0).trans rfl
          have d1 : (w5.alloc (.cells #[.string y.p, .bool y.d, .slice y.dA y.bs.length y.dc] 30 (0, 0))).cell? ⟨w5.heap.size, 1, none⟩ = some (.bool y.d) := (blkCell hy6 1).trans rfl
          have d2 : (w5.alloc (.cells #[.string y.p, .bool y.d, .slice y.dA y.bs.length y.dc] 30 (0, 0))).cell? ⟨w5.heap.size, 2, none⟩ = some (.slice y.dA y.bs.length y.dc) := (blkCell hy6 2).trans rfl
          clear c0 c1 c2 f1 f2 hfy hgy hgt hb5 hB6 hy6
          go_wp2_with fail
          generalize w5.alloc (.cells #[.string y.p, .bool y.d, .slice y.dA y.bs.length y.dc] 30 (0, 0)) = w6 at *
          have m0 := under_cell k0
          have m1 := under_cell k1
          have m2 := under_cell k2
          have n0 := under_cell d0
          have n1 := under_cell d1
          have n2 := under_cell d2
          clear k0 k1 k2 d0 d1 d2
          by_cases hp : t[j].p.toList = p.toList
          · have g5 : (t[j].p.toList == p.toList) = true := by simp [hp]
            clear hp
            refine wp_region_under (by kernel_rfl) (by kernel_rfl) ?_
            repeat (go_big_quiet_step (fail))
            refine wpQuiet_nil ?_
            intro _ hw'
            obtain ⟨Wq, hw''⟩ := hw'
            subst hw''
            clear m0 m1 m2 n0 n1 n2
            go_wp2_with fail
            go_roundg (t.length - (j + 1))
            case measure => omega
            case rel =>
              have h8 := HM.out
              exact ⟨j + 1, by omega, rfl, by refine congrArg _ ?_; unfold wrap64; omega, thenB HB6.out (under_below w6 Wq)⟩
          · have g5 : (t[j].p.toList == p.toList) = false := by simp [hp]
            have hab : y.abs = t[j].abs := Option.some.inj (HF2.out.symm.trans (HY.out.2 hp))
            have HSI := hid (fun W => under_call (v := .bool true) (by have h9 := refsameitem y t[j] (under w6 W) (hgy6.below (under_below w6 W)) (hgt6.below (under_below w6 W)); rw [show sameI y t[j] = true by rw [sameI_abs, decide_eq_true hab]] at h9; exact h9))
            clear hp hab hgy6 hgt6
            refine wp_region_under (by kernel_rfl) (by kernel_rfl) ?_
            repeat (go_big_quiet_step (first | with_reducible exact HSI.out _))
            refine wpQuiet_nil ?_
            intro _ hw'
            obtain ⟨Wq, hw''⟩ := hw'
            subst hw''
            clear m0 m1 m2 n0 n1 n2
            go_wp2_with fail
            go_roundg (t.length - (j + 1))
            case measure => omega
            case rel =>
              have h8 := HM.out
              exact ⟨j + 1, by omega, rfl, by refine congrArg _ ?_; unfold wrap64; omega, thenB HB6.out (under_below w6 Wq)⟩
        · obtain rfl : j = t.length := by omega
          go_wp2_with fail
          go_meet
          case rel => exact thenB hb2 HBR.out
    · have g0 : (f == 0) = false := by simp [hf]
      clear hf
      go_wp2_with fail
      go_meet
      case rel => exact hb2
  case rest =>
    have HC := hid hcut
    have HRN := hid (rename_walk tA tc t p q wc (HT.out.below HC.out) HP.out HQ.out)
    clear hcut hb2
    go_wp2_with fail
    refine HRN.out.mono ?_
    rintro e w3 ⟨⟨vA, vc, v, f2, rfl, hv, hve⟩, hb3⟩
    rw [renameB_eq] at hve
    replace hve := hid hve
    have HV := hid hv
    have HB3 := hid (thenB HC.out hb3)
    clear hv hb3 HRN
    go_upto_if 116 with fail
    go_cut [] from 10 (fun wx => Below w1.heap.size w1 wx)
    case first =>
      by_cases hf : f2 = 0
      · subst hf
        have hrb := rename_back HR.out (show (renameA (t.map Itm.abs) p.toList q.toList).2 = 0 by rw [← hve.out])
        rw [← hve.out] at hrb
        simp only at hrb
        have HR1 := hid hrb.1
        have HR2 := hid hrb.2
        clear hrb
        have HRW := hid (rename_walk vA vc v q p w3 HV.out HQ.out HP.out)
        go_wp2_with fail
        refine HRW.out.mono ?_
        rintro e w4 ⟨⟨xA, xc, x, g, rfl, hx, hxe⟩, hb4⟩
        rw [renameB_eq, HR1.out] at hxe
        obtain ⟨hx1, rfl⟩ := Prod.mk.inj hxe
        have HB4 := hid (thenB HB3.out hb4)
        have HS := tsame_walk xA tA xc tc x t w4 hx (HT.out.below HB4.out)
        rw [show sameL x t = true by unfold sameL; exact decide_eq_true hx1] at HS
        replace HS := hid HS
        have HV4 := hid (HV.out.below hb4)
        clear hx hx1 hxe hb4 HRW
        go_wp2_with fail
        refine HS.out.mono ?_
        rintro e w5 ⟨rfl, hb5⟩
        have HB5 := hid (thenB HB4.out hb5)
        have HU1 := hid (under_walk vA vc v q w5 (HV4.out.below hb5))
        clear hb5 HS
        go_wp2_with fail
        refine HU1.out.mono ?_
        rintro e w6 ⟨⟨C1, u1, l1, rfl, _, hm1⟩, hb6⟩
        have HB6 := hid (thenB HB5.out hb6)
        have HU2 := hid (under_walk tA tc t p w6 (HT.out.below HB6.out))
        replace hm1 := hid hm1
        clear hb6 HU1
        go_wp2_with fail
        refine HU2.out.mono ?_
        rintro e w7 ⟨⟨C2, u2, l2, rfl, _, hm2⟩, hb7⟩
        have HB7 := hid (thenB HB6.out hb7)
        have hlen : l1.length = l2.length := by
          have e1 := congrArg List.length hm1.out
          have e2 := congrArg List.length hm2
          rw [List.length_map] at e1 e2
          rw [e1, e2, HR2.out]
        rw [hlen]
        clear hlen hm2 hb7 HU2
        go_wp2_with fail
        go_meet
        case rel => exact HB7.out
      · have g0 : (f2 == 0) = false := by simp [hf]
        clear hf
        go_wp2_with fail
        go_meet
        case rel => exact HB3.out
    case rest =>
      have HD := hid hcut
      have HRM := hid (remove_walk tA tc t p true wc (HT.out.below HD.out) HP.out)
      clear hcut
      go_wp2_with fail
      refine HRM.out.mono ?_
      rintro e w4 ⟨⟨rA, rc, r, f3, rfl, hr, hre⟩, hb4⟩
      replace hre := hid hre
      have HRR := hid hr
      have HB4 := hid (thenB HD.out hb4)
      clear hr hb4 HRM
      by_cases hf : f3 = 0
      · subst hf
        obtain ⟨hrm, hrf⟩ := remove_done (show (removeA (t.map Itm.abs) p.toList true).2 = 0 by rw [← hre.out])
        rw [← hre.out] at hrm
        simp only at hrm
        rw [← hrm] at hrf
        have HF := hid hrf
        have HS := hid (show sortedA (r.map Itm.abs) by rw [hrm]; exact HR.out.sorted.filter _)
        have hpl := parts_len (t.map Itm.abs) p.toList
        rw [← hrm, List.length_map, List.length_map] at hpl
        have HPL := hid hpl
        clear hrm hrf hpl
        go_wp2_with fail
        refine (find_walk rA rc r p w4 HRR.out).mono ?_
        rintro e w5 ⟨⟨x, is, rfl, _, _, hfx⟩, hb5⟩
        have f1 := (hfx (sortedI_of HS.out)).1
        rw [HF.out] at f1
        obtain rfl : is = false := f1.symm
        have HB5 := hid ((thenB HB4.out hb5).alloc (thenB HB4.out hb5).size (.cells #[.string x.p, .bool x.d, .slice x.dA x.bs.length x.dc] 30 (0, 0)))
        have HU3 := hid (under_walk tA tc t p (w5.alloc (.cells #[.string x.p, .bool x.d, .slice x.dA x.bs.length x.dc] 30 (0, 0))) (HT.out.below HB5.out))
        clear hfx hb5 f1
        go_wp2_with fail
        refine HU3.out.mono ?_
        rintro e w6 ⟨⟨C3, u3, l3, rfl, _, hm3⟩, hb6⟩
        have HB6 := hid (thenB HB5.out hb6)
        have hlen : l3.length + r.length = t.length := by
          have e1 := congrArg List.length hm3
          rw [List.length_map] at e1
          rw [e1]
          exact HPL.out
        have hmt := HT.out.max
        clear hm3 hb6 HU3
        go_wp2_with fail
        refine (HA.out _).mono ?_
        rintro e w7 ⟨rfl, hb7⟩
        have HB7 := thenB (thenB HB0.out HB6.out) hb7
        go_wp2_with fail
        go_ret
        exact ⟨rfl, HB7⟩
      · have g0 : (f3 == 0) = false := by simp [hf]
        clear hf
        go_wp2_with fail
        refine (HA.out _).mono ?_
        rintro e w5 ⟨rfl, hb5⟩
        have HB5 := thenB (thenB HB0.out HB4.out) hb5
        go_wp2_with fail
        go_ret
        exact ⟨rfl, HB5⟩

theorem open_bytes {H : Type} {enc : TypeId × Value → H} {W : World} {base : Nat} {held : Bool} {fuel : Nat} {a : Option Addr} {len cap : Nat} {x : DataW H × List MemPlace}
    (h : DataW.trod enc Tryd.prog W base (fun _ => true) held fuel 28 [.slice a len cap] = some x) : ∃ l : List Int, l.length = len ∧ SlB W a cap l := by
  obtain ⟨A, c, bs, e, hs, hr⟩ := open_u8s h
  simp only [List.cons.injEq, Value.slice.injEq, and_true] at e
  obtain ⟨rfl, rfl, rfl⟩ := e
  exact ⟨bs, rfl, hs, hr⟩

end Go.Proofs.YtfoedcmcdpekoaaDoor
