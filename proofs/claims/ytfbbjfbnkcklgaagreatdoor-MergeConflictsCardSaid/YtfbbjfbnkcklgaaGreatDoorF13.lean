/- MergeConflicts: the plain law, the walk (printed by gen/genF13.py) -/
import Derived.Test.YtfbbjfbnkcklgaaGreatDoorF12
namespace Go.Proofs.YtfbbjfbnkcklgaaGreatDoor
open Go.RowKit

theorem out_code (o a b : List AIt) : (mOut o a b).code = 0 ∨ (mOut o a b).code = 1 ∨ (mOut o a b).code = 2 := by
  unfold mOut
  cases h1 : right3 o a b
  · simp
  · cases h2 : bigB o a b
    · simp
    · simp
theorem rest_same {o a b : List AIt} (h : Right3 o a b) : restA (mA o a b) (mgS o a b) = restA (mB o a b) (mgS o a b) := by
  unfold restA
  refine sorted_ext ((mgT_sorted o a b _).filter _) ((mgT_sorted o a b _).filter _) fun z => ?_
  rw [List.mem_filter, List.mem_filter]
  have key : (!(mgS o a b).any fun q => withinA q z.p) = true → (z ∈ mA o a b ↔ z ∈ mB o a b) := fun hc => by
    have hc2 : ∀ c ∈ mgCs o a b, withinA c z.p = false := fun c h1 => by
      rw [Bool.not_eq_true', List.any_eq_false] at hc
      have := hc c (mem_mgS.2 h1)
      simpa using this
    have h1 := (spec_out h hc2).1
    constructor
    · intro hz
      have h2 := (find_iff (mgT_sorted o a b (selA o a b))).2 ⟨hz, rfl⟩
      rw [h1] at h2
      exact ((find_iff (mgT_sorted o a b _)).1 h2).1
    · intro hz
      have h2 := (find_iff (mgT_sorted o a b (selB o a b))).2 ⟨hz, rfl⟩
      rw [← h1] at h2
      exact ((find_iff (mgT_sorted o a b _)).1 h2).1
  exact ⟨fun hh => ⟨(key hh.2).1 hh.1, hh.2⟩, fun hh => ⟨(key hh.2).2 hh.1, hh.2⟩⟩
theorem val_dir {T : List AIt} {t : Txt} : (valA T t).d = foundDir T t := by
  unfold valA foundDir
  cases findA T t <;> rfl
theorem confs_rise {o a b : List AIt} {LC : List ByteArray} (h : LC.map (fun z : ByteArray => z.toList) = mgS o a b) {i k : Nat} (hk : k < i) (hi : i < LC.length) : Op.bytesLess (LC[k]'(by omega)).toList LC[i].toList = true := by
  have h1 := mgS_sorted (o := o) (a := a) (b := b)
  rw [← h] at h1
  unfold sortedN at h1
  rw [List.pairwise_map, List.pairwise_iff_getElem] at h1
  exact h1 k i (by omega) hi hk
theorem confs_apart {o a b : List AIt} (hR : Right3 o a b) {LC : List ByteArray} (h : LC.map (fun z : ByteArray => z.toList) = mgS o a b) {i k : Nat} (hk : k < i) (hi : i < LC.length) : withinA (LC[k]'(by omega)).toList LC[i].toList = false := by
  have hm : ∀ (j : Nat) (hj : j < LC.length), LC[j].toList ∈ mgCs o a b := fun j hj => mem_mgS.1 (by rw [← h]; exact List.mem_map_of_mem (List.getElem_mem hj))
  refine conf_apart hR (hm k (by omega)) (hm i hi) fun e => ?_
  have h1 := confs_rise h hk hi
  rw [e, less_irrefl] at h1
  cases h1

set_option maxRecDepth 100000 in
set_option maxHeartbeats 8000000 in
theorem mergeconflicts_walk (o a b : TrI) (w : World) (qo : TrQ w o.A o.c o.l) (qa : TrQ w a.A a.c a.l) (qb : TrQ w b.A b.c b.l) :
    Calls Tryz.prog 6 #[.slice o.A o.l.length o.c, .slice a.A a.l.length a.c, .slice b.A b.l.length b.c] w fun e w' => e = .returned (.bool true) ∧ Below w.heap.size w w' := by
  have HA := hid alive22_walk
  have HL := hid (light3 o a b w qo qa qb)
  have hb0 := thenA (Below.refl _ w) (.cells #[.slice o.A o.l.length o.c, .slice a.A a.l.length a.c, .slice b.A b.l.length b.c] 22 (0, 0))
  cases hv : lightB o.l 62 && (lightB a.l 62 && lightB b.l 62)
  · rw [hv] at HL
    clear hv qo qa qb
    go_enter Tryz.func6, Tryz.ntmps6
    go_wp2_with fail
    refine HL.out.mono ?_
    rintro e w1 ⟨rfl, rfl⟩
    go_wp2_with fail
    refine (HA.out _).mono ?_
    rintro e w2 ⟨rfl, hb2⟩
    have hb3 := thenB hb0 hb2
    go_wp2_with fail
    go_ret
    exact ⟨rfl, hb3⟩
  rw [hv] at HL
  rw [Bool.and_eq_true, Bool.and_eq_true] at hv
  have ho := qo.tr hv.1 (by omega)
  have ha := qa.tr hv.2.1 (by omega)
  have hbb := qb.tr hv.2.2 (by omega)
  have n1 := light_len hv.1
  have n2 := light_len hv.2.1
  have n3 := light_len hv.2.2
  have HO := hid ho
  have HAA := hid ha
  have HB := hid hbb
  have HM1 := hid (merge_ri (ho.below hb0) (ha.below hb0) (hbb.below hb0) (by omega) (by omega) (by omega) rfl)
  clear hv qo qa qb ho ha hbb n1 n2 n3
  obtain ⟨n, hn⟩ : ∃ n, (mOut (o.l.map Itm.abs) (a.l.map Itm.abs) (b.l.map Itm.abs)).code = n := ⟨_, rfl⟩
  rw [hn] at HM1
  go_enter Tryz.func6, Tryz.ntmps6
  go_wp2_with fail
  refine HL.out.mono ?_
  rintro e w0 ⟨rfl, rfl⟩
  go_wp2_with fail
  refine HM1.out.mono ?_
  rintro e w1 ⟨⟨x1, rfl, hx1, e1⟩, hb1⟩
  have hbx := thenA (Below.refl _ w1) (.cells #[.slice x1.a.A x1.a.l.length x1.a.c, .slice x1.b.A x1.b.l.length x1.b.c, .slice x1.o.A x1.o.l.length x1.o.c, .slice x1.cA x1.LC.length x1.cc] 28 (0, 0))
  have hb1' := thenB (thenB hb0 hb1) hbx
  have q1 := heap_alloc_new w1 (.cells #[.slice x1.a.A x1.a.l.length x1.a.c, .slice x1.b.A x1.b.l.length x1.b.c, .slice x1.o.A x1.o.l.length x1.o.c, .slice x1.cA x1.LC.length x1.cc] 28 (0, 0))
  have HX0 := hid (hx1.below hbx)
  have HE0 := hid e1
  clear hx1 e1 hb1 hbx hb0 HM1 HL
  by_cases h0 : n = 0
  case neg =>
    have hc := out_code (o.l.map Itm.abs) (a.l.map Itm.abs) (b.l.map Itm.abs)
    rw [hn] at hc
    clear q1 HX0 HE0 hn
    rcases hc.resolve_left h0 with rfl | rfl
    · go_wp2_with fail
      refine (HA.out _).mono ?_
      rintro e w3 ⟨rfl, hb3⟩
      have hb4 := thenB hb1' hb3
      go_wp2_with fail
      go_ret
      exact ⟨rfl, hb4⟩
    · go_wp2_with fail
      refine (HA.out _).mono ?_
      rintro e w3 ⟨rfl, hb3⟩
      have hb4 := thenB hb1' hb3
      go_wp2_with fail
      go_ret
      exact ⟨rfl, hb4⟩
  subst h0
  have HZ := hid hn
  obtain ⟨hr, hbig, hout⟩ := out_zero hn
  have he := HE0.out
  rw [hout] at he
  unfold RI.abs at he
  simp only [Prod.mk.injEq] at he
  obtain ⟨ea, eb, eo, ec⟩ := he
  have HRR := hid hr
  have HR3 := hid (right3_iff.2 hr)
  have HQ1 := hid q1
  have EA := hid ea
  have EB := hid eb
  have EC := hid ec
  have HB1 := hid hb1'
  have HX1 := hid HX0.out
  have HLN : HidP (x1.a.l.length ≤ 1000 ∧ x1.b.l.length ≤ 1000) := hid (by
    have h1 := congrArg List.length ea
    have h2 := congrArg List.length eb
    rw [List.length_map] at h1 h2
    have h3 := (made_len HZ.out).1
    have h4 := (made_len HZ.out).2.1
    rw [hout] at h3 h4
    constructor
    · rw [h1]; exact Nat.le_trans h3 (by omega)
    · rw [h2]; exact Nat.le_trans h4 (by omega))
  have hnl := HX1.out.n
  have hm1 := heap_alloc_new w1 (.cells #[.slice x1.a.A x1.a.l.length x1.a.c, .slice x1.b.A x1.b.l.length x1.b.c, .slice x1.o.A x1.o.l.length x1.o.c, .slice x1.cA x1.LC.length x1.cc] 28 (0, 0))
  have p3 := (cells4 q1).2.2.2
  clear hn hr hbig hout ea eb eo ec q1 HX0 HE0 hm1
  go_wp2_with fail
  generalize (w1.alloc (.cells #[.slice x1.a.A x1.a.l.length x1.a.c, .slice x1.b.A x1.b.l.length x1.b.c, .slice x1.o.A x1.o.l.length x1.o.c, .slice x1.cA x1.LC.length x1.cc] 28 (0, 0))) = w2 at *
  obtain ⟨cA, hcA⟩ : ∃ cA, x1.cA = cA := ⟨_, rfl⟩
  have HROW0 : HidP (Row w2 9 1 (.slice cA x1.LC.length x1.cc) (x1.LC.map .string)) := hid (by rw [← hcA]; exact HX1.out.c)
  have hw2 : w1.heap.size < w2.heap.size := World.block_lt_of_cell? _ _ p3
  simp only [hcA] at p3 ⊢
  have HCA := hid hcA
  clear hcA
  go_loopg [9] x1.LC.length (fun k i wr => ∃ j : Nat, j ≤ x1.LC.length ∧ k = x1.LC.length - j ∧ i = .int .i64 j ∧ Below w2.heap.size w2 wr)
  case atStart => exact ⟨0, Nat.zero_le _, rfl, rfl, Below.refl _ _⟩
  case round =>
    obtain ⟨j, hj, rfl, rfl, hbr⟩ := hrel
    generalize wr = wo at *
    replace p3 := cellB hbr p3
    by_cases hlt : j < x1.LC.length
    · have i0 : (0 : Int) ≤ (j : Int) := by omega
      have i1 : (j : Int) < (x1.LC.length : Int) := by omega
      have hbw := thenB hb1' hbr
      obtain ⟨b1, o1, hC, k1⟩ := (HROW0.out.below hbr).str hlt
      subst hC
      have hmem : x1.LC[j].toList ∈ mgS (o.l.map Itm.abs) (a.l.map Itm.abs) (b.l.map Itm.abs) := by rw [← EC.out]; exact List.mem_map_of_mem (List.getElem_mem hlt)
      have hpb := conf_path HRR.out hmem
      have HSD := hid (fun W (hW : Below wo.heap.size wo W) => sides3_walk o a b x1.LC[j] W (HO.out.below (thenB hbw hW)) (HAA.out.below (thenB hbw hW)) (HB.out.below (thenB hbw hW)) HR3.out hpb (conf_is HRR.out hmem))
      have HV1 := hid (fun W (hW : Below wo.heap.size wo W) => value_walk a.A a.c a.l x1.LC[j] W (HAA.out.below (thenB hbw hW)))
      have HV2 := hid (fun W (hW : Below wo.heap.size wo W) => value_walk b.A b.c b.l x1.LC[j] W (HB.out.below (thenB hbw hW)))
      have HBD := hid (conf_parts (conf_is HRR.out hmem)).2.2
      have HWI : HidP (∀ (m : Nat) (hm : m < j) W, Calls Tryz.prog 22 #[.string (x1.LC[m]'(by omega)), .string x1.LC[j]] W fun e w' => e = .returned (.bool false) ∧ W = w') := hid (fun m hm W => by
        have hmem2 : (x1.LC[m]'(by omega)).toList ∈ mgS (o.l.map Itm.abs) (a.l.map Itm.abs) (b.l.map Itm.abs) := by rw [← EC.out]; exact List.mem_map_of_mem (List.getElem_mem _)
        have h1 := refwithin (x1.LC[m]'(by omega)) x1.LC[j] W (str_small (conf_path HRR.out hmem2))
        rwa [confs_apart HRR.out EC.out hm hlt] at h1)
      have HROW := hid (HROW0.out.below hbr)
      have inner : ∀ W, Below wo.heap.size wo W → True := fun _ _ => trivial
      have HNEXT : HidP (∀ W, Below wo.heap.size wo W → Below w2.heap.size w2 W) := hid (fun W hW => thenB hbr hW)
      clear hmem hpb hbw inner
      have hprev : j = 0 ∨ ∃ m, j = m + 1 := by cases j with | zero => exact .inl rfl | succ m => exact .inr ⟨m, rfl⟩
      go_wp2_with fail
      refine (HSD.out _ (Below.refl _ _)).mono ?_
      rintro e w3 ⟨rfl, hS⟩
      have p3' := p3
      replace p3 := cellB hS p3
      rcases hprev with hj0 | ⟨m', hjm⟩
      · replace hj0 := hid hj0
        have g0 : ¬ ((0 : Int) < (j : Int)) := by have := hj0.out; omega
        have g1 := decide_eq_false g0
        go_wp2_with fail
        go_loopg [11] j (fun k i wr => ∃ m : Nat, m ≤ j ∧ k = j - m ∧ i = .int .i64 m ∧ Below wo.heap.size wo wr)
        case atStart => exact ⟨0, Nat.zero_le _, rfl, rfl, hS⟩
        case round =>
          obtain ⟨m, hm, rfl, rfl, hbm⟩ := hrel
          replace p3 := cellB hbm p3'
          by_cases hlm : m < j
          · exfalso
            have := hj0.out
            omega
          · obtain rfl : m = j := by omega
            have hv1 := HV1.out _ hbm
            go_wp2_with fail
            refine hv1.mono ?_
            rintro e wa ⟨⟨xa, rfl, ga, eva⟩, hba⟩
            have hbma := thenB hbm hba
            have hv2 := HV2.out _ hbma
            have EVA := hid eva
            clear hv1 ga eva
            go_wp2_with fail
            refine hv2.mono ?_
            rintro e wb ⟨⟨xb, rfl, gb, evb⟩, hbb⟩
            have hbmb := thenB hbma hbb
            have EVB := hid evb
            have HD : HidP (xa.d = true → xb.d = false) := hid (fun h => by
              have h1 := HBD.out
              unfold bothD at h1
              have h2 : xa.abs.d = foundDir (a.l.map Itm.abs) x1.LC[m].toList := by rw [EVA.out]; exact val_dir
              have h3 : xb.abs.d = foundDir (b.l.map Itm.abs) x1.LC[m].toList := by rw [EVB.out]; exact val_dir
              have h4 : xa.abs.d = true := h
              rw [← h2, ← h3, h4, Bool.true_and] at h1
              exact h1)
            clear hv2 gb evb
            cases hd : xa.d
            · go_wp2_with fail
              go_roundg (x1.LC.length - (m + 1))
              case measure => omega
              case rel => exact ⟨m + 1, by omega, rfl, by go_num, HNEXT.out _ (thenA (thenA hbmb _) _)⟩
            · have hd2 := HD.out hd
              go_wp2_with fail
              go_roundg (x1.LC.length - (m + 1))
              case measure => omega
              case rel => exact ⟨m + 1, by omega, rfl, by go_num, HNEXT.out _ (thenA (thenA hbmb _) _)⟩
      · have g0 : (0 : Int) < (j : Int) := by omega
        have g1 := decide_eq_true g0
        have c1 : (j : Int) - 1 = (m' : Int) := by omega
        have c2 : (0 : Int) ≤ (m' : Int) := by omega
        have c3 : (m' : Int) < (x1.LC.length : Int) := by omega
        have hml : m' < x1.LC.length := by omega
        obtain ⟨b2, o2, hC2, k2⟩ := (HROW.out.below hS).str (i := m') hml
        cases hC2
        have HLS : HidP (∀ W, Calls Tryz.prog 21 #[.string x1.LC[m'], .string x1.LC[j]] W fun e w' => e = .returned (.bool true) ∧ ∃ q, w' = W.drewN q) := hid (fun W => by
          have hmem2 : x1.LC[m'].toList ∈ mgS (o.l.map Itm.abs) (a.l.map Itm.abs) (b.l.map Itm.abs) := by rw [← EC.out]; exact List.mem_map_of_mem (List.getElem_mem hml)
          have h1 := refless x1.LC[m'] x1.LC[j] W (str_small (conf_path HRR.out hmem2))
          rwa [confs_rise EC.out (by omega) hlt] at h1)
        clear hjm
        go_wp2_with fail
        refine (HLS.out _).mono ?_
        rintro e w4 ⟨rfl, q, rfl⟩
        replace hS := Below.drewN (n := q) hS
        replace p3 := cellB hS p3'
        clear HLS k2
        generalize w3.drewN q = w3 at *
        go_wp2_with fail
        go_loopg [11] j (fun k i wr => ∃ m : Nat, m ≤ j ∧ k = j - m ∧ i = .int .i64 m ∧ Below wo.heap.size wo wr)
        case atStart => exact ⟨0, Nat.zero_le _, rfl, rfl, hS⟩
        case round =>
          obtain ⟨m, hm, rfl, rfl, hbm⟩ := hrel
          replace p3 := cellB hbm p3'
          by_cases hlm : m < j
          · have m0 : (0 : Int) ≤ (m : Int) := by omega
            have m1 : (m : Int) < (j : Int) := by omega
            have m2 : (m : Int) < (x1.LC.length : Int) := by omega
            obtain ⟨b2, o2, hC2, k2⟩ := (HROW.out.below hbm).str (i := m) (by omega)
            cases hC2
            have HW := hid (HWI.out m hlm)
            go_wp2_with fail
            refine (HW.out _).mono ?_
            rintro e w4 ⟨rfl, rfl⟩
            go_wp2_with fail
            go_roundg (j - (m + 1))
            case measure => omega
            case rel => exact ⟨m + 1, by omega, rfl, by go_num, hbm⟩
          · obtain rfl : m = j := by omega
            have hv1 := HV1.out _ hbm
            go_wp2_with fail
            refine hv1.mono ?_
            rintro e wa ⟨⟨xa, rfl, ga, eva⟩, hba⟩
            have hbma := thenB hbm hba
            have hv2 := HV2.out _ hbma
            have EVA := hid eva
            clear hv1 ga eva
            go_wp2_with fail
            refine hv2.mono ?_
            rintro e wb ⟨⟨xb, rfl, gb, evb⟩, hbb⟩
            have hbmb := thenB hbma hbb
            have EVB := hid evb
            have HD : HidP (xa.d = true → xb.d = false) := hid (fun h => by
              have h1 := HBD.out
              unfold bothD at h1
              have h2 : xa.abs.d = foundDir (a.l.map Itm.abs) x1.LC[m].toList := by rw [EVA.out]; exact val_dir
              have h3 : xb.abs.d = foundDir (b.l.map Itm.abs) x1.LC[m].toList := by rw [EVB.out]; exact val_dir
              have h4 : xa.abs.d = true := h
              rw [← h2, ← h3, h4, Bool.true_and] at h1
              exact h1)
            clear hv2 gb evb
            cases hd : xa.d
            · go_wp2_with fail
              go_roundg (x1.LC.length - (m + 1))
              case measure => omega
              case rel => exact ⟨m + 1, by omega, rfl, by go_num, HNEXT.out _ (thenA (thenA hbmb _) _)⟩
            · have hd2 := HD.out hd
              go_wp2_with fail
              go_roundg (x1.LC.length - (m + 1))
              case measure => omega
              case rel => exact ⟨m + 1, by omega, rfl, by go_num, HNEXT.out _ (thenA (thenA hbmb _) _)⟩
    · obtain rfl : j = x1.LC.length := by omega
      have HBR := hid hbr
      obtain ⟨p0, p1, _, _⟩ := cells4 ((hbr.block _ (blkLt HQ1.out)).trans HQ1.out)
      generalize wo = w5 at *
      have HBW5 := hid hbr
      obtain ⟨RR, hRR⟩ : ∃ RR, restA (mA (o.l.map Itm.abs) (a.l.map Itm.abs) (b.l.map Itm.abs)) (mgS (o.l.map Itm.abs) (a.l.map Itm.abs) (b.l.map Itm.abs)) = RR := ⟨_, rfl⟩
      have HR1 : HidP (restA (x1.a.l.map Itm.abs) (x1.LC.map fun z : ByteArray => z.toList) = RR) := hid (by rw [EA.out, EC.out, hRR])
      have HR2 : HidP (restA (x1.b.l.map Itm.abs) (x1.LC.map fun z : ByteArray => z.toList) = RR) := hid (by rw [EB.out, EC.out, ← rest_same HRR.out, hRR])
      have HST : HidP (∀ W w', (Below w5.heap.size w5 W ∧ W.cell? ⟨w1.heap.size, 0, none⟩ = some (.slice x1.a.A x1.a.l.length x1.a.c) ∧ W.cell? ⟨w1.heap.size, 1, none⟩ = some (.slice x1.b.A x1.b.l.length x1.b.c) ∧ W.cell? ⟨w1.heap.size, 3, none⟩ = some (.slice cA x1.LC.length x1.cc)) → Below W.heap.size W w' → (Below w5.heap.size w5 w' ∧ w'.cell? ⟨w1.heap.size, 0, none⟩ = some (.slice x1.a.A x1.a.l.length x1.a.c) ∧ w'.cell? ⟨w1.heap.size, 1, none⟩ = some (.slice x1.b.A x1.b.l.length x1.b.c) ∧ w'.cell? ⟨w1.heap.size, 3, none⟩ = some (.slice cA x1.LC.length x1.cc))) := hid (fun W w' hW hb => ⟨thenB hW.1 hb, cellB hb hW.2.1, cellB hb hW.2.2.1, cellB hb hW.2.2.2⟩)
      have hs0 : Below w5.heap.size w5 w5.drew ∧ w5.drew.cell? ⟨w1.heap.size, 0, none⟩ = some (.slice x1.a.A x1.a.l.length x1.a.c) ∧ w5.drew.cell? ⟨w1.heap.size, 1, none⟩ = some (.slice x1.b.A x1.b.l.length x1.b.c) ∧ w5.drew.cell? ⟨w1.heap.size, 3, none⟩ = some (.slice cA x1.LC.length x1.cc) := ⟨⟨rfl, rfl, rfl, Nat.le_refl _, fun _ _ => rfl⟩, p0, p1, p3⟩
      have HW1 : HidP (∀ W, (Below w5.heap.size w5 W ∧ W.cell? ⟨w1.heap.size, 0, none⟩ = some (.slice x1.a.A x1.a.l.length x1.a.c) ∧ W.cell? ⟨w1.heap.size, 1, none⟩ = some (.slice x1.b.A x1.b.l.length x1.b.c) ∧ W.cell? ⟨w1.heap.size, 3, none⟩ = some (.slice cA x1.LC.length x1.cc)) → Calls Tryz.prog 23 #[.slice x1.a.A x1.a.l.length x1.a.c, .slice cA x1.LC.length x1.cc] W fun e w' => (∃ (B : Option Addr) (d : Nat) (l' : List Itm), e = .returned (.slice B l'.length d) ∧ Tr w' B d l' ∧ l'.map Itm.abs = RR) ∧ Below W.heap.size W w' ∧ (Below w5.heap.size w5 w' ∧ w'.cell? ⟨w1.heap.size, 0, none⟩ = some (.slice x1.a.A x1.a.l.length x1.a.c) ∧ w'.cell? ⟨w1.heap.size, 1, none⟩ = some (.slice x1.b.A x1.b.l.length x1.b.c) ∧ w'.cell? ⟨w1.heap.size, 3, none⟩ = some (.slice cA x1.LC.length x1.cc))) := hid (fun W hW => by
        have hb' := thenB HBW5.out hW.1
        refine (without_walk x1.a.A x1.a.c x1.a.l cA x1.cc x1.LC W (HX1.out.a.below hb') HLN.out.1 (HROW0.out.below hb') HX1.out.n).mono ?_
        rintro e w' ⟨⟨B, d, l', rfl, h1, h2⟩, h3⟩
        exact ⟨⟨B, d, l', rfl, h1, h2.trans (by rw [HR1.out])⟩, h3, HST.out _ _ hW h3⟩)
      have HW2 : HidP (∀ W, (Below w5.heap.size w5 W ∧ W.cell? ⟨w1.heap.size, 0, none⟩ = some (.slice x1.a.A x1.a.l.length x1.a.c) ∧ W.cell? ⟨w1.heap.size, 1, none⟩ = some (.slice x1.b.A x1.b.l.length x1.b.c) ∧ W.cell? ⟨w1.heap.size, 3, none⟩ = some (.slice cA x1.LC.length x1.cc)) → Calls Tryz.prog 23 #[.slice x1.b.A x1.b.l.length x1.b.c, .slice cA x1.LC.length x1.cc] W fun e w' => (∃ (B : Option Addr) (d : Nat) (l' : List Itm), e = .returned (.slice B l'.length d) ∧ Tr w' B d l' ∧ l'.map Itm.abs = RR) ∧ Below W.heap.size W w' ∧ (Below w5.heap.size w5 w' ∧ w'.cell? ⟨w1.heap.size, 0, none⟩ = some (.slice x1.a.A x1.a.l.length x1.a.c) ∧ w'.cell? ⟨w1.heap.size, 1, none⟩ = some (.slice x1.b.A x1.b.l.length x1.b.c) ∧ w'.cell? ⟨w1.heap.size, 3, none⟩ = some (.slice cA x1.LC.length x1.cc))) := hid (fun W hW => by
        have hb' := thenB HBW5.out hW.1
        refine (without_walk x1.b.A x1.b.c x1.b.l cA x1.cc x1.LC W (HX1.out.b.below hb') HLN.out.2 (HROW0.out.below hb') HX1.out.n).mono ?_
        rintro e w' ⟨⟨B, d, l', rfl, h1, h2⟩, h3⟩
        exact ⟨⟨B, d, l', rfl, h1, h2.trans (by rw [HR2.out])⟩, h3, HST.out _ _ hW h3⟩)
      have HSM : HidP (∀ (W : World) (C1 : Option Addr) (d1 : Nat) (m1 : List Itm) (C2 : Option Addr) (d2 : Nat) (m2 : List Itm), Tr W C1 d1 m1 → m1.map Itm.abs = RR → Tr W C2 d2 m2 → m2.map Itm.abs = RR → (Below w5.heap.size w5 W ∧ W.cell? ⟨w1.heap.size, 0, none⟩ = some (.slice x1.a.A x1.a.l.length x1.a.c) ∧ W.cell? ⟨w1.heap.size, 1, none⟩ = some (.slice x1.b.A x1.b.l.length x1.b.c) ∧ W.cell? ⟨w1.heap.size, 3, none⟩ = some (.slice cA x1.LC.length x1.cc)) → Calls Tryz.prog 19 #[.slice C1 m1.length d1, .slice C2 m2.length d2] W fun e w' => e = .returned (.bool true) ∧ (Below w5.heap.size w5 w' ∧ w'.cell? ⟨w1.heap.size, 0, none⟩ = some (.slice x1.a.A x1.a.l.length x1.a.c) ∧ w'.cell? ⟨w1.heap.size, 1, none⟩ = some (.slice x1.b.A x1.b.l.length x1.b.c) ∧ w'.cell? ⟨w1.heap.size, 3, none⟩ = some (.slice cA x1.LC.length x1.cc))) := hid (fun W C1 d1 m1 C2 d2 m2 h1 e1 h2 e2 hW => (refsame C1 C2 d1 d2 m1 m2 W h1 h2).mono (by
        rintro e w' ⟨rfl, h3⟩
        exact ⟨by rw [show sameL m1 m2 = true from decide_eq_true (e1.trans e2.symm)], HST.out _ _ hW h3⟩))
      have HAL : HidP (∀ W, (Below w5.heap.size w5 W ∧ W.cell? ⟨w1.heap.size, 0, none⟩ = some (.slice x1.a.A x1.a.l.length x1.a.c) ∧ W.cell? ⟨w1.heap.size, 1, none⟩ = some (.slice x1.b.A x1.b.l.length x1.b.c) ∧ W.cell? ⟨w1.heap.size, 3, none⟩ = some (.slice cA x1.LC.length x1.cc)) → Calls Tryz.prog 10 #[] W fun e w' => e = .returned (.bool true) ∧ (Below w5.heap.size w5 w' ∧ w'.cell? ⟨w1.heap.size, 0, none⟩ = some (.slice x1.a.A x1.a.l.length x1.a.c) ∧ w'.cell? ⟨w1.heap.size, 1, none⟩ = some (.slice x1.b.A x1.b.l.length x1.b.c) ∧ w'.cell? ⟨w1.heap.size, 3, none⟩ = some (.slice cA x1.LC.length x1.cc))) := hid (fun W hW => (HA.out W).mono (by
        rintro e w' ⟨rfl, h3⟩
        exact ⟨rfl, HST.out _ _ hW h3⟩))
      clear hRR p0 p1 hbr
      go_wp2_with fail
      go_region_held3 (fun W => Below w5.heap.size w5 W ∧ W.cell? ⟨w1.heap.size, 0, none⟩ = some (.slice x1.a.A x1.a.l.length x1.a.c) ∧ W.cell? ⟨w1.heap.size, 1, none⟩ = some (.slice x1.b.A x1.b.l.length x1.b.c) ∧ W.cell? ⟨w1.heap.size, 3, none⟩ = some (.slice cA x1.LC.length x1.cc)) (assumption) (first | (refine step_callG 23 _ _ (by rfl) (by rfl) Tryz.func23 (by kernel_rfl) (by kernel_rfl) [.slice x1.a.A x1.a.l.length x1.a.c, .slice cA x1.LC.length x1.cc] (by rfl) (HW1.out _ (by assumption)) ?_; rintro e wk1 ⟨⟨B1, d1, l1, rfl, ht1, he1⟩, hk1, hK1⟩; have HT1 := hid ht1; have HE1 := hid he1; clear ht1 he1; refine ⟨_, rfl, ?_⟩) | (refine step_callG 23 _ _ (by rfl) (by rfl) Tryz.func23 (by kernel_rfl) (by kernel_rfl) [.slice x1.b.A x1.b.l.length x1.b.c, .slice cA x1.LC.length x1.cc] (by rfl) (HW2.out _ (by assumption)) ?_; rintro e wk2 ⟨⟨B2, d2, l2, rfl, ht2, he2⟩, hk2, hK2⟩; replace HT1 := hid (HT1.out.below hk2); have HT2 := hid ht2; have HE2 := hid he2; clear ht2 he2; refine ⟨_, rfl, ?_⟩) | (refine step_callG 19 _ _ (by rfl) (by rfl) Tryz.func19 (by kernel_rfl) (by kernel_rfl) [.slice B1 l1.length d1, .slice B2 l2.length d2] (by rfl) (HSM.out _ _ _ _ _ _ _ HT1.out HE1.out HT2.out HE2.out (by assumption)) ?_; rintro e wk3 ⟨rfl, hK3⟩; refine ⟨_, rfl, ?_⟩) | (refine step_callG 10 _ _ (by rfl) (by rfl) Tryz.func10 (by kernel_rfl) (by kernel_rfl) [] (by rfl) (HAL.out _ (by assumption)) ?_; rintro e wk4 ⟨rfl, hK4⟩; refine ⟨_, rfl, ?_⟩))
      have hfin := thenB hb1' (thenB HBW5.out hK4.1)
      clear hK1 hK2 hK3 hK4 HW1 HW2 HSM HAL HST
      go_wp2_with fail
      go_ret
      exact ⟨rfl, hfin⟩
theorem mergeconflicts_card (A0 : Option Addr) (c0 : Nat) (l0 : List Itm) (A1 : Option Addr) (c1 : Nat) (l1 : List Itm) (A2 : Option Addr) (c2 : Nat) (l2 : List Itm) (w : World) (q0 : TrQ w A0 c0 l0) (q1 : TrQ w A1 c1 l1) (q2 : TrQ w A2 c2 l2) :
    Calls Tryz.prog 6 #[.slice A0 l0.length c0, .slice A1 l1.length c1, .slice A2 l2.length c2] w fun e w' => e = .returned (.bool true) ∧ Below w.heap.size w w' := mergeconflicts_walk ⟨A0, c0, l0⟩ ⟨A1, c1, l1⟩ ⟨A2, c2, l2⟩ w q0 q1 q2

end Go.Proofs.YtfbbjfbnkcklgaaGreatDoor
