/- The statement PolicyAgrees: conflicts of what Merge answers, settled in any one way, leave the trees as they should be; no further condition (the walk was printed by gen/genJ17.py). -/
import Derived.Test.YtfbbjfbnkcklgaaGreatDoorJ10
import Derived.Deep.CutRange
import Derived.Test.YtfbbjfbnkcklgaaGreatDoorTie
import Derived.Test.YtfbbjfbnkcklgaaGreatDoorCards
import Derived.WalkKit
import Derived.ProofKit
import Derived.OpenShut
import Derived.ShutString
import Derived.ChangeOld
import Derived.Below
import Derived.SizedLaws
import Derived.LaidMore
import Derived.Lay
import Derived.SevenTiedAt
import Derived.Stop.Joined
namespace Go.Proofs.YtfbbjfbnkcklgaaGreatDoor
open Go.RowKit

/-- the other paths of the conflicts so far -/
def othersL (C : List Txt) : List Txt := (C.map nameA).filter fun q => !q.isEmpty
theorem others_next {C : List Txt} {j : Nat} (hj : j < C.length) : othersL (C.take (j + 1)) = othersL (C.take j) ++ if nameA C[j] = [] then [] else [nameA C[j]] := by
  unfold othersL
  rw [List.take_add_one, List.getElem?_eq_getElem hj, List.map_append, List.filter_append]
  congr 1
  by_cases h : nameA C[j] = []
  · simp [h]
  · simp [h]
theorem code_three (o a b : List AIt) : (mOut o a b).code = 0 ∨ (mOut o a b).code = 1 ∨ (mOut o a b).code = 2 := by
  unfold mOut
  cases h1 : right3 o a b
  · simp
  · cases h2 : bigB o a b
    · simp
    · simp
set_option maxRecDepth 100000 in
set_option maxHeartbeats 8000000 in
theorem policyagrees_walk (o a b : TrI) (how : Int) (w : World) (qo : TrQ w o.A o.c o.l) (qa : TrQ w a.A a.c a.l) (qb : TrQ w b.A b.c b.l) :
    Calls Tryz.prog 7 #[.slice o.A o.l.length o.c, .slice a.A a.l.length a.c, .slice b.A b.l.length b.c, .int .i64 how] w fun e w' => e = .returned (.bool true) ∧ Below w.heap.size w w' := by
  have HA := hid alive23_walk
  have HL := hid (light3 o a b w qo qa qb)
  have hb0 := thenA (Below.refl _ w) (.cells #[.slice o.A o.l.length o.c, .slice a.A a.l.length a.c, .slice b.A b.l.length b.c] 22 (0, 0))
  cases hv : lightB o.l 62 && (lightB a.l 62 && lightB b.l 62)
  · rw [hv] at HL
    clear hv qo qa qb
    go_enter Tryz.func7, Tryz.ntmps7
    go_wp2_with fail
    refine HL.out.mono ?_
    rintro e w1 ⟨rfl, rfl⟩
    go_wp2_with fail
    refine (HA.out _).mono ?_
    rintro e w2 ⟨rfl, hb2⟩
    have hb3 := thenB hb0 hb2
    go_wp2_with fail
    go_ret
    exact ⟨rfl, hb3⟩
  rw [hv] at HL
  rw [Bool.and_eq_true, Bool.and_eq_true] at hv
  have ho := qo.tr hv.1 (by omega)
  have ha := qa.tr hv.2.1 (by omega)
  have hbb := qb.tr hv.2.2 (by omega)
  have n1 := light_len hv.1
  have n2 := light_len hv.2.1
  have n3 := light_len hv.2.2
  have HM1 := hid (merge_ri (ho.below hb0) (ha.below hb0) (hbb.below hb0) (by omega) (by omega) (by omega) rfl)
  clear hv qo qa qb ho ha hbb n1 n2 n3
  obtain ⟨n, hn⟩ : ∃ n, (mOut (o.l.map Itm.abs) (a.l.map Itm.abs) (b.l.map Itm.abs)).code = n := ⟨_, rfl⟩
  rw [hn] at HM1
  go_enter Tryz.func7, Tryz.ntmps7
  go_wp2_with fail
  refine HL.out.mono ?_
  rintro e w0 ⟨rfl, rfl⟩
  go_wp2_with fail
  refine HM1.out.mono ?_
  rintro e w1 ⟨⟨x, rfl, hx, e1⟩, hb1⟩
  have hbx := thenA (Below.refl _ w1) (.cells #[.slice x.a.A x.a.l.length x.a.c, .slice x.b.A x.b.l.length x.b.c, .slice x.o.A x.o.l.length x.o.c, .slice x.cA x.LC.length x.cc] 28 (0, 0))
  have hb1' := thenB (thenB hb0 hb1) hbx
  have q1 := heap_alloc_new w1 (.cells #[.slice x.a.A x.a.l.length x.a.c, .slice x.b.A x.b.l.length x.b.c, .slice x.o.A x.o.l.length x.o.c, .slice x.cA x.LC.length x.cc] 28 (0, 0))
  have HX1 := hid (hx.below hbx)
  have HE1 := hid e1
  clear hx e1 hb1 hbx hb0 HM1 HL
  by_cases h0 : n = 0
  case neg =>
    have hc : n = 1 ∨ n = 2 := by
      have hc := code_three (o.l.map Itm.abs) (a.l.map Itm.abs) (b.l.map Itm.abs)
      rw [hn] at hc
      exact hc.resolve_left h0
    clear q1 HX1 HE1 hn
    rcases hc with rfl | rfl
    · go_wp2_with fail
      refine (HA.out _).mono ?_
      rintro e w3 ⟨rfl, hb3⟩
      have hb4 := thenB hb1' hb3
      go_wp2_with fail
      go_ret
      exact ⟨rfl, hb4⟩
    · go_wp2_with fail
      refine (HA.out _).mono ?_
      rintro e w3 ⟨rfl, hb3⟩
      have hb4 := thenB hb1' hb3
      go_wp2_with fail
      go_ret
      exact ⟨rfl, hb4⟩
  subst h0
  obtain ⟨hr, hbig, hout⟩ := out_zero hn
  have he := HE1.out
  rw [hout] at he
  obtain ⟨p0, p1, p2, p3⟩ := cells4 q1
  have HRR := hid hr
  have HBG := hid hbig
  have HXE := hid he
  clear hn hr hbig hout he HE1
  cases hh : howB how
  · have hsb := settle_bad x how
    have HSB := hid (fun W => hsb W hh)
    have hw : how < 0 ∨ 5 ≤ how := by
      unfold howB at hh
      rw [Bool.and_eq_false_iff] at hh
      rcases hh with hh | hh
      · have := of_decide_eq_false hh; omega
      · have := of_decide_eq_false hh; omega
    clear hsb hh
    go_wp2_with fail
    generalize w1.alloc (.cells #[.slice x.a.A x.a.l.length x.a.c, .slice x.b.A x.b.l.length x.b.c, .slice x.o.A x.o.l.length x.o.c, .slice x.cA x.LC.length x.cc] 28 (0, 0)) = u1 at *
    refine (HSB.out _).mono ?_
    rintro e w2 ⟨rfl, hb2⟩
    have hb3 := thenB hb1' (thenA hb2 (.cells #[.slice none 0 0, .slice none 0 0, .slice none 0 0, .slice none 0 0] 28 (0, 0)))
    rcases hw with hw | hw
    · have g1 := decide_eq_true hw
      go_wp2_with fail
      refine (HA.out _).mono ?_
      rintro e w3 ⟨rfl, hb4⟩
      have hb5 := thenB hb3 hb4
      go_wp2_with fail
      go_ret
      exact ⟨rfl, hb5⟩
    · have g0 : ¬ how < 0 := by omega
      have g1 := decide_eq_false g0
      have g2 : (4 : Int) < how := by omega
      have g3 := decide_eq_true g2
      go_wp2_with fail
      refine (HA.out _).mono ?_
      rintro e w3 ⟨rfl, hb4⟩
      have hb5 := thenB hb3 hb4
      go_wp2_with fail
      go_ret
      exact ⟨rfl, hb5⟩
  have g0 : ¬ how < 0 := by
    have : 0 ≤ how := by
      unfold howB at hh
      rw [Bool.and_eq_true] at hh
      exact of_decide_eq_true hh.1
    omega
  have g2 : ¬ (4 : Int) < how := by
    have : how < 5 := by
      unfold howB at hh
      rw [Bool.and_eq_true] at hh
      exact of_decide_eq_true hh.2
    omega
  have g1 := decide_eq_false g0
  have g3 := decide_eq_false g2
  have HHH := hid hh
  have HSE := hid (settle_ri HX1.out HRR.out HBG.out HXE.out hh)
  have HB1 := hid hb1'
  clear hh hb1'
  go_wp2_with fail
  generalize w1.alloc (.cells #[.slice x.a.A x.a.l.length x.a.c, .slice x.b.A x.b.l.length x.b.c, .slice x.o.A x.o.l.length x.o.c, .slice x.cA x.LC.length x.cc] 28 (0, 0)) = u1 at *
  refine HSE.out.mono ?_
  rintro e w2 ⟨hor, hb2⟩
  rcases hor with ⟨hbg, rfl⟩ | ⟨hsm, y, rfl, hy, hye⟩
  · obtain ⟨k0, k4⟩ := st_big HRR.out HBG.out HHH.out hbg
    have k0' : (how != 0) = true := by simpa using k0
    have k4' : (how != 4) = true := by simpa using k4
    have hb3 := thenB HB1.out (thenA hb2 (.cells #[.slice none 0 0, .slice none 0 0, .slice none 0 0, .slice none 0 0] 28 (0, 0)))
    clear hbg
    go_wp2_with fail
    refine (HA.out _).mono ?_
    rintro e w3 ⟨rfl, hb4⟩
    have hb5 := thenB hb3 hb4
    go_wp2_with fail
    go_ret
    exact ⟨rfl, hb5⟩
  have HSM0 := hid hsm
  have hbx := thenA (Below.refl _ w2) (.cells #[.slice y.a.A y.a.l.length y.a.c, .slice y.b.A y.b.l.length y.b.c, .slice y.o.A y.o.l.length y.o.c, .slice y.cA y.LC.length y.cc] 28 (0, 0))
  have hb3 := thenB hb2 hbx
  have q2 := heap_alloc_new w2 (.cells #[.slice y.a.A y.a.l.length y.a.c, .slice y.b.A y.b.l.length y.b.c, .slice y.o.A y.o.l.length y.o.c, .slice y.cA y.LC.length y.cc] 28 (0, 0))
  have q1' := (hb3.block _ (blkLt q1)).trans q1
  have HX3 := hid (HX1.out.below hb3)
  have HY3 := hid (hy.below hbx)
  have HYE := hid hye
  obtain ⟨s0, s1, s2, s3⟩ := cells4 q2
  obtain ⟨p0, p1, p2, p3⟩ := cells4 q1'
  have HB3 := hid (thenB HB1.out hb3)
  have HQ1 := hid q1'
  have HQ2 := hid q2
  clear hy hye hbx hb3 hb2 q1 q1' q2 HSE HX1 hsm
  go_upto_region 11 with fail
  generalize w2.alloc (.cells #[.slice y.a.A y.a.l.length y.a.c, .slice y.b.A y.b.l.length y.b.c, .slice y.o.A y.o.l.length y.o.c, .slice y.cA y.LC.length y.cc] 28 (0, 0)) = w3 at *
  have HST : HidP (∀ W w', (Below w3.heap.size w3 W ∧ W.cell? ⟨w1.heap.size, 0, none⟩ = some (.slice x.a.A x.a.l.length x.a.c) ∧ W.cell? ⟨w1.heap.size, 1, none⟩ = some (.slice x.b.A x.b.l.length x.b.c) ∧ W.cell? ⟨w1.heap.size, 2, none⟩ = some (.slice x.o.A x.o.l.length x.o.c) ∧ W.cell? ⟨w1.heap.size, 3, none⟩ = some (.slice x.cA x.LC.length x.cc) ∧ W.cell? ⟨w2.heap.size, 0, none⟩ = some (.slice y.a.A y.a.l.length y.a.c) ∧ W.cell? ⟨w2.heap.size, 1, none⟩ = some (.slice y.b.A y.b.l.length y.b.c) ∧ W.cell? ⟨w2.heap.size, 2, none⟩ = some (.slice y.o.A y.o.l.length y.o.c) ∧ W.cell? ⟨w2.heap.size, 3, none⟩ = some (.slice y.cA y.LC.length y.cc)) → Below W.heap.size W w' → (Below w3.heap.size w3 w' ∧ w'.cell? ⟨w1.heap.size, 0, none⟩ = some (.slice x.a.A x.a.l.length x.a.c) ∧ w'.cell? ⟨w1.heap.size, 1, none⟩ = some (.slice x.b.A x.b.l.length x.b.c) ∧ w'.cell? ⟨w1.heap.size, 2, none⟩ = some (.slice x.o.A x.o.l.length x.o.c) ∧ w'.cell? ⟨w1.heap.size, 3, none⟩ = some (.slice x.cA x.LC.length x.cc) ∧ w'.cell? ⟨w2.heap.size, 0, none⟩ = some (.slice y.a.A y.a.l.length y.a.c) ∧ w'.cell? ⟨w2.heap.size, 1, none⟩ = some (.slice y.b.A y.b.l.length y.b.c) ∧ w'.cell? ⟨w2.heap.size, 2, none⟩ = some (.slice y.o.A y.o.l.length y.o.c) ∧ w'.cell? ⟨w2.heap.size, 3, none⟩ = some (.slice y.cA y.LC.length y.cc))) := hid (fun W w' hW hb => ⟨thenB hW.1 hb, cellB hb hW.2.1, cellB hb hW.2.2.1, cellB hb hW.2.2.2.1, cellB hb hW.2.2.2.2.1, cellB hb hW.2.2.2.2.2.1, cellB hb hW.2.2.2.2.2.2.1, cellB hb hW.2.2.2.2.2.2.2.1, cellB hb hW.2.2.2.2.2.2.2.2⟩)
  have hs3 : Below w3.heap.size w3 w3 ∧ w3.cell? ⟨w1.heap.size, 0, none⟩ = some (.slice x.a.A x.a.l.length x.a.c) ∧ w3.cell? ⟨w1.heap.size, 1, none⟩ = some (.slice x.b.A x.b.l.length x.b.c) ∧ w3.cell? ⟨w1.heap.size, 2, none⟩ = some (.slice x.o.A x.o.l.length x.o.c) ∧ w3.cell? ⟨w1.heap.size, 3, none⟩ = some (.slice x.cA x.LC.length x.cc) ∧ w3.cell? ⟨w2.heap.size, 0, none⟩ = some (.slice y.a.A y.a.l.length y.a.c) ∧ w3.cell? ⟨w2.heap.size, 1, none⟩ = some (.slice y.b.A y.b.l.length y.b.c) ∧ w3.cell? ⟨w2.heap.size, 2, none⟩ = some (.slice y.o.A y.o.l.length y.o.c) ∧ w3.cell? ⟨w2.heap.size, 3, none⟩ = some (.slice y.cA y.LC.length y.cc) := ⟨Below.refl _ _, p0, p1, p2, p3, s0, s1, s2, s3⟩
  go_cut [75] from 66 to 74 (fun v wx => v = .bool false ∧ Below w3.heap.size w3 wx)
  case first =>
    by_cases hz : how = 0
    · subst hz
      have HK1 : HidP (∀ W, (Below w3.heap.size w3 W ∧ W.cell? ⟨w1.heap.size, 0, none⟩ = some (.slice x.a.A x.a.l.length x.a.c) ∧ W.cell? ⟨w1.heap.size, 1, none⟩ = some (.slice x.b.A x.b.l.length x.b.c) ∧ W.cell? ⟨w1.heap.size, 2, none⟩ = some (.slice x.o.A x.o.l.length x.o.c) ∧ W.cell? ⟨w1.heap.size, 3, none⟩ = some (.slice x.cA x.LC.length x.cc) ∧ W.cell? ⟨w2.heap.size, 0, none⟩ = some (.slice y.a.A y.a.l.length y.a.c) ∧ W.cell? ⟨w2.heap.size, 1, none⟩ = some (.slice y.b.A y.b.l.length y.b.c) ∧ W.cell? ⟨w2.heap.size, 2, none⟩ = some (.slice y.o.A y.o.l.length y.o.c) ∧ W.cell? ⟨w2.heap.size, 3, none⟩ = some (.slice y.cA y.LC.length y.cc)) → Calls Tryz.prog 14 #[.agg #[.slice x.a.A x.a.l.length x.a.c, .slice x.b.A x.b.l.length x.b.c, .slice x.o.A x.o.l.length x.o.c, .slice x.cA x.LC.length x.cc]] W fun e w' => e = .returned (.agg #[.slice x.a.A x.a.l.length x.a.c, .slice x.b.A x.b.l.length x.b.c, .slice x.o.A x.o.l.length x.o.c, .slice x.cA x.LC.length x.cc]) ∧ (Below w3.heap.size w3 w' ∧ w'.cell? ⟨w1.heap.size, 0, none⟩ = some (.slice x.a.A x.a.l.length x.a.c) ∧ w'.cell? ⟨w1.heap.size, 1, none⟩ = some (.slice x.b.A x.b.l.length x.b.c) ∧ w'.cell? ⟨w1.heap.size, 2, none⟩ = some (.slice x.o.A x.o.l.length x.o.c) ∧ w'.cell? ⟨w1.heap.size, 3, none⟩ = some (.slice x.cA x.LC.length x.cc) ∧ w'.cell? ⟨w2.heap.size, 0, none⟩ = some (.slice y.a.A y.a.l.length y.a.c) ∧ w'.cell? ⟨w2.heap.size, 1, none⟩ = some (.slice y.b.A y.b.l.length y.b.c) ∧ w'.cell? ⟨w2.heap.size, 2, none⟩ = some (.slice y.o.A y.o.l.length y.o.c) ∧ w'.cell? ⟨w2.heap.size, 3, none⟩ = some (.slice y.cA y.LC.length y.cc))) := hid (fun W hW => (back_walk x W).mono (by
        rintro e w' ⟨rfl, h3⟩
        exact ⟨rfl, HST.out _ _ hW h3⟩))
      have HK2 : HidP (∀ W, (Below w3.heap.size w3 W ∧ W.cell? ⟨w1.heap.size, 0, none⟩ = some (.slice x.a.A x.a.l.length x.a.c) ∧ W.cell? ⟨w1.heap.size, 1, none⟩ = some (.slice x.b.A x.b.l.length x.b.c) ∧ W.cell? ⟨w1.heap.size, 2, none⟩ = some (.slice x.o.A x.o.l.length x.o.c) ∧ W.cell? ⟨w1.heap.size, 3, none⟩ = some (.slice x.cA x.LC.length x.cc) ∧ W.cell? ⟨w2.heap.size, 0, none⟩ = some (.slice y.a.A y.a.l.length y.a.c) ∧ W.cell? ⟨w2.heap.size, 1, none⟩ = some (.slice y.b.A y.b.l.length y.b.c) ∧ W.cell? ⟨w2.heap.size, 2, none⟩ = some (.slice y.o.A y.o.l.length y.o.c) ∧ W.cell? ⟨w2.heap.size, 3, none⟩ = some (.slice y.cA y.LC.length y.cc)) → Calls Tryz.prog 14 #[.agg #[.slice y.a.A y.a.l.length y.a.c, .slice y.b.A y.b.l.length y.b.c, .slice y.o.A y.o.l.length y.o.c, .slice y.cA y.LC.length y.cc]] W fun e w' => e = .returned (.agg #[.slice y.a.A y.a.l.length y.a.c, .slice y.b.A y.b.l.length y.b.c, .slice y.o.A y.o.l.length y.o.c, .slice y.cA y.LC.length y.cc]) ∧ (Below w3.heap.size w3 w' ∧ w'.cell? ⟨w1.heap.size, 0, none⟩ = some (.slice x.a.A x.a.l.length x.a.c) ∧ w'.cell? ⟨w1.heap.size, 1, none⟩ = some (.slice x.b.A x.b.l.length x.b.c) ∧ w'.cell? ⟨w1.heap.size, 2, none⟩ = some (.slice x.o.A x.o.l.length x.o.c) ∧ w'.cell? ⟨w1.heap.size, 3, none⟩ = some (.slice x.cA x.LC.length x.cc) ∧ w'.cell? ⟨w2.heap.size, 0, none⟩ = some (.slice y.a.A y.a.l.length y.a.c) ∧ w'.cell? ⟨w2.heap.size, 1, none⟩ = some (.slice y.b.A y.b.l.length y.b.c) ∧ w'.cell? ⟨w2.heap.size, 2, none⟩ = some (.slice y.o.A y.o.l.length y.o.c) ∧ w'.cell? ⟨w2.heap.size, 3, none⟩ = some (.slice y.cA y.LC.length y.cc))) := hid (fun W hW => (back_walk y W).mono (by
        rintro e w' ⟨rfl, h3⟩
        exact ⟨rfl, HST.out _ _ hW h3⟩))
      have HSM : HidP (∀ W, (Below w3.heap.size w3 W ∧ W.cell? ⟨w1.heap.size, 0, none⟩ = some (.slice x.a.A x.a.l.length x.a.c) ∧ W.cell? ⟨w1.heap.size, 1, none⟩ = some (.slice x.b.A x.b.l.length x.b.c) ∧ W.cell? ⟨w1.heap.size, 2, none⟩ = some (.slice x.o.A x.o.l.length x.o.c) ∧ W.cell? ⟨w1.heap.size, 3, none⟩ = some (.slice x.cA x.LC.length x.cc) ∧ W.cell? ⟨w2.heap.size, 0, none⟩ = some (.slice y.a.A y.a.l.length y.a.c) ∧ W.cell? ⟨w2.heap.size, 1, none⟩ = some (.slice y.b.A y.b.l.length y.b.c) ∧ W.cell? ⟨w2.heap.size, 2, none⟩ = some (.slice y.o.A y.o.l.length y.o.c) ∧ W.cell? ⟨w2.heap.size, 3, none⟩ = some (.slice y.cA y.LC.length y.cc)) → Calls Tryz.prog 13 #[.agg #[.slice y.a.A y.a.l.length y.a.c, .slice y.b.A y.b.l.length y.b.c, .slice y.o.A y.o.l.length y.o.c, .slice y.cA y.LC.length y.cc], .agg #[.slice x.a.A x.a.l.length x.a.c, .slice x.b.A x.b.l.length x.b.c, .slice x.o.A x.o.l.length x.o.c, .slice x.cA x.LC.length x.cc]] W fun e w' => e = .returned (.bool true) ∧ (Below w3.heap.size w3 w' ∧ w'.cell? ⟨w1.heap.size, 0, none⟩ = some (.slice x.a.A x.a.l.length x.a.c) ∧ w'.cell? ⟨w1.heap.size, 1, none⟩ = some (.slice x.b.A x.b.l.length x.b.c) ∧ w'.cell? ⟨w1.heap.size, 2, none⟩ = some (.slice x.o.A x.o.l.length x.o.c) ∧ w'.cell? ⟨w1.heap.size, 3, none⟩ = some (.slice x.cA x.LC.length x.cc) ∧ w'.cell? ⟨w2.heap.size, 0, none⟩ = some (.slice y.a.A y.a.l.length y.a.c) ∧ w'.cell? ⟨w2.heap.size, 1, none⟩ = some (.slice y.b.A y.b.l.length y.b.c) ∧ w'.cell? ⟨w2.heap.size, 2, none⟩ = some (.slice y.o.A y.o.l.length y.o.c) ∧ w'.cell? ⟨w2.heap.size, 3, none⟩ = some (.slice y.cA y.LC.length y.cc))) := hid (fun W hW => (same22_walk y x W (HY3.out.below hW.1) (HX3.out.below hW.1)).mono (by
        rintro e w' ⟨rfl, h3⟩
        exact ⟨by rw [sameR_iff.2 (HYE.out.trans ((st_zero HRR.out HBG.out).trans HXE.out.symm))], HST.out _ _ hW h3⟩))
      have hs4 := HST.out _ w3.drew hs3 ⟨rfl, rfl, rfl, Nat.le_refl _, fun _ _ => rfl⟩
      clear hs3 p0 p1 p2 p3 s0 s1 s2 s3 HST
      go_region_held3 (fun W => Below w3.heap.size w3 W ∧ W.cell? ⟨w1.heap.size, 0, none⟩ = some (.slice x.a.A x.a.l.length x.a.c) ∧ W.cell? ⟨w1.heap.size, 1, none⟩ = some (.slice x.b.A x.b.l.length x.b.c) ∧ W.cell? ⟨w1.heap.size, 2, none⟩ = some (.slice x.o.A x.o.l.length x.o.c) ∧ W.cell? ⟨w1.heap.size, 3, none⟩ = some (.slice x.cA x.LC.length x.cc) ∧ W.cell? ⟨w2.heap.size, 0, none⟩ = some (.slice y.a.A y.a.l.length y.a.c) ∧ W.cell? ⟨w2.heap.size, 1, none⟩ = some (.slice y.b.A y.b.l.length y.b.c) ∧ W.cell? ⟨w2.heap.size, 2, none⟩ = some (.slice y.o.A y.o.l.length y.o.c) ∧ W.cell? ⟨w2.heap.size, 3, none⟩ = some (.slice y.cA y.LC.length y.cc)) (assumption) (first | (refine step_callG 14 _ _ (by rfl) (by rfl) Tryz.func14 (by kernel_rfl) (by kernel_rfl) [.agg #[.slice x.a.A x.a.l.length x.a.c, .slice x.b.A x.b.l.length x.b.c, .slice x.o.A x.o.l.length x.o.c, .slice x.cA x.LC.length x.cc]] (by rfl) (HK1.out _ (by assumption)) ?_; rintro e wk1 ⟨rfl, hK1⟩; refine ⟨_, rfl, ?_⟩) | (refine step_callG 14 _ _ (by rfl) (by rfl) Tryz.func14 (by kernel_rfl) (by kernel_rfl) [.agg #[.slice y.a.A y.a.l.length y.a.c, .slice y.b.A y.b.l.length y.b.c, .slice y.o.A y.o.l.length y.o.c, .slice y.cA y.LC.length y.cc]] (by rfl) (HK2.out _ (by assumption)) ?_; rintro e wk2 ⟨rfl, hK2⟩; refine ⟨_, rfl, ?_⟩) | (refine step_callG 13 _ _ (by rfl) (by rfl) Tryz.func13 (by kernel_rfl) (by kernel_rfl) [.agg #[.slice y.a.A y.a.l.length y.a.c, .slice y.b.A y.b.l.length y.b.c, .slice y.o.A y.o.l.length y.o.c, .slice y.cA y.LC.length y.cc], .agg #[.slice x.a.A x.a.l.length x.a.c, .slice x.b.A x.b.l.length x.b.c, .slice x.o.A x.o.l.length x.o.c, .slice x.cA x.LC.length x.cc]] (by rfl) (HSM.out _ (by assumption)) ?_; rintro e wk3 ⟨rfl, hK3⟩; refine ⟨_, rfl, ?_⟩))
      go_wp2_with fail
      go_meet
      case rel => exact ⟨rfl, hK3.1⟩
    · have z0 : (how == 0) = false := by simpa using hz
      have hs4 := HST.out _ w3.drew hs3 ⟨rfl, rfl, rfl, Nat.le_refl _, fun _ _ => rfl⟩
      clear hz hs3 p0 p1 p2 p3 s0 s1 s2 s3 HST
      go_quiet (fail)
      go_wp2_with fail
      go_meet
      case rel => exact ⟨rfl, Below.drewN (Below.refl _ _)⟩
  case rest =>
    obtain ⟨rfl, hcb⟩ := hcut
    rename World => wx
    go_upto_region 13 with fail
    go_cut [103] from 76 to 102 (fun v wy => v = .bool false ∧ Below w3.heap.size w3 wy)
    case first =>
      obtain ⟨hb, p0, p1, p2, p3, s0, s1, s2, s3⟩ := HST.out _ _ hs3 hcb
      by_cases hz : how = 0
      · subst hz
        go_wp2_with fail
        go_meet
        case rel => exact ⟨rfl, hb⟩
      by_cases h3 : how = 3
      · subst h3
        go_wp2_with fail
        go_meet
        case rel => exact ⟨rfl, hb⟩
      have z0 : (how != 0) = true := by simpa using hz
      have z3 : (how != 3) = true := by simpa using h3
      obtain ⟨f1, f2, f3⟩ := st_alike HRR.out HBG.out HHH.out (how := how) (by
        have hhh := HHH.out
        unfold howB at hhh
        rw [Bool.and_eq_true] at hhh
        have := of_decide_eq_true hhh.1
        have := of_decide_eq_true hhh.2
        omega)
      rw [← HYE.out] at f1 f2 f3
      unfold RI.abs at f1 f2 f3
      simp only [List.map_eq_nil_iff] at f1 f2 f3
      have l0 : y.LC.length = 0 := by rw [f1]; rfl
      rw [l0] at s3
      have HS1 := hid (fun W (hW : Below w3.heap.size w3 W) => tsame_walk y.a.A y.b.A y.a.c y.b.c y.a.l y.b.l W (HY3.out.a.below hW) (HY3.out.b.below hW))
      have HS2 := hid (fun W (hW : Below w3.heap.size w3 W) => tsame_walk y.a.A y.o.A y.a.c y.o.c y.a.l y.o.l W (HY3.out.a.below hW) (HY3.out.o.below hW))
      rw [show sameL y.a.l y.b.l = true from decide_eq_true f2] at HS1
      rw [show sameL y.a.l y.o.l = true from decide_eq_true f3] at HS2
      clear f1 f2 f3 l0 hz h3
      go_wp2_with fail
      refine (HS1.out _ hb).mono ?_
      rintro e w4 ⟨rfl, hb4⟩
      have s0 := cellB hb4 s0
      have s2 := cellB hb4 s2
      have hb5 := thenB hb hb4
      go_wp2_with fail
      refine (HS2.out _ hb5).mono ?_
      rintro e w6 ⟨rfl, hb6⟩
      have hb7 := thenB hb5 hb6
      go_wp2_with fail
      go_meet
      case rel => exact ⟨rfl, hb7⟩
    case rest =>
      obtain ⟨rfl, hcb2⟩ := hcut
      rename World => wy
      obtain ⟨hb, p0, p1, p2, p3, s0, s1, s2, s3⟩ := HST.out _ _ hs3 hcb2
      obtain ⟨ti, hi0, hz0, hz1, hz2⟩ := info_parts infoStr
      have HX4 := hid (HX3.out.below hb)
      have HY4 := hid (HY3.out.below hb)
      have HBW := hid (thenB HB3.out hb)
      have HS4 := hid (HST.out _ _ hs3 hcb2)
      have HCL : HidP (x.LC.length ≤ 200) := hid (by
        have h1 := (base_of HRR.out HBG.out).len
        have h2 := HXE.out
        unfold RI.abs at h2
        simp only [Prod.mk.injEq] at h2
        rw [← h2.2.2.2, List.length_map] at h1
        exact h1)
      have hba := thenA (Below.refl _ wy) (.cells #[] 9 (0, 0))
      have hrow0 : Row (wy.alloc (.cells #[] 9 (0, 0))) 9 1 (.slice (some ⟨wy.heap.size, 0, none⟩) 0 0) (([] : List ByteArray).map .string) := ⟨_, 0, 0, rfl, rfl, Nat.le_refl _, Nat.zero_le _, .inr ⟨wy.heap.size, 0, #[], rfl, heap_alloc_new wy _, by simp, by simp⟩⟩
      have hsx := (HX4.out.below hba).c.src
      have p3a := cellA p3 (.cells #[] 9 (0, 0))
      have bd1 : (([] : List ByteArray).map Value.string).length + (x.LC.map Value.string).length ≤ maxLen := by have := HCL.out; simp [maxLen]; omega
      have bd2 : ((([] : List ByteArray).map Value.string).length + (x.LC.map Value.string).length) * 16 ≤ 140737488355328 := by have := HCL.out; simp; omega
      clear p0 p1 p2 s0 s1 s2 s3 hcb hcb2 hs3 HST hb HB1 HB3
      go_wp2_with (at_builtin; refine wpList_append_row _ rfl _ _ 26 rfl 9 ti (.string ByteArray.empty) 1 16 Tryz.underlying26 hi0 hz0 hz1 hz2 rfl (by decide) (.slice (some ⟨wy.heap.size, 0, none⟩) 0 0) (([] : List ByteArray).map .string) rfl (by exact hrow0) (.slice x.cA x.LC.length x.cc) (x.LC.map .string) rfl (by exact hsx) (by simp [Value.oneCell']) bd1 bd2 ?_; intro cA cn cc w7 hr7 hg7 ha7)
      have hf7 := fresh_of (B := wy.heap.size) ha7 (by simp [Value.ownBlock]) (by simp)
      have hb7 : Below wy.heap.size wy w7 := Below.grownNew hba hg7 (by simp) (by simp [Value.ownBlock])
      have hr8 : Row w7 9 1 (.slice cA cn cc) (x.LC.map .string) := by simpa using hr7
      obtain rfl := hr8.slen
      have hs4 := HS4.out
      clear hr7 hg7 ha7 hrow0 hsx p3a bd1 bd2 p3 hba
      go_wp2_with fail
      generalize w7 = wp at *
      have HFP := hid hf7
      have HRP := hid hr8
      have HBP := hid hb7
      have hcl := HCL.out
      clear hf7 hr8 hb7
      go_loopg [12, 13] x.LC.length (fun k bs i wr => ∃ (j : Nat) (BA : Option Addr) (Bc : Nat) (LB : List ByteArray), j ≤ x.LC.length ∧ k = x.LC.length - j ∧ i = .int .i64 j ∧ bs = .slice BA LB.length Bc ∧ LB.map (fun z : ByteArray => z.toList) = (x.LC.map fun z : ByteArray => z.toList) ++ othersL ((x.LC.map fun z : ByteArray => z.toList).take j) ∧ LB.length ≤ x.LC.length + j ∧ Row wr 9 1 (.slice BA LB.length Bc) (LB.map .string) ∧ (∀ k, (Value.slice BA LB.length Bc).ownBlock = some k → wy.heap.size ≤ k) ∧ Below wy.heap.size wy wr)
      case atStart => exact ⟨0, cA, cc, x.LC, Nat.zero_le _, rfl, rfl, rfl, by simp [othersL], by omega, HRP.out, HFP.out, HBP.out⟩
      case round =>
        obtain ⟨j, BA, Bc, LB, hj, rfl, rfl, rfl, hLB, hln, hrow, hfr, hbr⟩ := hrel
        have HLB := hid hLB
        have HFR := hid hfr
        have HLL : HidP (LB.length ≤ x.LC.length + j) := hid hln
        clear hLB hfr hln
        have p3 := cellB hbr (HS4.out.2.2.2.2.1 : wy.cell? ⟨w1.heap.size, 3, none⟩ = some (.slice x.cA x.LC.length x.cc))
        by_cases hlt : j < x.LC.length
        · have i0 : (0 : Int) ≤ (j : Int) := by omega
          have i1 : (j : Int) < (x.LC.length : Int) := by omega
          obtain ⟨cb, co, hcA, ck⟩ := (HX4.out.c.below hbr).str hlt
          have HCA := hid hcA
          rw [hcA] at p3
          have hmem : x.LC[j].toList ∈ mgS (o.l.map Itm.abs) (a.l.map Itm.abs) (b.l.map Itm.abs) := by
            have h2 := HXE.out
            unfold RI.abs at h2
            simp only [Prod.mk.injEq] at h2
            rw [← h2.2.2.2]
            exact List.mem_map_of_mem (List.getElem_mem hlt)
          have HPB := hid (conf_path HRR.out hmem)
          have HSZ : HidP (x.LC[j].size ≤ 1000) := hid (by have := pathB_short HPB.out; rw [← str_len]; omega)
          have HNM := hid (fun W => pname_walk x.LC[j] W (by have := HSZ.out; omega))
          clear hmem hcA
          go_wp2_with fail
          refine (HNM.out _).mono ?_
          rintro e w8 ⟨⟨q, rfl, hq⟩, hb8⟩
          have HQ := hid hq
          have hbr8 := thenB hbr hb8
          have hrow8 := hrow.below hb8
          clear hq HNM hrow
          have hth := others_next (C := x.LC.map fun z : ByteArray => z.toList) (j := j) (by simpa using hlt)
          rw [List.getElem_map, ← HQ.out] at hth
          have HTH := hid hth
          clear hth
          cases hqe : (q.toList == [])
          · have hqn : (q.toList != []) = true := by simpa using hqe
            have hqn2 : q.toList ≠ [] := by simpa using hqe
            have HQN := hid hqn2
            have hba := thenA (Below.refl _ w8) (.cells #[.string q] 9 (0, 0))
            have hsi : Src (w8.alloc (.cells #[.string q] 9 (0, 0))) 1 (.slice (some ⟨w8.heap.size, 0, none⟩) 1 1) ([q].map .string) := (Row.ofBlock (sz := 1) (n := 1) (heap_alloc_new w8 _) rfl (by simp [maxLen])).src
            have bd1 : (LB.map Value.string).length + ([q].map Value.string).length ≤ maxLen := by have := HCL.out; have := HLL.out; simp [maxLen]; omega
            have bd2 : ((LB.map Value.string).length + ([q].map Value.string).length) * 16 ≤ 140737488355328 := by have := HCL.out; have := HLL.out; simp; omega
            clear hqn2
            go_wp2_with (at_builtin; refine wpList_append_row _ rfl _ _ 26 rfl 9 ti (.string ByteArray.empty) 1 16 Tryz.underlying26 hi0 hz0 hz1 hz2 rfl (by decide) (.slice BA LB.length Bc) (LB.map .string) rfl (by exact hrow8.below hba) (.slice (some ⟨w8.heap.size, 0, none⟩) 1 1) ([q].map .string) rfl (by exact hsi) (by simp [Value.oneCell']) bd1 bd2 ?_; intro dA dn dc w9 hr9 hg9 ha9)
            have hr10 : Row w9 9 1 (.slice dA dn dc) ((LB ++ [q]).map .string) := by rw [List.map_append]; exact hr9
            obtain ⟨LB2, hL2⟩ : ∃ L, L = LB ++ [q] := ⟨_, rfl⟩
            rw [← hL2] at hr10
            obtain rfl := hr10.slen
            have hsz8 := hbr8.size
            have hf10 := fresh_of ha9 HFR.out (by simp; omega)
            have hb10 : Below wy.heap.size wy w9 := Below.grownNew (thenB hbr8 hba) hg9 (by simp; omega) HFR.out
            have HR10 := hid hr10
            have HL3 : HidP (LB2.map (fun z : ByteArray => z.toList) = (x.LC.map fun z : ByteArray => z.toList) ++ othersL ((x.LC.map fun z : ByteArray => z.toList).take (j + 1))) := hid (by rw [hL2, HTH.out, List.map_append, HLB.out, if_neg HQN.out, List.append_assoc]; rfl)
            have HL4 : HidP (LB2.length ≤ x.LC.length + (j + 1)) := hid (by have := HLL.out; rw [hL2]; simp; omega)
            clear hr9 hg9 ha9 hr10 hL2 hrow8 hsi bd1 bd2 hba p3 ck
            go_roundg (x.LC.length - (j + 1))
            case measure => omega
            case rel => exact ⟨j + 1, dA, dc, LB2, by omega, rfl, by go_num, rfl, HL3.out, HL4.out, HR10.out, hf10, hb10⟩
          · have hqn : (q.toList != []) = false := by simpa using hqe
            have HQN : HidP (q.toList = []) := hid (by simpa using hqe)
            have HR10 := hid hrow8
            clear hrow8
            go_wp2_with fail
            go_roundg (x.LC.length - (j + 1))
            case measure => omega
            case rel => exact ⟨j + 1, BA, Bc, LB, by omega, rfl, by go_num, rfl, by rw [HTH.out, if_pos HQN.out, List.append_nil]; exact HLB.out, by have := HLL.out; omega, HR10.out, HFR.out, hbr8⟩
        · obtain rfl : j = x.LC.length := by omega
          have HLB2 : HidP (LB.map (fun z : ByteArray => z.toList) = besideL (mgS (o.l.map Itm.abs) (a.l.map Itm.abs) (b.l.map Itm.abs))) := hid (by
            have h2 := HXE.out
            unfold RI.abs at h2
            simp only [Prod.mk.injEq] at h2
            rw [HLB.out, List.take_of_length_le (by simp), h2.2.2.2]
            rfl)
          have hrowB := hrow
          obtain ⟨_, _, _, _, _, s0, s1, s2, s3⟩ := HS4.out
          have s0 := cellB hbr s0
          have s1 := cellB hbr s1
          have s2 := cellB hbr s2
          have HY5 := hid (HY4.out.below hbr)
          have HX5 := hid (HX4.out.below hbr)
          have HAG := hid (st_again HRR.out HBG.out HHH.out HSM0.out)
          have hye := HYE.out
          obtain ⟨v, hvv⟩ : ∃ v, stO how (o.l.map Itm.abs) (a.l.map Itm.abs) (b.l.map Itm.abs) = v := ⟨_, rfl⟩
          have HVV := hid hvv
          rw [hvv] at hye HAG
          have hye2 := hye
          unfold RI.abs at hye2
          obtain ⟨v1, v2, v3, v4⟩ := v
          simp only [Prod.mk.injEq] at hye2
          obtain ⟨ea, eb, eo, ec⟩ := hye2
          have HEA := hid ea
          have HEB := hid eb
          have HEO := hid eo
          have HEC := hid ec
          have hsm := HSM0.out
          rw [hvv] at hsm
          unfold bigS at hsm
          have hlen := of_decide_eq_false hsm
          simp only at hlen
          have HM2 := hid (merge_is HY5.out.o HY5.out.a HY5.out.b eo ea eb (by omega) (by omega) (by omega) HAG.out.1 (by show v4.length ≤ _; rw [← ec, List.length_map]; exact HY5.out.n))
          have HLN : HidP (x.a.l.length ≤ 60 ∧ x.b.l.length ≤ 60 ∧ y.a.l.length ≤ 60 ∧ y.b.l.length ≤ 60) := hid (by
            obtain ⟨g1, g2, _⟩ := bigB_iff.1 HBG.out
            have h2 := HXE.out
            unfold RI.abs at h2
            simp only [Prod.mk.injEq] at h2
            rw [← h2.1, List.length_map] at g1
            rw [← h2.2.1, List.length_map] at g2
            have e1 := congrArg List.length ea
            have e2 := congrArg List.length eb
            rw [List.length_map] at e1 e2
            exact ⟨g1, g2, by omega, by omega⟩)
          have HRW := hid hrowB
          have hbw5 := thenB HBW.out hbr
          have HB5 := hid hbr
          clear hvv hye ea eb eo ec hsm hlen hrow hrowB s3
          go_wp2_with fail
          refine HM2.out.mono ?_
          rintro e w8 ⟨⟨z, rfl, hz, hze⟩, hb8⟩
          have hbz := thenA (Below.refl _ w8) (.cells #[.slice z.a.A z.a.l.length z.a.c, .slice z.b.A z.b.l.length z.b.c, .slice z.o.A z.o.l.length z.o.c, .slice z.cA z.LC.length z.cc] 28 (0, 0))
          have hbm := thenB hb8 hbz
          have q3 := heap_alloc_new w8 (.cells #[.slice z.a.A z.a.l.length z.a.c, .slice z.b.A z.b.l.length z.b.c, .slice z.o.A z.o.l.length z.o.c, .slice z.cA z.LC.length z.cc] 28 (0, 0))
          obtain ⟨z0, z1, z2, z3⟩ := cells4 q3
          have HZ7 := hid (hz.below hbz)
          have HZE := hid hze
          have HX7 := hid (HX5.out.below hbm)
          have HY7 := hid (HY5.out.below hbm)
          have HRB := hid (HRW.out.below hbm)
          have HNB : HidP (LB.length ≤ 1000000) := hid (by have := HCL.out; have := HLL.out; omega)
          have hbq := thenB hbr hbm
          obtain ⟨_, p0, p1, p2, p3, s0, s1, s2, s3⟩ := HS4.out
          have p0 := cellB hbq p0
          have p1 := cellB hbq p1
          have p2 := cellB hbq p2
          have p3 := cellB hbq p3
          have s0 := cellB hbq s0
          have s1 := cellB hbq s1
          have s2 := cellB hbq s2
          have s3 := cellB hbq s3
          have HB7 := hid (thenB hbw5 hbm)
          clear hz hze hbz hbm hb8 hbq hbw5 hbr q3 HM2 HRW
          go_upto_region 23 with fail
          generalize w8.alloc (.cells #[.slice z.a.A z.a.l.length z.a.c, .slice z.b.A z.b.l.length z.b.c, .slice z.o.A z.o.l.length z.o.c, .slice z.cA z.LC.length z.cc] 28 (0, 0)) = w7 at *
          have HNM := hid (fun W (hW : Below w7.heap.size w7 W) => names_walk z.cA y.cA z.cc y.cc z.LC y.LC W (HZ7.out.c.below hW) (HY7.out.c.below hW) HZ7.out.n HY7.out.n)
          have hzc : decide (z.LC.map (fun z : ByteArray => z.toList) = y.LC.map fun z : ByteArray => z.toList) = true := decide_eq_true (by
            have h2 := HZE.out
            unfold RI.abs at h2
            simp only [Prod.mk.injEq] at h2
            rw [h2.2.2.2, HEC.out])
          rw [hzc] at HNM
          have HG1 := hid (fun W (hW : Below w7.heap.size w7 W) => right_walk y.a.A y.a.c y.a.l W (HY7.out.a.below hW))
          have HG2 := hid (fun W (hW : Below w7.heap.size w7 W) => right_walk y.b.A y.b.c y.b.l W (HY7.out.b.below hW))
          have HG3 := hid (fun W (hW : Below w7.heap.size w7 W) => right_walk y.o.A y.o.c y.o.l W (HY7.out.o.below hW))
          rw [HEA.out, show rightA v1 = true from right_iff.2 HAG.out.2.1] at HG1
          rw [HEB.out, show rightA v2 = true from right_iff.2 HAG.out.2.2.1] at HG2
          rw [HEO.out, show rightA v3 = true from right_iff.2 HAG.out.2.2.2] at HG3
          have HST : HidP (∀ W w', (Below w7.heap.size w7 W ∧ W.cell? ⟨w1.heap.size, 0, none⟩ = some (.slice x.a.A x.a.l.length x.a.c) ∧ W.cell? ⟨w1.heap.size, 1, none⟩ = some (.slice x.b.A x.b.l.length x.b.c) ∧ W.cell? ⟨w1.heap.size, 2, none⟩ = some (.slice x.o.A x.o.l.length x.o.c) ∧ W.cell? ⟨w1.heap.size, 3, none⟩ = some (.slice x.cA x.LC.length x.cc) ∧ W.cell? ⟨w2.heap.size, 0, none⟩ = some (.slice y.a.A y.a.l.length y.a.c) ∧ W.cell? ⟨w2.heap.size, 1, none⟩ = some (.slice y.b.A y.b.l.length y.b.c) ∧ W.cell? ⟨w2.heap.size, 2, none⟩ = some (.slice y.o.A y.o.l.length y.o.c) ∧ W.cell? ⟨w2.heap.size, 3, none⟩ = some (.slice y.cA y.LC.length y.cc)) → Below W.heap.size W w' → (Below w7.heap.size w7 w' ∧ w'.cell? ⟨w1.heap.size, 0, none⟩ = some (.slice x.a.A x.a.l.length x.a.c) ∧ w'.cell? ⟨w1.heap.size, 1, none⟩ = some (.slice x.b.A x.b.l.length x.b.c) ∧ w'.cell? ⟨w1.heap.size, 2, none⟩ = some (.slice x.o.A x.o.l.length x.o.c) ∧ w'.cell? ⟨w1.heap.size, 3, none⟩ = some (.slice x.cA x.LC.length x.cc) ∧ w'.cell? ⟨w2.heap.size, 0, none⟩ = some (.slice y.a.A y.a.l.length y.a.c) ∧ w'.cell? ⟨w2.heap.size, 1, none⟩ = some (.slice y.b.A y.b.l.length y.b.c) ∧ w'.cell? ⟨w2.heap.size, 2, none⟩ = some (.slice y.o.A y.o.l.length y.o.c) ∧ w'.cell? ⟨w2.heap.size, 3, none⟩ = some (.slice y.cA y.LC.length y.cc))) := hid (fun W w' hW hb => ⟨thenB hW.1 hb, cellB hb hW.2.1, cellB hb hW.2.2.1, cellB hb hW.2.2.2.1, cellB hb hW.2.2.2.2.1, cellB hb hW.2.2.2.2.2.1, cellB hb hW.2.2.2.2.2.2.1, cellB hb hW.2.2.2.2.2.2.2.1, cellB hb hW.2.2.2.2.2.2.2.2⟩)
          have hs7 : Below w7.heap.size w7 w7 ∧ w7.cell? ⟨w1.heap.size, 0, none⟩ = some (.slice x.a.A x.a.l.length x.a.c) ∧ w7.cell? ⟨w1.heap.size, 1, none⟩ = some (.slice x.b.A x.b.l.length x.b.c) ∧ w7.cell? ⟨w1.heap.size, 2, none⟩ = some (.slice x.o.A x.o.l.length x.o.c) ∧ w7.cell? ⟨w1.heap.size, 3, none⟩ = some (.slice x.cA x.LC.length x.cc) ∧ w7.cell? ⟨w2.heap.size, 0, none⟩ = some (.slice y.a.A y.a.l.length y.a.c) ∧ w7.cell? ⟨w2.heap.size, 1, none⟩ = some (.slice y.b.A y.b.l.length y.b.c) ∧ w7.cell? ⟨w2.heap.size, 2, none⟩ = some (.slice y.o.A y.o.l.length y.o.c) ∧ w7.cell? ⟨w2.heap.size, 3, none⟩ = some (.slice y.cA y.LC.length y.cc) := ⟨Below.refl _ _, p0, p1, p2, p3, s0, s1, s2, s3⟩
          clear hzc
          go_wp2_with fail
          refine (HNM.out _ (Below.refl _ _)).mono ?_
          rintro e u3 ⟨rfl, hc1⟩
          have s0 := cellB hc1 s0
          have s1 := cellB hc1 s1
          have s2 := cellB hc1 s2
          go_wp2_with fail
          refine (HG1.out _ hc1).mono ?_
          rintro e u4 ⟨rfl, hc2⟩
          replace hc2 := thenB hc1 hc2
          have s1 := (HST.out _ _ hs7 hc2).2.2.2.2.2.2.1
          have s2 := (HST.out _ _ hs7 hc2).2.2.2.2.2.2.2.1
          go_wp2_with fail
          refine (HG2.out _ hc2).mono ?_
          rintro e u5 ⟨rfl, hc3⟩
          replace hc3 := thenB hc2 hc3
          have s2 := (HST.out _ _ hs7 hc3).2.2.2.2.2.2.2.1
          go_wp2_with fail
          refine (HG3.out _ hc3).mono ?_
          rintro e u6 ⟨rfl, hc4⟩
          replace hc4 := thenB hc3 hc4
          have hs8 := HST.out _ _ hs7 hc4
          have hs9 := HST.out _ u6.drew hs8 ⟨rfl, rfl, rfl, Nat.le_refl _, fun _ _ => rfl⟩
          have HBS := hid (st_beside HRR.out HBG.out HHH.out)
          obtain ⟨R1, hR1⟩ : ∃ R, restA (mA (o.l.map Itm.abs) (a.l.map Itm.abs) (b.l.map Itm.abs)) (besideL (mgS (o.l.map Itm.abs) (a.l.map Itm.abs) (b.l.map Itm.abs))) = R := ⟨_, rfl⟩
          obtain ⟨R2, hR2⟩ : ∃ R, restA (mB (o.l.map Itm.abs) (a.l.map Itm.abs) (b.l.map Itm.abs)) (besideL (mgS (o.l.map Itm.abs) (a.l.map Itm.abs) (b.l.map Itm.abs))) = R := ⟨_, rfl⟩
          have HXA : HidP (x.a.l.map Itm.abs = mA (o.l.map Itm.abs) (a.l.map Itm.abs) (b.l.map Itm.abs) ∧ x.b.l.map Itm.abs = mB (o.l.map Itm.abs) (a.l.map Itm.abs) (b.l.map Itm.abs)) := hid (by
            have h2 := HXE.out
            unfold RI.abs at h2
            simp only [Prod.mk.injEq] at h2
            exact ⟨h2.1, h2.2.1⟩)
          have E1 : HidP (restA (y.a.l.map Itm.abs) (LB.map fun z : ByteArray => z.toList) = R1) := hid (by rw [HEA.out, HLB2.out, ← hR1, ← HBS.out.1, HVV.out])
          have E2 : HidP (restA (x.a.l.map Itm.abs) (LB.map fun z : ByteArray => z.toList) = R1) := hid (by rw [HXA.out.1, HLB2.out, hR1])
          have E3 : HidP (restA (y.b.l.map Itm.abs) (LB.map fun z : ByteArray => z.toList) = R2) := hid (by rw [HEB.out, HLB2.out, ← hR2, ← HBS.out.2, HVV.out])
          have E4 : HidP (restA (x.b.l.map Itm.abs) (LB.map fun z : ByteArray => z.toList) = R2) := hid (by rw [HXA.out.2, HLB2.out, hR2])
          have HW1 : HidP (∀ W, (Below w7.heap.size w7 W ∧ W.cell? ⟨w1.heap.size, 0, none⟩ = some (.slice x.a.A x.a.l.length x.a.c) ∧ W.cell? ⟨w1.heap.size, 1, none⟩ = some (.slice x.b.A x.b.l.length x.b.c) ∧ W.cell? ⟨w1.heap.size, 2, none⟩ = some (.slice x.o.A x.o.l.length x.o.c) ∧ W.cell? ⟨w1.heap.size, 3, none⟩ = some (.slice x.cA x.LC.length x.cc) ∧ W.cell? ⟨w2.heap.size, 0, none⟩ = some (.slice y.a.A y.a.l.length y.a.c) ∧ W.cell? ⟨w2.heap.size, 1, none⟩ = some (.slice y.b.A y.b.l.length y.b.c) ∧ W.cell? ⟨w2.heap.size, 2, none⟩ = some (.slice y.o.A y.o.l.length y.o.c) ∧ W.cell? ⟨w2.heap.size, 3, none⟩ = some (.slice y.cA y.LC.length y.cc)) → Calls Tryz.prog 23 #[.slice y.a.A y.a.l.length y.a.c, .slice BA LB.length Bc] W fun e w' => (∃ (B : Option Addr) (d : Nat) (l' : List Itm), e = .returned (.slice B l'.length d) ∧ Tr w' B d l' ∧ l'.map Itm.abs = R1) ∧ Below W.heap.size W w' ∧ (Below w7.heap.size w7 w' ∧ w'.cell? ⟨w1.heap.size, 0, none⟩ = some (.slice x.a.A x.a.l.length x.a.c) ∧ w'.cell? ⟨w1.heap.size, 1, none⟩ = some (.slice x.b.A x.b.l.length x.b.c) ∧ w'.cell? ⟨w1.heap.size, 2, none⟩ = some (.slice x.o.A x.o.l.length x.o.c) ∧ w'.cell? ⟨w1.heap.size, 3, none⟩ = some (.slice x.cA x.LC.length x.cc) ∧ w'.cell? ⟨w2.heap.size, 0, none⟩ = some (.slice y.a.A y.a.l.length y.a.c) ∧ w'.cell? ⟨w2.heap.size, 1, none⟩ = some (.slice y.b.A y.b.l.length y.b.c) ∧ w'.cell? ⟨w2.heap.size, 2, none⟩ = some (.slice y.o.A y.o.l.length y.o.c) ∧ w'.cell? ⟨w2.heap.size, 3, none⟩ = some (.slice y.cA y.LC.length y.cc))) := hid (fun W hW => by
            refine (without_walk y.a.A y.a.c y.a.l BA Bc LB W ((HY7.out.a).below hW.1) (by have := HLN.out; omega) (HRB.out.below hW.1) HNB.out).mono ?_
            rintro e w' ⟨⟨B, d, l', rfl, h1, h2⟩, h3⟩
            exact ⟨⟨B, d, l', rfl, h1, h2.trans E1.out⟩, h3, HST.out _ _ hW h3⟩)
          have HW2 : HidP (∀ W, (Below w7.heap.size w7 W ∧ W.cell? ⟨w1.heap.size, 0, none⟩ = some (.slice x.a.A x.a.l.length x.a.c) ∧ W.cell? ⟨w1.heap.size, 1, none⟩ = some (.slice x.b.A x.b.l.length x.b.c) ∧ W.cell? ⟨w1.heap.size, 2, none⟩ = some (.slice x.o.A x.o.l.length x.o.c) ∧ W.cell? ⟨w1.heap.size, 3, none⟩ = some (.slice x.cA x.LC.length x.cc) ∧ W.cell? ⟨w2.heap.size, 0, none⟩ = some (.slice y.a.A y.a.l.length y.a.c) ∧ W.cell? ⟨w2.heap.size, 1, none⟩ = some (.slice y.b.A y.b.l.length y.b.c) ∧ W.cell? ⟨w2.heap.size, 2, none⟩ = some (.slice y.o.A y.o.l.length y.o.c) ∧ W.cell? ⟨w2.heap.size, 3, none⟩ = some (.slice y.cA y.LC.length y.cc)) → Calls Tryz.prog 23 #[.slice x.a.A x.a.l.length x.a.c, .slice BA LB.length Bc] W fun e w' => (∃ (B : Option Addr) (d : Nat) (l' : List Itm), e = .returned (.slice B l'.length d) ∧ Tr w' B d l' ∧ l'.map Itm.abs = R1) ∧ Below W.heap.size W w' ∧ (Below w7.heap.size w7 w' ∧ w'.cell? ⟨w1.heap.size, 0, none⟩ = some (.slice x.a.A x.a.l.length x.a.c) ∧ w'.cell? ⟨w1.heap.size, 1, none⟩ = some (.slice x.b.A x.b.l.length x.b.c) ∧ w'.cell? ⟨w1.heap.size, 2, none⟩ = some (.slice x.o.A x.o.l.length x.o.c) ∧ w'.cell? ⟨w1.heap.size, 3, none⟩ = some (.slice x.cA x.LC.length x.cc) ∧ w'.cell? ⟨w2.heap.size, 0, none⟩ = some (.slice y.a.A y.a.l.length y.a.c) ∧ w'.cell? ⟨w2.heap.size, 1, none⟩ = some (.slice y.b.A y.b.l.length y.b.c) ∧ w'.cell? ⟨w2.heap.size, 2, none⟩ = some (.slice y.o.A y.o.l.length y.o.c) ∧ w'.cell? ⟨w2.heap.size, 3, none⟩ = some (.slice y.cA y.LC.length y.cc))) := hid (fun W hW => by
            refine (without_walk x.a.A x.a.c x.a.l BA Bc LB W ((HX7.out.a).below hW.1) (by have := HLN.out; omega) (HRB.out.below hW.1) HNB.out).mono ?_
            rintro e w' ⟨⟨B, d, l', rfl, h1, h2⟩, h3⟩
            exact ⟨⟨B, d, l', rfl, h1, h2.trans E2.out⟩, h3, HST.out _ _ hW h3⟩)
          have HW3 : HidP (∀ W, (Below w7.heap.size w7 W ∧ W.cell? ⟨w1.heap.size, 0, none⟩ = some (.slice x.a.A x.a.l.length x.a.c) ∧ W.cell? ⟨w1.heap.size, 1, none⟩ = some (.slice x.b.A x.b.l.length x.b.c) ∧ W.cell? ⟨w1.heap.size, 2, none⟩ = some (.slice x.o.A x.o.l.length x.o.c) ∧ W.cell? ⟨w1.heap.size, 3, none⟩ = some (.slice x.cA x.LC.length x.cc) ∧ W.cell? ⟨w2.heap.size, 0, none⟩ = some (.slice y.a.A y.a.l.length y.a.c) ∧ W.cell? ⟨w2.heap.size, 1, none⟩ = some (.slice y.b.A y.b.l.length y.b.c) ∧ W.cell? ⟨w2.heap.size, 2, none⟩ = some (.slice y.o.A y.o.l.length y.o.c) ∧ W.cell? ⟨w2.heap.size, 3, none⟩ = some (.slice y.cA y.LC.length y.cc)) → Calls Tryz.prog 23 #[.slice y.b.A y.b.l.length y.b.c, .slice BA LB.length Bc] W fun e w' => (∃ (B : Option Addr) (d : Nat) (l' : List Itm), e = .returned (.slice B l'.length d) ∧ Tr w' B d l' ∧ l'.map Itm.abs = R2) ∧ Below W.heap.size W w' ∧ (Below w7.heap.size w7 w' ∧ w'.cell? ⟨w1.heap.size, 0, none⟩ = some (.slice x.a.A x.a.l.length x.a.c) ∧ w'.cell? ⟨w1.heap.size, 1, none⟩ = some (.slice x.b.A x.b.l.length x.b.c) ∧ w'.cell? ⟨w1.heap.size, 2, none⟩ = some (.slice x.o.A x.o.l.length x.o.c) ∧ w'.cell? ⟨w1.heap.size, 3, none⟩ = some (.slice x.cA x.LC.length x.cc) ∧ w'.cell? ⟨w2.heap.size, 0, none⟩ = some (.slice y.a.A y.a.l.length y.a.c) ∧ w'.cell? ⟨w2.heap.size, 1, none⟩ = some (.slice y.b.A y.b.l.length y.b.c) ∧ w'.cell? ⟨w2.heap.size, 2, none⟩ = some (.slice y.o.A y.o.l.length y.o.c) ∧ w'.cell? ⟨w2.heap.size, 3, none⟩ = some (.slice y.cA y.LC.length y.cc))) := hid (fun W hW => by
            refine (without_walk y.b.A y.b.c y.b.l BA Bc LB W ((HY7.out.b).below hW.1) (by have := HLN.out; omega) (HRB.out.below hW.1) HNB.out).mono ?_
            rintro e w' ⟨⟨B, d, l', rfl, h1, h2⟩, h3⟩
            exact ⟨⟨B, d, l', rfl, h1, h2.trans E3.out⟩, h3, HST.out _ _ hW h3⟩)
          have HW4 : HidP (∀ W, (Below w7.heap.size w7 W ∧ W.cell? ⟨w1.heap.size, 0, none⟩ = some (.slice x.a.A x.a.l.length x.a.c) ∧ W.cell? ⟨w1.heap.size, 1, none⟩ = some (.slice x.b.A x.b.l.length x.b.c) ∧ W.cell? ⟨w1.heap.size, 2, none⟩ = some (.slice x.o.A x.o.l.length x.o.c) ∧ W.cell? ⟨w1.heap.size, 3, none⟩ = some (.slice x.cA x.LC.length x.cc) ∧ W.cell? ⟨w2.heap.size, 0, none⟩ = some (.slice y.a.A y.a.l.length y.a.c) ∧ W.cell? ⟨w2.heap.size, 1, none⟩ = some (.slice y.b.A y.b.l.length y.b.c) ∧ W.cell? ⟨w2.heap.size, 2, none⟩ = some (.slice y.o.A y.o.l.length y.o.c) ∧ W.cell? ⟨w2.heap.size, 3, none⟩ = some (.slice y.cA y.LC.length y.cc)) → Calls Tryz.prog 23 #[.slice x.b.A x.b.l.length x.b.c, .slice BA LB.length Bc] W fun e w' => (∃ (B : Option Addr) (d : Nat) (l' : List Itm), e = .returned (.slice B l'.length d) ∧ Tr w' B d l' ∧ l'.map Itm.abs = R2) ∧ Below W.heap.size W w' ∧ (Below w7.heap.size w7 w' ∧ w'.cell? ⟨w1.heap.size, 0, none⟩ = some (.slice x.a.A x.a.l.length x.a.c) ∧ w'.cell? ⟨w1.heap.size, 1, none⟩ = some (.slice x.b.A x.b.l.length x.b.c) ∧ w'.cell? ⟨w1.heap.size, 2, none⟩ = some (.slice x.o.A x.o.l.length x.o.c) ∧ w'.cell? ⟨w1.heap.size, 3, none⟩ = some (.slice x.cA x.LC.length x.cc) ∧ w'.cell? ⟨w2.heap.size, 0, none⟩ = some (.slice y.a.A y.a.l.length y.a.c) ∧ w'.cell? ⟨w2.heap.size, 1, none⟩ = some (.slice y.b.A y.b.l.length y.b.c) ∧ w'.cell? ⟨w2.heap.size, 2, none⟩ = some (.slice y.o.A y.o.l.length y.o.c) ∧ w'.cell? ⟨w2.heap.size, 3, none⟩ = some (.slice y.cA y.LC.length y.cc))) := hid (fun W hW => by
            refine (without_walk x.b.A x.b.c x.b.l BA Bc LB W ((HX7.out.b).below hW.1) (by have := HLN.out; omega) (HRB.out.below hW.1) HNB.out).mono ?_
            rintro e w' ⟨⟨B, d, l', rfl, h1, h2⟩, h3⟩
            exact ⟨⟨B, d, l', rfl, h1, h2.trans E4.out⟩, h3, HST.out _ _ hW h3⟩)
          have HSM : HidP (∀ (W : World) (C1 : Option Addr) (d1 : Nat) (m1 : List Itm) (C2 : Option Addr) (d2 : Nat) (m2 : List Itm) (RR : List AIt), Tr W C1 d1 m1 → m1.map Itm.abs = RR → Tr W C2 d2 m2 → m2.map Itm.abs = RR → (Below w7.heap.size w7 W ∧ W.cell? ⟨w1.heap.size, 0, none⟩ = some (.slice x.a.A x.a.l.length x.a.c) ∧ W.cell? ⟨w1.heap.size, 1, none⟩ = some (.slice x.b.A x.b.l.length x.b.c) ∧ W.cell? ⟨w1.heap.size, 2, none⟩ = some (.slice x.o.A x.o.l.length x.o.c) ∧ W.cell? ⟨w1.heap.size, 3, none⟩ = some (.slice x.cA x.LC.length x.cc) ∧ W.cell? ⟨w2.heap.size, 0, none⟩ = some (.slice y.a.A y.a.l.length y.a.c) ∧ W.cell? ⟨w2.heap.size, 1, none⟩ = some (.slice y.b.A y.b.l.length y.b.c) ∧ W.cell? ⟨w2.heap.size, 2, none⟩ = some (.slice y.o.A y.o.l.length y.o.c) ∧ W.cell? ⟨w2.heap.size, 3, none⟩ = some (.slice y.cA y.LC.length y.cc)) → Calls Tryz.prog 19 #[.slice C1 m1.length d1, .slice C2 m2.length d2] W fun e w' => e = .returned (.bool true) ∧ (Below w7.heap.size w7 w' ∧ w'.cell? ⟨w1.heap.size, 0, none⟩ = some (.slice x.a.A x.a.l.length x.a.c) ∧ w'.cell? ⟨w1.heap.size, 1, none⟩ = some (.slice x.b.A x.b.l.length x.b.c) ∧ w'.cell? ⟨w1.heap.size, 2, none⟩ = some (.slice x.o.A x.o.l.length x.o.c) ∧ w'.cell? ⟨w1.heap.size, 3, none⟩ = some (.slice x.cA x.LC.length x.cc) ∧ w'.cell? ⟨w2.heap.size, 0, none⟩ = some (.slice y.a.A y.a.l.length y.a.c) ∧ w'.cell? ⟨w2.heap.size, 1, none⟩ = some (.slice y.b.A y.b.l.length y.b.c) ∧ w'.cell? ⟨w2.heap.size, 2, none⟩ = some (.slice y.o.A y.o.l.length y.o.c) ∧ w'.cell? ⟨w2.heap.size, 3, none⟩ = some (.slice y.cA y.LC.length y.cc))) := hid (fun W C1 d1 m1 C2 d2 m2 RR h1 e1 h2 e2 hW => (refsame C1 C2 d1 d2 m1 m2 W h1 h2).mono (by
            rintro e w' ⟨rfl, h3⟩
            exact ⟨by rw [show sameL m1 m2 = true from decide_eq_true (e1.trans e2.symm)], HST.out _ _ hW h3⟩))
          have HAL : HidP (∀ W, (Below w7.heap.size w7 W ∧ W.cell? ⟨w1.heap.size, 0, none⟩ = some (.slice x.a.A x.a.l.length x.a.c) ∧ W.cell? ⟨w1.heap.size, 1, none⟩ = some (.slice x.b.A x.b.l.length x.b.c) ∧ W.cell? ⟨w1.heap.size, 2, none⟩ = some (.slice x.o.A x.o.l.length x.o.c) ∧ W.cell? ⟨w1.heap.size, 3, none⟩ = some (.slice x.cA x.LC.length x.cc) ∧ W.cell? ⟨w2.heap.size, 0, none⟩ = some (.slice y.a.A y.a.l.length y.a.c) ∧ W.cell? ⟨w2.heap.size, 1, none⟩ = some (.slice y.b.A y.b.l.length y.b.c) ∧ W.cell? ⟨w2.heap.size, 2, none⟩ = some (.slice y.o.A y.o.l.length y.o.c) ∧ W.cell? ⟨w2.heap.size, 3, none⟩ = some (.slice y.cA y.LC.length y.cc)) → Calls Tryz.prog 24 #[] W fun e w' => e = .returned (.bool true) ∧ (Below w7.heap.size w7 w' ∧ w'.cell? ⟨w1.heap.size, 0, none⟩ = some (.slice x.a.A x.a.l.length x.a.c) ∧ w'.cell? ⟨w1.heap.size, 1, none⟩ = some (.slice x.b.A x.b.l.length x.b.c) ∧ w'.cell? ⟨w1.heap.size, 2, none⟩ = some (.slice x.o.A x.o.l.length x.o.c) ∧ w'.cell? ⟨w1.heap.size, 3, none⟩ = some (.slice x.cA x.LC.length x.cc) ∧ w'.cell? ⟨w2.heap.size, 0, none⟩ = some (.slice y.a.A y.a.l.length y.a.c) ∧ w'.cell? ⟨w2.heap.size, 1, none⟩ = some (.slice y.b.A y.b.l.length y.b.c) ∧ w'.cell? ⟨w2.heap.size, 2, none⟩ = some (.slice y.o.A y.o.l.length y.o.c) ∧ w'.cell? ⟨w2.heap.size, 3, none⟩ = some (.slice y.cA y.LC.length y.cc))) := hid (fun W hW => (HA.out W).mono (by
            rintro e w' ⟨rfl, h3⟩
            exact ⟨rfl, HST.out _ _ hW h3⟩))
          clear hR1 hR2 p0 p1 p2 p3 s0 s1 s2 s3 z0 z1 z2 z3 hs7 hs8 hc1 hc2 hc3 hc4 HNM HG1 HG2 HG3
          go_wp2_with fail
          go_region_held3 (fun W => Below w7.heap.size w7 W ∧ W.cell? ⟨w1.heap.size, 0, none⟩ = some (.slice x.a.A x.a.l.length x.a.c) ∧ W.cell? ⟨w1.heap.size, 1, none⟩ = some (.slice x.b.A x.b.l.length x.b.c) ∧ W.cell? ⟨w1.heap.size, 2, none⟩ = some (.slice x.o.A x.o.l.length x.o.c) ∧ W.cell? ⟨w1.heap.size, 3, none⟩ = some (.slice x.cA x.LC.length x.cc) ∧ W.cell? ⟨w2.heap.size, 0, none⟩ = some (.slice y.a.A y.a.l.length y.a.c) ∧ W.cell? ⟨w2.heap.size, 1, none⟩ = some (.slice y.b.A y.b.l.length y.b.c) ∧ W.cell? ⟨w2.heap.size, 2, none⟩ = some (.slice y.o.A y.o.l.length y.o.c) ∧ W.cell? ⟨w2.heap.size, 3, none⟩ = some (.slice y.cA y.LC.length y.cc)) (assumption) (first | (refine step_callG 23 _ _ (by rfl) (by rfl) Tryz.func23 (by kernel_rfl) (by kernel_rfl) [.slice y.a.A y.a.l.length y.a.c, .slice BA LB.length Bc] (by rfl) (HW1.out _ (by assumption)) ?_; rintro e wk1 ⟨⟨B1, d1, l1, rfl, ht1, he1⟩, hk1, hK1⟩; have HT1 := hid ht1; have HE1 := hid he1; clear ht1 he1; refine ⟨_, rfl, ?_⟩) | (refine step_callG 23 _ _ (by rfl) (by rfl) Tryz.func23 (by kernel_rfl) (by kernel_rfl) [.slice x.a.A x.a.l.length x.a.c, .slice BA LB.length Bc] (by rfl) (HW2.out _ (by assumption)) ?_; rintro e wk2 ⟨⟨B2, d2, l2, rfl, ht2, he2⟩, hk2, hK2⟩; replace HT1 := hid (HT1.out.below hk2); have HT2 := hid ht2; have HE2 := hid he2; clear ht2 he2; refine ⟨_, rfl, ?_⟩) | (refine step_callG 23 _ _ (by rfl) (by rfl) Tryz.func23 (by kernel_rfl) (by kernel_rfl) [.slice y.b.A y.b.l.length y.b.c, .slice BA LB.length Bc] (by rfl) (HW3.out _ (by assumption)) ?_; rintro e wk3 ⟨⟨B3, d3, l3, rfl, ht3, he3⟩, hk3, hK3⟩; have HT3 := hid ht3; have HE3 := hid he3; clear ht3 he3; refine ⟨_, rfl, ?_⟩) | (refine step_callG 23 _ _ (by rfl) (by rfl) Tryz.func23 (by kernel_rfl) (by kernel_rfl) [.slice x.b.A x.b.l.length x.b.c, .slice BA LB.length Bc] (by rfl) (HW4.out _ (by assumption)) ?_; rintro e wk4 ⟨⟨B4, d4, l4, rfl, ht4, he4⟩, hk4, hK4⟩; replace HT3 := hid (HT3.out.below hk4); have HT4 := hid ht4; have HE4 := hid he4; clear ht4 he4; refine ⟨_, rfl, ?_⟩) | (refine step_callG 19 _ _ (by rfl) (by rfl) Tryz.func19 (by kernel_rfl) (by kernel_rfl) [.slice B1 l1.length d1, .slice B2 l2.length d2] (by rfl) (HSM.out _ _ _ _ _ _ _ _ HT1.out HE1.out HT2.out HE2.out (by assumption)) ?_; rintro e wk5 ⟨rfl, hK5⟩; refine ⟨_, rfl, ?_⟩) | (refine step_callG 19 _ _ (by rfl) (by rfl) Tryz.func19 (by kernel_rfl) (by kernel_rfl) [.slice B3 l3.length d3, .slice B4 l4.length d4] (by rfl) (HSM.out _ _ _ _ _ _ _ _ HT3.out HE3.out HT4.out HE4.out (by assumption)) ?_; rintro e wk6 ⟨rfl, hK6⟩; refine ⟨_, rfl, ?_⟩) | (refine step_callG 24 _ _ (by rfl) (by rfl) Tryz.func24 (by kernel_rfl) (by kernel_rfl) [] (by rfl) (HAL.out _ (by assumption)) ?_; rintro e wk9 ⟨rfl, hK9⟩; refine ⟨_, rfl, ?_⟩))
          have hfin := thenB HB7.out hK9.1
          clear HW1 HW2 HW3 HW4 HSM HAL HST
          go_wp2_with fail
          go_ret
          exact ⟨rfl, hfin⟩
theorem policyagrees_card (A0 : Option Addr) (c0 : Nat) (l0 : List Itm) (A1 : Option Addr) (c1 : Nat) (l1 : List Itm) (A2 : Option Addr) (c2 : Nat) (l2 : List Itm) (how : Int) (w : World) (q0 : TrQ w A0 c0 l0) (q1 : TrQ w A1 c1 l1) (q2 : TrQ w A2 c2 l2) (_ : (Lit.int IntKind.i64 how).wf = true) :
    Calls Tryz.prog 7 #[.slice A0 l0.length c0, .slice A1 l1.length c1, .slice A2 l2.length c2, .int .i64 how] w fun e w' => e = .returned (.bool true) ∧ Below w.heap.size w w' := policyagrees_walk ⟨A0, c0, l0⟩ ⟨A1, c1, l1⟩ ⟨A2, c2, l2⟩ how w q0 q1 q2
end Go.Proofs.YtfbbjfbnkcklgaaGreatDoor

/-
  The statement PolicyAgrees: conflicts of what Merge answers, settled in any one way, leave the trees as they should be.
  The frame is the guide's (howto/shells/proof-skeleton.mjs; a pinned table: its worked Pinup), turned by a program of this session.
-/
namespace Go.Proofs.YtfbbjfbnkcklgaaGreatDoor.policyAgrees
open Go.ChangeShapes Go.WideShapes Go.ChangeAt Go.RowKit
open Go.ChangeMaps (open_string shut_string)
set_option linter.unusedVariables false

theorem own : ownKnob Tryz.prog.godebug = none := by kernel_rfl
theorem laidOut : laidOutB Tryz.prog = true := by kernel_rfl

set_option maxRecDepth 100000 in
theorem lifted (os : Os) (started : os.Started) (H : Type) (enc : TypeId × Value → H) :
    ReturnsInHanded {} Tryz.checked os 7 .any (fun w args => (Rows.policyAgreesSpec.pre enc Tryz.prog Tryz.f7 Rows.policyAgreesRow.domain false w args ∧ laidMetH Tryz.prog Rows.policyAgreesRow.laid w) ∧ sizedMet enc Tryz.prog Tryz.f7 (OpenSpec.ofChange Rows.policyAgreesSpec) false w args)
      (Rows.policyAgreesSpec.post enc Tryz.prog Tryz.f7 false true false false) := by
  refine returnsInHanded_of_change_and (C := Tryz.checked) (X := fun w _ => laidMetH Tryz.prog Rows.policyAgreesRow.laid w) (fun _ _ _ hh h => h.of_heap hh) own started (by kernel_rfl) Tryz.func7
    (ChangeSpec.witness_shaped (enc := enc) (C := Tryz.checked) (os := os) (X := fun w _ => laidMetH Tryz.prog Rows.policyAgreesRow.laid w) false (World.laidAll Tryz.prog os Rows.policyAgreesRow.laid) #[.slice none 0 0, .slice none 0 0, .slice none 0 0, .int .i64 0] 8 (World.laidAll_os _ _ _)
      (World.shaped_of_ZipB (by kernel_rfl) (by kernel_rfl)) (by kernel_rfl) (by kernel_rfl) (by kernel_rfl)
      (by rw [MakeChecks.laidMetH_plain _ _ _ (by kernel_rfl)]; exact laidMet_laidAll _ (by kernel_rfl) (by kernel_rfl))) ?_
  intro W base args ds gs before hval0 hW hcnd hsz0 _ _
  have hsz : (DataW.weightsEach Tryz.prog (Tryz.f7.params.toList ++ Rows.policyAgreesSpec.plain.varTypes Tryz.prog) (ds ++ gs)).all (· ≤ reachBytes) = true := hsz0
  have hval : ∀ (j : Nat) t v, Tryz.f7.params[j]? = some t → args[j]? = some v → Value.okWide Tryz.prog W .any base t v := hval0
  have hW' := hW
  obtain ⟨p, q, hA0, hV, rfl, hfz, hnd⟩ := hW
  have hA : DataW.TrodAll enc Tryz.prog W 0 (fun _ => true) true Tryz.f7.params.toList args.toList ds p := hA0
  rw [Tryz.params7] at hA hval hsz
  obtain ⟨v0, vs0, d0, ds0, p0, q0, hargs, rfl, rfl, h0, r0⟩ := trodAll_cons hA
  obtain ⟨v1, vs1, d1, ds1, p1, q1, rfl, rfl, rfl, h1, r1⟩ := trodAll_cons r0
  obtain ⟨v2, vs2, d2, ds2, p2, q2, rfl, rfl, rfl, h2, r2⟩ := trodAll_cons r1
  obtain ⟨v3, vs3, d3, ds3, p3, q3, rfl, rfl, rfl, h3, r3⟩ := trodAll_cons r2
  obtain ⟨rfl, rfl, rfl⟩ := trodAll_nil r3
  obtain rfl : args = #[v0, v1, v2, v3] := by cases args; simp_all
  obtain ⟨rfl, rfl⟩ := trodVars_none hV
  have k0 := h0
  have lt0 : ∀ x ∈ p0, x.block < W.heap.size := by obtain ⟨m, hm⟩ := k0; exact DataW.trod_lt m _ _ _ hm
  obtain ⟨A0, n0, c0, rfl, _⟩ := okWide_slice Tryz.underlying22 (hval 0 22 v0 rfl rfl)
  obtain ⟨fu0, hf0⟩ := h0
  obtain ⟨l0, e0, w0⟩ := open_items hf0
  subst e0
  have k1 := h1
  have lt1 : ∀ x ∈ p1, x.block < W.heap.size := by obtain ⟨m, hm⟩ := k1; exact DataW.trod_lt m _ _ _ hm
  obtain ⟨A1, n1, c1, rfl, _⟩ := okWide_slice Tryz.underlying22 (hval 1 22 v1 rfl rfl)
  obtain ⟨fu1, hf1⟩ := h1
  obtain ⟨l1, e1, w1⟩ := open_items hf1
  subst e1
  have k2 := h2
  have lt2 : ∀ x ∈ p2, x.block < W.heap.size := by obtain ⟨m, hm⟩ := k2; exact DataW.trod_lt m _ _ _ hm
  obtain ⟨A2, n2, c2, rfl, _⟩ := okWide_slice Tryz.underlying22 (hval 2 22 v2 rfl rfl)
  obtain ⟨fu2, hf2⟩ := h2
  obtain ⟨l2, e2, w2⟩ := open_items hf2
  subst e2
  obtain ⟨a3, rfl, rfl, rfl, w3⟩ := open_int Tryz.underlying3 (hval 3 3 v3 rfl rfl) h3
  clear hA0 hval0 hsz0 hsz
  refine (policyagrees_card A0 c0 l0 A1 c1 l1 A2 c2 l2 a3 W w0 w1 w2 w3).mono fun e W' ⟨he, bel⟩ => ?_
  subst he
  exact ⟨_, rfl, _, _, _, [], _, [], hW', trodAll_mk1 (shut_bool Tryz.underlying4 _), (trodAll_cons_mk (Below.trod laidOut (by kernel_rfl) (of_decide_eq_true (by kernel_rfl)) k0 bel lt0) (trodAll_cons_mk (Below.trod laidOut (by kernel_rfl) (of_decide_eq_true (by kernel_rfl)) k1 bel lt1) (trodAll_cons_mk (Below.trod laidOut (by kernel_rfl) (of_decide_eq_true (by kernel_rfl)) k2 bel lt2) (trodAll_cons_mk (shut_int Tryz.underlying3 w3) trodAll_mk0)))), rfl, bel.frame _, fun h => by cases h⟩

theorem over : Rows.policyAgreesRow.holds Tryz.pinned (OpenSpec.ofChange Rows.policyAgreesSpec) :=
  OpenClaim.holds_of_wide 7 Tryz.f7 rfl rfl rfl rfl rfl rfl rfl ⟨rfl, rfl, rfl, rfl, rfl⟩ rfl rfl rfl rfl rfl (by kernel_rfl) Tryz.func7 (by kernel_rfl)
    (of_decide_eq_true (by kernel_rfl)) (by unfold Func.isWrapper; first | (rw [if_pos (by decide +kernel)]; kernel_rfl) | (rw [if_neg (by decide +kernel)]; exact ⟨rfl, rfl⟩))
    (fun os started H enc _ => lifted os started H enc)

/-- The statement: the tied card. -/
theorem proved : Rows.PolicyAgreesCardSaid :=
  Claim7.holds_tied_plain_at .later [] [.data, .pinned] true (true, "113ac5747d96575fbcda31e55d5310c6f3f1c21629f2a8cd29e1ac263b5f2cd5") true over (fun _ h => by cases h) (by kernel_rfl) (fun _ h => by cases h) policyAgrees_row_tie rfl ⟨rfl, rfl⟩ (by kernel_rfl) rfl
    (fun f fn hf hfn => by
      obtain rfl : f = 7 := Option.some.inj ((show Tryz.prog.funcNamed "hayloft/hayloftlaw23.PolicyAgrees" = some 7 by kernel_rfl).symm.trans hf) |>.symm
      obtain rfl : fn = Tryz.f7 := (Option.some.inj (Tryz.func7.symm.trans hfn)).symm
      exact ⟨by kernel_rfl, fun j t ht => by
        rw [Tryz.params7] at ht
        have hm : t ∈ [22, 22, 22, 3] := by simpa using Array.mem_of_getElem? ht
        have hall : ([22, 22, 22, 3].all fun u => !Tryz.prog.wantsStandIn u) = true := by kernel_rfl
        exact (show Tryz.prog.wantsStandIn t = false by have h := List.all_eq_true.1 hall t hm; simpa using h)⟩)
    (by kernel_rfl)
#print axioms proved
end Go.Proofs.YtfbbjfbnkcklgaaGreatDoor.policyAgrees
