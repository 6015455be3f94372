/- TreeLooks: the walk -/
import Derived.Test.YtfoedcmcdpekoaaDoorN3
namespace Go.Proofs.YtfoedcmcdpekoaaDoor
open Go.RowKit

theorem bytes_light {l : List Itm} {n : Nat} (h : lightB l n = true) : bytesA (l.map Itm.abs) ≤ n * 2100 := by
  unfold lightB at h
  rw [Bool.and_eq_true] at h
  have h1 := of_decide_eq_true h.1
  have h2 := h.2
  clear h
  have key : ∀ l : List Itm, (l.all fun x => decide (x.p.size ≤ 250) && decide (x.bs.length ≤ 2100)) = true → bytesA (l.map Itm.abs) ≤ l.length * 2100 := by
    intro l
    induction l with
    | nil => intro _; exact Nat.zero_le _
    | cons x r ih =>
      intro h
      rw [List.all_cons, Bool.and_eq_true] at h
      have h3 := ih h.2
      have h4 := h.1
      simp only [Bool.and_eq_true, decide_eq_true_eq] at h4
      unfold bytesA at h3 ⊢
      simp only [List.map_cons, List.sum_cons, List.length_cons]
      show x.bs.length + _ ≤ _
      omega
  exact Nat.le_trans (key l h2) (Nat.mul_le_mul_right _ h1)

theorem reffind_item (A : Option Addr) (c : Nat) (l : List Itm) (q : ByteArray) (w : World) (h : Tr w A c l) :
    Calls Tryd.prog 17 #[.slice A l.length c, .string q] w fun e w' => (∃ x : Itm, ∃ is : Bool, e = .returned (.tuple #[.agg #[.string x.p, .bool x.d, .slice x.dA x.bs.length x.dc], .bool is]) ∧ Good w' x ∧ (is = false → x.abs = ⟨[], false, []⟩) ∧
      (findA (l.map Itm.abs) q.toList).isSome = is ∧ (is = true → findA (l.map Itm.abs) q.toList = some x.abs)) ∧ Below w.heap.size w w' := by
  refine (reffind A c l q w h).mono ?_
  rw [find_abs]
  rintro e w' ⟨hb, (⟨x, hx, rfl⟩ | ⟨hx, rfl⟩)⟩
  · exact ⟨⟨x, true, rfl, (h.good x (List.mem_of_find?_eq_some hx)).below hb, (fun h => nomatch h), by rw [hx]; rfl, fun _ => by rw [hx]; rfl⟩, hb⟩
  · exact ⟨⟨⟨⟨#[]⟩, false, none, 0, []⟩, false, rfl, ⟨Nat.zero_le _, by simp, (Row.nil w' 5 1).src, by simp⟩, fun _ => by unfold Itm.abs; rw [ByteArray.toList_eq], by rw [hx]; rfl, (fun h => nomatch h)⟩, hb⟩

set_option maxRecDepth 100000 in
set_option maxHeartbeats 8000000 in
theorem treelooks_walk (A : Option Addr) (c : Nat) (l : List Itm) (B : Option Addr) (d : Nat) (m : List Itm) (q : ByteArray) (w : World) (hT : TrQ w A c l) (hU : TrQ w B d m) (hq : q.size ≤ 140737488351232) :
    Calls Tryd.prog 4 #[.slice A l.length c, .slice B m.length d, .string q] w fun e w' => e = .returned (.bool true) ∧ Below w.heap.size w w' := by
  have HA := hid alive_walk
  have HL : HidP (Calls Tryd.prog 15 #[.slice A l.length c, .int .i64 30] w fun e w' => e = .returned (.bool (lightB l 30)) ∧ w = w') := hid (light_walk A c l 30 w hT.toTrW (by omega))
  have HM : HidP (Calls Tryd.prog 15 #[.slice B m.length d, .int .i64 30] w fun e w' => e = .returned (.bool (lightB m 30)) ∧ w = w') := hid (light_walk B d m 30 w hU.toTrW (by omega))
  cases h1 : lightB l 30
  · rw [h1] at HL
    go_enter Tryd.func4, Tryd.ntmps4
    go_wp2_with fail
    refine HL.out.mono ?_
    rintro e w1 ⟨rfl, rfl⟩
    go_wp2_with fail
    refine (HA.out _).mono ?_
    rintro e w1 ⟨rfl, hb1⟩
    go_wp2_with fail
    go_ret
    exact ⟨rfl, hb1⟩
  rw [h1] at HL
  cases h2 : lightB m 30
  · rw [h2] at HM
    go_enter Tryd.func4, Tryd.ntmps4
    go_wp2_with fail
    refine HL.out.mono ?_
    rintro e w1 ⟨rfl, rfl⟩
    go_wp2_with fail
    refine HM.out.mono ?_
    rintro e w1 ⟨rfl, rfl⟩
    go_wp2_with fail
    refine (HA.out _).mono ?_
    rintro e w1 ⟨rfl, hb1⟩
    go_wp2_with fail
    go_ret
    exact ⟨rfl, hb1⟩
  rw [h2] at HM
  by_cases h3 : q.size > 250
  · have g3 : decide ((q.size : Int) > 250) = true := decide_eq_true (by omega)
    go_enter Tryd.func4, Tryd.ntmps4
    go_wp2_with fail
    refine HL.out.mono ?_
    rintro e w1 ⟨rfl, rfl⟩
    go_wp2_with fail
    refine HM.out.mono ?_
    rintro e w1 ⟨rfl, rfl⟩
    go_wp2_with fail
    refine (HA.out _).mono ?_
    rintro e w1 ⟨rfl, hb1⟩
    go_wp2_with fail
    go_ret
    exact ⟨rfl, hb1⟩
  have g3 : decide ((q.size : Int) > 250) = false := decide_eq_false (by omega)
  have ht := hT.tr h1 (by omega)
  have hu := hU.tr h2 (by omega)
  have HT := hid ht
  have HU := hid hu
  have HBY := hid (bytes_light h1)
  have hll : l.length ≤ 30 := by
    unfold lightB at h1
    rw [Bool.and_eq_true] at h1
    exact of_decide_eq_true h1.1
  clear hT hU ht hu
  obtain ⟨R, hR⟩ : ∃ R, rightA (l.map Itm.abs) = R := ⟨_, rfl⟩
  have HRR := hid hR
  obtain ⟨S, hS⟩ : ∃ S, sameL l m = S := ⟨_, rfl⟩
  have HSS := hid hS
  clear hR hS
  go_enter Tryd.func4, Tryd.ntmps4
  go_wp2_with fail
  refine HL.out.mono ?_
  rintro e w1 ⟨rfl, rfl⟩
  go_wp2_with fail
  refine HM.out.mono ?_
  rintro e w1 ⟨rfl, rfl⟩
  go_wp2_with fail
  refine (find_walk A c l q _ HT.out).mono ?_
  rintro e w1 ⟨⟨x, is, rfl, hgx, hx0, hfx⟩, hb1⟩
  replace hx0 := hid hx0
  replace hfx := hid hfx
  go_wp2_with fail
  have hb1' := thenA hb1 (.cells #[.string x.p, .bool x.d, .slice x.dA x.bs.length x.dc] 30 (0, 0))
  have hx1 := heap_alloc_new w1 (.cells #[.string x.p, .bool x.d, .slice x.dA x.bs.length x.dc] 30 (0, 0))
  have hgx1 := hgx.below (thenA (Below.refl _ w1) (.cells #[.string x.p, .bool x.d, .slice x.dA x.bs.length x.dc] 30 (0, 0)))
  refine (reffind_item A c l q _ (HT.out.below hb1')).mono ?_
  rintro e w2 ⟨⟨y, was, rfl, hgy, hy0, hwas, hfy⟩, hb2⟩
  replace hy0 := hid hy0
  replace hwas := hid hwas
  replace hfy := hid hfy
  have hx2 := (hb2.block _ (blkLt hx1)).trans hx1
  have hgx2 := hgx1.below hb2
  have hb2' := thenB hb1' hb2
  go_wp2_with fail
  have hb3' := thenA hb2' (.cells #[.string y.p, .bool y.d, .slice y.dA y.bs.length y.dc] 30 (0, 0))
  have hy3 := heap_alloc_new w2 (.cells #[.string y.p, .bool y.d, .slice y.dA y.bs.length y.dc] 30 (0, 0))
  have hba3 := thenA (Below.refl _ w2) (.cells #[.string y.p, .bool y.d, .slice y.dA y.bs.length y.dc] 30 (0, 0))
  have hx3 := (hba3.block _ (blkLt hx2)).trans hx2
  have hgx3 := hgx2.below hba3
  have hgy3 := hgy.below hba3
  have hlt3 : w1.heap.size < w2.heap.size := blkLt hx2
  generalize w2.alloc (.cells #[.string y.p, .bool y.d, .slice y.dA y.bs.length y.dc] 30 (0, 0)) = w3 at *
  refine (refright A c l w3 (HT.out.below hb3')).mono ?_
  rw [HRR.out]
  rintro e w4 ⟨rfl, hb4⟩
  have hb4' := thenB hb3' hb4
  have hx4 := (hb4.block _ (blkLt hx3)).trans hx3
  have hy4 := (hb4.block _ (blkLt hy3)).trans hy3
  have hgx4 := hgx3.below hb4
  have hgy4 := hgy3.below hb4
  go_wp2_with fail
  refine (right_walk A c l w4 (HT.out.below hb4')).mono ?_
  rw [HRR.out]
  rintro e w5 ⟨rfl, hb5⟩
  have hb5' := thenB hb4' hb5
  have hx5 := (hb5.block _ (blkLt hx4)).trans hx4
  have hy5 := (hb5.block _ (blkLt hy4)).trans hy4
  have hgx5 := hgx4.below hb5
  have hgy5 := hgy4.below hb5
  go_wp2_with fail
  refine (tsame_walk A B c d l m w5 (HT.out.below hb5') (HU.out.below hb5')).mono ?_
  rw [HSS.out]
  rintro e w6 ⟨rfl, hb6⟩
  have hb6' := thenB hb5' hb6
  have hx6 := (hb6.block _ (blkLt hx5)).trans hx5
  have hy6 := (hb6.block _ (blkLt hy5)).trans hy5
  have hgx6 := hgx5.below hb6
  have hgy6 := hgy5.below hb6
  go_wp2_with fail
  refine (refsame A B c d l m w6 (HT.out.below hb6') (HU.out.below hb6')).mono ?_
  rw [HSS.out]
  rintro e w7 ⟨rfl, hb7⟩
  have hb7' := thenB hb6' hb7
  have hx7 := (hb7.block _ (blkLt hx6)).trans hx6
  have hy7 := (hb7.block _ (blkLt hy6)).trans hy6
  have hgx7 := hgx6.below hb7
  have hgy7 := hgy6.below hb7
  clear hx1 hx2 hx3 hx4 hx5 hx6 hy3 hy4 hy5 hy6 hgx hgy hgx1 hgx2 hgx3 hgx4 hgx5 hgx6 hgy3 hgy4 hgy5 hgy6 hb1 hb2 hb4 hb5 hb6 hb7 hb1' hb2' hb3' hb4' hb5' hb6' hba3
  have HB1 := hid (fun W (hW : Below w.heap.size w W) => bytes_walk A c l W (HT.out.below hW) (by have := HBY.out; omega))
  have HB2 := hid (fun W (hW : Below w.heap.size w W) => refbytes A c l W (HT.out.below hW) (by have := HBY.out; omega))
  generalize bytesA (l.map Itm.abs) = NB at *
  go_wp2_with fail
  refine (HB1.out _ hb7').mono ?_
  rintro e w8 ⟨rfl, hb8⟩
  have hb8' := thenB hb7' hb8
  have hx8 := (hb8.block _ (blkLt hx7)).trans hx7
  have hy8 := (hb8.block _ (blkLt hy7)).trans hy7
  have hgx8 := hgx7.below hb8
  have hgy8 := hgy7.below hb8
  go_wp2_with fail
  refine (HB2.out _ hb8').mono ?_
  rintro e w9 ⟨rfl, rfl⟩
  go_wp2_with fail
  refine (under_walk A c l q _ (HT.out.below hb8')).mono ?_
  rintro e w10 ⟨⟨C1, u1, l1, rfl, ht1, hm1⟩, hb10⟩
  replace hm1 := hid hm1
  have hb10' := thenB hb8' hb10
  have hx10 := (hb10.block _ (blkLt hx8)).trans hx8
  have hy10 := (hb10.block _ (blkLt hy8)).trans hy8
  have hgx10 := hgx8.below hb10
  have hgy10 := hgy8.below hb10
  go_wp2_with fail
  refine (refunder A c l q _ (HT.out.below hb10') hq).mono ?_
  rintro e w11 ⟨⟨C2, u2, rfl, ht2⟩, hb11⟩
  have hb11' := thenB hb10' hb11
  have hx11 := (hb11.block _ (blkLt hx10)).trans hx10
  have hy11 := (hb11.block _ (blkLt hy10)).trans hy10
  have hgx11 := hgx10.below hb11
  have hgy11 := hgy10.below hb11
  have hsl : sameL l1 (l.filter fun x => withinA q.toList x.p.toList) = true := by
    unfold sameL
    refine decide_eq_true ?_
    rw [hm1.out]
    unfold underA
    rw [List.filter_map]
    rfl
  have HSM := refsame C1 C2 u1 u2 l1 _ w11 (ht1.below hb11) ht2
  rw [hsl] at HSM
  replace HSM := hid HSM
  clear hsl hx7 hx8 hx10 hy7 hy8 hy10 hgx7 hgx8 hgx10 hgy7 hgy8 hgy10 hb7' hb8' hb8 hb10 hb10' ht1 ht2 hb11
  go_wp2_with fail
  refine HSM.out.mono ?_
  rintro e w12 ⟨rfl, hb12⟩
  have hb12' := thenB hb11' hb12
  have hx12 := (hb12.block _ (blkLt hx11)).trans hx11
  have hy12 := (hb12.block _ (blkLt hy11)).trans hy11
  have hgx12 := hgx11.below hb12
  have hgy12 := hgy11.below hb12
  have a0 : w12.cell? ⟨w1.heap.size, 0, none⟩ = some (.string x.p) := (blkCell hx12 0).trans rfl
  have a1 : w12.cell? ⟨w1.heap.size, 1, none⟩ = some (.bool x.d) := (blkCell hx12 1).trans rfl
  have a2 : w12.cell? ⟨w1.heap.size, 2, none⟩ = some (.slice x.dA x.bs.length x.dc) := (blkCell hx12 2).trans rfl
  have b0 : w12.cell? ⟨w2.heap.size, 0, none⟩ = some (.string y.p) := (blkCell hy12 0).trans rfl
  have b1 : w12.cell? ⟨w2.heap.size, 1, none⟩ = some (.bool y.d) := (blkCell hy12 1).trans rfl
  have b2 : w12.cell? ⟨w2.heap.size, 2, none⟩ = some (.slice y.dA y.bs.length y.dc) := (blkCell hy12 2).trans rfl
  have HSI := hid (refsameitem x y w12 hgx12 hgy12)
  clear hx11 hx12 hy11 hy12 hgx11 hgx12 hgy11 hgy12 hb12 hb11' HSM
  cases R
  · go_wp2_with fail
    refine (HA.out _).mono ?_
    rintro e w13 ⟨rfl, hb13⟩
    replace hb13 := thenB hb12' hb13
    go_wp2_with fail
    go_ret
    exact ⟨rfl, hb13⟩
  · have hso := sortedI_of (right_sorted HRR.out)
    obtain ⟨e1, e2⟩ := hfx.out hso
    obtain rfl : is = was := e1.symm.trans hwas.out
    have hab : x.abs = y.abs := by
      cases is
      · rw [hx0.out rfl, hy0.out rfl]
      · exact Option.some.inj ((e2 rfl).symm.trans (hfy.out rfl))
    have hsi : sameI x y = true := by rw [sameI_abs, decide_eq_true hab]
    have HSI2 := HSI.out
    rw [hsi] at HSI2
    replace HSI2 := hid HSI2
    clear e1 e2 hab hsi hso HSI
    go_wp2_with fail
    refine HSI2.out.mono ?_
    rintro e w13 ⟨rfl, hb13⟩
    replace hb13 := thenB hb12' hb13
    go_wp2_with fail
    refine (HA.out _).mono ?_
    rintro e w14 ⟨rfl, hb14⟩
    replace hb14 := thenB hb13 hb14
    go_wp2_with fail
    go_ret
    exact ⟨rfl, hb14⟩

end Go.Proofs.YtfoedcmcdpekoaaDoor
