/- the chapter's example: alive -/
import Derived.Test.YtfoedcmcdpekoaaDoorM3
import Derived.Lib.SlBytesConst
namespace Go.Proofs.YtfoedcmcdpekoaaDoor
open Go.RowKit

theorem toList_lit (a : Array UInt8) : (⟨a⟩ : ByteArray).toList = a.toList := ByteArray.toList_eq _
def exT1 : List AIt := [⟨[97], true, []⟩]
def exT2 : List AIt := [⟨[97], true, []⟩, ⟨[97, 47, 98], false, [120]⟩]
theorem ex_mkdir : mkdirA [] [97] = (exT1, 0) := by decide
theorem ex_write : writeA exT1 [97, 47, 98] [120] = (exT2, 0) := by decide
theorem ex_find : findA exT2 [97, 47, 98] = some ⟨[97, 47, 98], false, [120]⟩ := by decide
theorem ex_under : (underA exT2 [97]).length = 2 := by decide
theorem ex_right : rightA exT2 = true := by decide

set_option maxRecDepth 100000 in
set_option maxHeartbeats 4000000 in
theorem alive_walk (w : World) : Calls Tryd.prog 8 #[] w fun e w' => e = .returned (.bool true) ∧ Below w.heap.size w w' := by
  have HM := hid (mkdir_walk none 0 [] ⟨#[97]⟩ w (Tr.none w) (by show (1 : Nat) ≤ _; omega))
  go_enter Tryd.func8, Tryd.ntmps8
  go_wp2_with fail
  refine HM.out.mono ?_
  rintro e w1 ⟨⟨B, d, t1, f, rfl, ht1, h1⟩, hb1⟩
  rw [toList_lit, List.map_nil, ex_mkdir] at h1
  obtain ⟨e1, rfl⟩ := Prod.mk.inj h1
  have H1 := hid e1
  clear h1 e1
  have hba := thenA hb1 (.cells #[.int .u8 120] 5 (1, 2))
  have hsb : Src (w1.alloc (.cells #[.int .u8 120] 5 (1, 2))) 1 (.slice (some ⟨w1.heap.size, 0, none⟩) 1 1) (nums [120]) := ⟨_, 1, 1, rfl, rfl, Nat.le_refl _, (fun h => nomatch h), fun j u hj => ⟨_, rfl, by
    rw [add_lit', Nat.zero_add, cell_of_row _ _ _ _ _ _ (heap_alloc_new w1 (.cells #[.int .u8 120] 5 (1, 2)))]
    simpa [nums] using hj⟩⟩
  have hgw : Good (w1.alloc (.cells #[.int .u8 120] 5 (1, 2))) ⟨⟨#[97, 47, 98]⟩, false, some ⟨w1.heap.size, 0, none⟩, 1, [120]⟩ := ⟨by show (3 : Nat) ≤ _; omega, by simp, hsb, by simp⟩
  have HW := hid (write_walk B d t1 ⟨#[97, 47, 98]⟩ (some ⟨w1.heap.size, 0, none⟩) 1 [120] _ (ht1.below (thenA (Below.refl _ w1) _)) hgw)
  have kc := Lib.run_convert_bytes_const (P := Tryd.prog) w1 28 5 #[.int .u8 120] 1 1 Tryd.underlying28 Tryd.underlying5
  clear hsb hgw ht1
  go_wp2_with fail
  refine HW.out.mono ?_
  rintro e w2 ⟨⟨B2, d2, t2, f, rfl, ht2, h2⟩, hb2⟩
  rw [toList_lit, H1.out, ex_write] at h2
  obtain ⟨e2, rfl⟩ := Prod.mk.inj h2
  have H2 := hid e2
  clear h2 e2
  replace hb2 := thenB hba hb2
  have HF := hid (find_walk B2 d2 t2 ⟨#[97, 47, 98]⟩ w2 ht2)
  go_wp2_with fail
  refine HF.out.mono ?_
  rintro e w3 ⟨⟨x, is, rfl, hgx, _, hfx⟩, hb3⟩
  obtain ⟨hi, hx⟩ := hfx (sortedI_of (by rw [H2.out]; exact right_sorted ex_right))
  rw [H2.out, toList_lit, ex_find] at hi hx
  obtain rfl : is = true := hi.symm
  have hxa := Option.some.inj (hx rfl)
  have hxb : x.bs = [120] := by have := congrArg AIt.b hxa; exact this.symm
  have hst := (hgx.below (thenA (Below.refl _ w3) (.cells #[.string x.p, .bool x.d, .slice x.dA x.bs.length x.dc] 30 (0, 0)))).src.string
  rw [hxb] at hst
  have hss : ((strOfNums [120]).toList == [120]) = true := by unfold strOfNums; rw [toList_lit]; rfl
  have ht3 := ht2.below hb3
  replace hb3 := thenB hb2 hb3
  have hba3 := thenA hb3 (.cells #[.string x.p, .bool x.d, .slice x.dA x.bs.length x.dc] 30 (0, 0))
  have HU := hid (under_walk B2 d2 t2 ⟨#[97]⟩ _ (ht3.below (thenA (Below.refl _ w3) (.cells #[.string x.p, .bool x.d, .slice x.dA x.bs.length x.dc] 30 (0, 0)))))
  rw [hxb] at hba3 HU
  simp only [hxb]
  clear hi hx hxa hfx hgx hxb
  generalize strOfNums [120] = S at *
  simp only [List.length_cons, List.length_nil, Nat.zero_add] at hst hba3 HU
  go_wp2_with fail
  refine HU.out.mono ?_
  rintro e w4 ⟨⟨B4, d4, t4, rfl, _, h4⟩, hb4⟩
  have hl4 : t4.length = 2 := by
    have h5 := congrArg List.length h4
    rw [List.length_map, H2.out, toList_lit] at h5
    rw [h5]; exact ex_under
  clear h4
  replace hb4 := thenB hba3 hb4
  go_wp2_with fail
  go_ret
  exact ⟨rfl, hb4⟩

end Go.Proofs.YtfoedcmcdpekoaaDoor

/- TreePaths: the walk -/
namespace Go.Proofs.YtfoedcmcdpekoaaDoor
open Go.RowKit

set_option maxRecDepth 100000 in
set_option maxHeartbeats 4000000 in
theorem treepaths_walk (s : ByteArray) (w : World) (hs : s.size ≤ 140737488351232) : Calls Tryd.prog 3 #[.string s] w fun e w' => e = .returned (.bool true) ∧ Below w.heap.size w w' := by
  have HA := hid alive_walk
  by_cases h250 : s.size > 250
  · have g1 : decide ((s.size : Int) > 250) = true := decide_eq_true (by omega)
    go_enter Tryd.func3, Tryd.ntmps3
    go_wp2_with fail
    refine (HA.out _).mono ?_
    rintro e w1 ⟨rfl, hb1⟩
    go_wp2_with fail
    go_ret
    exact ⟨rfl, hb1⟩
  have g1 : decide ((s.size : Int) > 250) = false := decide_eq_false (by omega)
  have H1 := hid (fun W => split_walk s W hs)
  have H2 := hid (fun W => refsplit s W hs)
  have H3 := hid (part_walk s)
  have H4 := hid (fun W => refpart s W hs)
  have H5 := hid (path_walk s hs)
  have H6 := hid (refpath s)
  generalize splitL s.toList = SP at *
  generalize partB s.toList = PB at *
  generalize pathB s.toList = QB at *
  go_enter Tryd.func3, Tryd.ntmps3
  go_wp2_with fail
  refine (H1.out _).mono ?_
  rintro e w1 ⟨⟨d1, n1, rfl, e1⟩, hb1⟩
  replace e1 := hid e1
  go_wp2_with fail
  refine (H2.out _).mono ?_
  rintro e w2 ⟨⟨d2, n2, rfl, e2⟩, hb2⟩
  replace hb2 := thenB hb1 hb2
  obtain ⟨e3, e4⟩ := Prod.mk.inj (e1.out.trans e2.symm)
  have g2 : (d1.toList == d2.toList) = true := by simp [e3]
  have g3 : (n1.toList == n2.toList) = true := by simp [e4]
  clear e3 e4 e1 e2
  go_wp2_with fail
  refine (H3.out _).mono ?_
  rintro e w3 ⟨rfl, hb3⟩
  replace hb3 := thenB hb2 hb3
  go_wp2_with fail
  refine (H4.out _).mono ?_
  rintro e w4 ⟨rfl, rfl⟩
  go_wp2_with fail
  refine (H5.out _).mono ?_
  rintro e w5 ⟨rfl, hb5⟩
  replace hb5 := thenB hb3 hb5
  go_wp2_with fail
  refine (H6.out _).mono ?_
  rintro e w6 ⟨rfl, hb6⟩
  replace hb6 := thenB hb5 hb6
  go_wp2_with fail
  refine (HA.out _).mono ?_
  rintro e w7 ⟨rfl, hb7⟩
  replace hb7 := thenB hb6 hb7
  go_wp2_with fail
  go_ret
  exact ⟨rfl, hb7⟩

end Go.Proofs.YtfoedcmcdpekoaaDoor
