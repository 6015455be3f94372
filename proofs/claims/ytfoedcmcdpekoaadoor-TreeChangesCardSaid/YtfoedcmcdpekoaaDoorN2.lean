/- TreePaths: the walk -/
import Derived.Test.YtfoedcmcdpekoaaDoorN1
namespace Go.Proofs.YtfoedcmcdpekoaaDoor
open Go.RowKit

set_option maxRecDepth 100000 in
set_option maxHeartbeats 4000000 in
theorem treepaths_walk (s : ByteArray) (w : World) (hs : s.size ≤ 140737488351232) : Calls Tryd.prog 3 #[.string s] w fun e w' => e = .returned (.bool true) ∧ Below w.heap.size w w' := by
  have HA := hid alive_walk
  by_cases h250 : s.size > 250
  · have g1 : decide ((s.size : Int) > 250) = true := decide_eq_true (by omega)
    go_enter Tryd.func3, Tryd.ntmps3
    go_wp2_with fail
    refine (HA.out _).mono ?_
    rintro e w1 ⟨rfl, hb1⟩
    go_wp2_with fail
    go_ret
    exact ⟨rfl, hb1⟩
  have g1 : decide ((s.size : Int) > 250) = false := decide_eq_false (by omega)
  have H1 := hid (fun W => split_walk s W hs)
  have H2 := hid (fun W => refsplit s W hs)
  have H3 := hid (part_walk s)
  have H4 := hid (fun W => refpart s W hs)
  have H5 := hid (path_walk s hs)
  have H6 := hid (refpath s)
  generalize splitL s.toList = SP at *
  generalize partB s.toList = PB at *
  generalize pathB s.toList = QB at *
  go_enter Tryd.func3, Tryd.ntmps3
  go_wp2_with fail
  refine (H1.out _).mono ?_
  rintro e w1 ⟨⟨d1, n1, rfl, e1⟩, hb1⟩
  replace e1 := hid e1
  go_wp2_with fail
  refine (H2.out _).mono ?_
  rintro e w2 ⟨⟨d2, n2, rfl, e2⟩, hb2⟩
  replace hb2 := thenB hb1 hb2
  obtain ⟨e3, e4⟩ := Prod.mk.inj (e1.out.trans e2.symm)
  have g2 : (d1.toList == d2.toList) = true := by simp [e3]
  have g3 : (n1.toList == n2.toList) = true := by simp [e4]
  clear e3 e4 e1 e2
  go_wp2_with fail
  refine (H3.out _).mono ?_
  rintro e w3 ⟨rfl, hb3⟩
  replace hb3 := thenB hb2 hb3
  go_wp2_with fail
  refine (H4.out _).mono ?_
  rintro e w4 ⟨rfl, rfl⟩
  go_wp2_with fail
  refine (H5.out _).mono ?_
  rintro e w5 ⟨rfl, hb5⟩
  replace hb5 := thenB hb3 hb5
  go_wp2_with fail
  refine (H6.out _).mono ?_
  rintro e w6 ⟨rfl, hb6⟩
  replace hb6 := thenB hb5 hb6
  go_wp2_with fail
  refine (HA.out _).mono ?_
  rintro e w7 ⟨rfl, hb7⟩
  replace hb7 := thenB hb6 hb7
  go_wp2_with fail
  go_ret
  exact ⟨rfl, hb7⟩

end Go.Proofs.YtfoedcmcdpekoaaDoor
