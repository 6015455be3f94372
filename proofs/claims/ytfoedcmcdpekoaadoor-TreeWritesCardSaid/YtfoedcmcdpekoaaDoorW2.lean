/- a tree that changes make of nothing -/
import Derived.Test.YtfoedcmcdpekoaaDoorW1
namespace Go.Proofs.YtfoedcmcdpekoaaDoor
open Go.RowKit

set_option maxRecDepth 100000 in
set_option maxHeartbeats 8000000 in
theorem grown_walk (A : Option Addr) (c n : Nat) (l : List OpI) (w : World) (hO : OpsQ w A c l) (h1 : opsB l n = true) (hn : n ≤ 1000) :
    Calls Tryd.prog 30 #[.slice A l.length c] w fun e w' => (∃ B d t, e = .returned (.slice B (List.length t) d) ∧ Tr w' B d t ∧ RightP (t.map Itm.abs)) ∧ Below w.heap.size w w' := by
  unfold opsB at h1
  rw [Bool.and_eq_true] at h1
  have h30 := of_decide_eq_true h1.1
  have h31 : l.length ≤ 1000 := Nat.le_trans h30 hn
  have HG := hid (fun (j : Nat) (hj : j < l.length) => List.all_eq_true.1 h1.2 l[j] (List.getElem_mem hj))
  have HO := hid hO
  clear h1 hO h30 hn
  go_enter Tryd.func30, Tryd.ntmps30
  go_wp2_with fail
  go_loopg [3, 4] l.length (fun k t i wr => ∃ (j : Nat) (tA : Option Addr) (tc : Nat) (t1 : List Itm), j ≤ l.length ∧ k = l.length - j ∧ i = .int .i64 j ∧ t = .slice tA t1.length tc ∧ Tr wr tA tc t1 ∧ Below w.heap.size w wr ∧ RightP (t1.map Itm.abs))
  case atStart => exact ⟨0, none, 0, [], Nat.zero_le _, rfl, rfl, rfl, Tr.none _, Below.refl _ _, right_empty⟩
  case round =>
    obtain ⟨j, tA, tc, t1, hj, rfl, rfl, rfl, ht, hb, hri⟩ := hrel
    have HRI := hid hri
    clear hri
    by_cases hlt : j < l.length
    · have i0 : (0 : Int) ≤ (j : Int) := by omega
      have i1 : (j : Int) < (l.length : Int) := by omega
      obtain ⟨b, off, hA, c0, c1, c2, c3, c4⟩ := (HO.out.below hb).cell j l[j] (List.getElem?_eq_getElem hlt)
      have hog := ((HO.out.at_ l[j] (List.getElem_mem hlt)).below hb).good (HG.out j hlt)
      have HRD := hid (fun (h0 : (doA (t1.map Itm.abs) l[j]).2 = 0) => right_do (o := l[j]) HRI.out h0)
      subst hA
      have HDO := hid (do_walk tA tc t1 l[j] wr ht hog)
      have HTT := hid ht
      clear ht
      go_wp2_with fail
      refine HDO.out.mono ?_
      rintro e w2 ⟨⟨aA, ac, a1, f, rfl, ha, hae⟩, hb2⟩
      replace hae := hid hae
      have hb2' := thenB hb hb2
      clear c0 c1 c2 c3 c4 HDO
      by_cases hf0 : f = 0
      · subst hf0
        have hrr : RightP (a1.map Itm.abs) := by
          have h1 := HRD.out (by rw [← hae.out])
          rw [← hae.out] at h1
          exact h1
        have HRR := hid hrr
        clear hrr
        go_wp2_with fail
        go_roundg (l.length - (j + 1))
        case measure => omega
        case rel => exact ⟨j + 1, aA, ac, a1, by omega, rfl, by go_num, rfl, ha, hb2', HRR.out⟩
      · have g0 : (f == 0) = false := by simp [hf0]
        have HF0 := hid hf0
        clear hf0
        go_wp2_with fail
        go_roundg (l.length - (j + 1))
        case measure => omega
        case rel => exact ⟨j + 1, tA, tc, t1, by omega, rfl, by go_num, rfl, HTT.out.below hb2, hb2', HRI.out⟩
    · obtain rfl : j = l.length := by omega
      go_wp2_with fail
      go_ret
      exact ⟨⟨tA, tc, t1, rfl, ht, HRI.out⟩, hb⟩

end Go.Proofs.YtfoedcmcdpekoaaDoor
