/- the reference's Path -/
import Derived.Test.YtfoedcmcdpekoaaDoorT3
namespace Go.Proofs.YtfoedcmcdpekoaaDoor
open Go.RowKit

theorem Row.at1 {w : World} {e : TypeId} {A : Option Addr} {n c : Nat} {xs : List Value} (h : Row w e 1 (.slice A n c) xs) {i : Nat} {u : Value} (hu : xs[i]? = some u) : ∃ a, A = some a ∧ w.cell? (a.add i) = some u := by
  obtain ⟨_, _, _, hv, _, _, _, hh⟩ := h.src
  cases hv
  exact hh i u hu

theorem sum_mem {L : List (List UInt8)} {x : List UInt8} (h : x ∈ L) : x.length + 1 ≤ (L.map fun x => x.length + 1).sum := by
  induction L with
  | nil => cases h
  | cons y t ih =>
    rcases List.mem_cons.1 h with rfl | h
    · simp
    · have := ih h
      simp only [List.map_cons, List.sum_cons]
      omega
theorem sum_len (L : List (List UInt8)) : L.length ≤ (L.map fun x => x.length + 1).sum := by
  induction L with
  | nil => simp
  | cons y t ih => simp only [List.map_cons, List.sum_cons, List.length_cons]; omega

set_option maxRecDepth 100000 in
set_option maxHeartbeats 1600000 in
theorem refpath (s : ByteArray) (w : World) : Calls Tryd.prog 14 #[.string s] w fun e w' => e = .returned (.bool (pathB s.toList)) ∧ Below w.heap.size w w' := by
  have hl := str_len s
  by_cases h200 : s.size > 200
  · have g1 : decide ((s.size : Int) > 200) = true := decide_eq_true (by omega)
    have hf : pathB s.toList = false := by
      cases hp : pathB s.toList with
      | false => rfl
      | true => have := pathB_short hp; omega
    go_enter Tryd.func14, Tryd.ntmps14
    go_wp2_with fail
    go_ret
    exact ⟨by rw [hf]; rfl, Below.refl _ _⟩
  have g1 : decide ((s.size : Int) > 200) = false := decide_eq_false (by omega)
  have H := hid (refparts s w (by omega))
  go_enter Tryd.func14, Tryd.ntmps14
  go_wp2_with fail
  refine H.out.mono ?_
  rintro e w1 ⟨A, n, c, rfl, ps, hrow, hps, hb⟩
  obtain rfl : n = ps.length := by obtain ⟨_, _, _, hv, hln, _⟩ := id hrow; cases hv; simpa using hln.symm
  have hlen : ps.length = (partsL s.toList).length := by rw [← hps]; simp
  have hpn : ps.length ≤ 201 := by
    have h1 := partsL_size s.toList
    have h2 := sum_len (partsL s.toList)
    omega
  have HPS := hid hps
  have HLN := hid hlen
  clear hps H hlen
  go_wp2_with fail
  go_loopg [4] ps.length (fun k i wr => ∃ j : Nat, j ≤ ps.length ∧ k = ps.length - j ∧ i = .int .i64 j ∧ Below w1.heap.size w1 wr ∧ ((ps.take j).map (·.toList)).all partB = true)
  case atStart => exact ⟨0, by omega, rfl, rfl, Below.refl _ _, by simp⟩
  case round =>
    obtain ⟨j, hj, rfl, rfl, hb1, ht⟩ := hrel
    by_cases hlt : j < ps.length
    · have i0 : (0 : Int) ≤ (j : Int) := by omega
      have i1 : (j : Int) < (ps.length : Int) := by omega
      obtain ⟨a, rfl, hc⟩ := (hrow.below hb1).at1 (i := j) (u := .string ps[j]) (by simp [hlt])
      have HPW := hid (refpart ps[j])
      have hmem : ps[j].toList ∈ partsL s.toList := by rw [← HPS.out]; exact List.mem_map_of_mem (List.getElem_mem hlt)
      have hsz : ps[j].size ≤ 140737488351232 := by
        rw [← str_len]
        have h1 := partsL_size s.toList
        have h2 : ps[j].toList.length + 1 ≤ ((partsL s.toList).map fun x => x.length + 1).sum := sum_mem hmem
        omega
      have HM := hid hmem
      cases hp : partB ps[j].toList
      · have HW := hid (HPW.out wr hsz)
        rw [hp] at HW
        clear HPW hmem
        go_wp2_with fail
        refine HW.out.mono ?_
        rintro e w' ⟨rfl, rfl⟩
        go_wp2_with fail
        go_ret
        refine ⟨?_, hb.trans (hb1.mono hb.size)⟩
        have : pathB s.toList = false := by
          unfold pathB
          rw [Bool.and_eq_false_iff]
          exact .inl (List.all_eq_false.2 ⟨_, HM.out, by simp [hp]⟩)
        rw [this]; rfl
      · have HW := hid (HPW.out wr hsz)
        rw [hp] at HW
        clear HPW hmem
        go_wp2_with fail
        refine HW.out.mono ?_
        rintro e w' ⟨rfl, rfl⟩
        go_wp2_with fail
        go_roundg (ps.length - (j + 1))
        case measure => omega
        case rel => exact ⟨j + 1, by omega, rfl, by go_num, hb1, by rw [List.take_add_one, List.map_append, List.all_append, ht]; simp [hlt, hp]⟩
    · obtain rfl : j = ps.length := by omega
      rw [List.take_length, HPS.out] at ht
      have HT := hid ht
      clear ht
      have h6 : pathB s.toList = decide ((ps.length : Int) ≤ 6) := by
        unfold pathB
        rw [HT.out, ← HLN.out, Bool.true_and]
        exact decide_eq_decide.2 (by omega)
      have H6 := hid h6
      clear h6
      go_wp2_with fail
      go_ret
      exact ⟨by rw [H6.out]; rfl, hb.trans (hb1.mono hb.size)⟩

end Go.Proofs.YtfoedcmcdpekoaaDoor
