/- the reference's Right -/
import Derived.Test.YtfbbjfbnkcklgaaGreatDoorI3
namespace Go.Proofs.YtfbbjfbnkcklgaaGreatDoor
open Go.RowKit

/-- an item in its place: its path, what stands ahead of it, its directory, its bytes -/
def fineA (t u : List AIt) (j : Nat) : Bool := match t[j]? with
  | none => true
  | some x => pathB x.p && (j == 0 || match t[j - 1]? with
    | some y => Op.bytesLess y.p x.p
    | none => true) && (dirA u x.p == 0) && !(x.d && !x.b.isEmpty) && decide (x.b.length ≤ 2000)
/-- which trees are right -/
def rightA (t : List AIt) : Bool := decide (t.length ≤ 60) && (List.range t.length).all (fineA t t)

theorem fine_at (l : List Itm) (u : List AIt) {j : Nat} (hj : j < l.length) : fineA (l.map Itm.abs) u j =
    (pathB l[j].p.toList && (j == 0 || Op.bytesLess (l[j - 1]'(by omega)).p.toList l[j].p.toList) && (dirA u l[j].p.toList == 0) && !(l[j].d && !l[j].bs.isEmpty) && decide (l[j].bs.length ≤ 2000)) := by
  unfold fineA
  rw [List.getElem?_map, List.getElem?_map, List.getElem?_eq_getElem hj, List.getElem?_eq_getElem (by omega : j - 1 < l.length)]
  rfl
theorem right_no {l : List Itm} {j : Nat} (hj : j < l.length) (h : fineA (l.map Itm.abs) (l.map Itm.abs) j = false) : rightA (l.map Itm.abs) = false := by
  unfold rightA
  rw [Bool.and_eq_false_iff]
  exact .inr (List.all_eq_false.2 ⟨j, by simpa using hj, by simp [h]⟩)
theorem right_on {t u : List AIt} {j : Nat} (ht : (List.range j).all (fineA t u) = true) (h : fineA t u j = true) : (List.range (j + 1)).all (fineA t u) = true := by
  rw [List.range_succ, List.all_append, ht]
  simp [h]
theorem under_drew {P : Program} {f : FuncId} {args : Array Value} {w W : World} {v : Value} (h : Calls P f args (under w W) fun e w' => e = .returned v ∧ ∃ q, w' = (under w W).drewN q) :
    Calls P f args (under w W) fun e w'' => e = .returned v ∧ ∃ W', w'' = under w W' :=
  under_call (h.mono fun _ _ ⟨he, q, hq⟩ => ⟨he, by rw [hq]; exact Below.drewN (n := q) (Below.refl _ _)⟩)

set_option maxRecDepth 100000 in
set_option maxHeartbeats 4000000 in
theorem refright (A : Option Addr) (c : Nat) (l : List Itm) (w : World) (h : Tr w A c l) :
    Calls Tryz.prog 41 #[.slice A l.length c] w fun e w' => e = .returned (.bool (rightA (l.map Itm.abs))) ∧ Below w.heap.size w w' := by
  by_cases h60 : l.length ≤ 60
  case neg =>
    have g1 : decide ((l.length : Int) > 60) = true := decide_eq_true (by omega)
    go_enter Tryz.func41, Tryz.ntmps41
    go_wp2_with fail
    go_ret
    exact ⟨by simp [rightA, h60], Below.refl _ _⟩
  have g1 : decide ((l.length : Int) > 60) = false := decide_eq_false (by omega)
  go_enter Tryz.func41, Tryz.ntmps41
  go_wp2_with fail
  have HM := hid h60
  go_loopg [3] l.length (fun k i wr => ∃ j : Nat, j ≤ l.length ∧ k = l.length - j ∧ i = .int .i64 j ∧ Below w.heap.size w wr ∧ (List.range j).all (fineA (l.map Itm.abs) (l.map Itm.abs)) = true)
  case atStart => exact ⟨0, Nat.zero_le _, rfl, rfl, Below.refl _ _, by simp⟩
  case round =>
    obtain ⟨j, hj, rfl, rfl, hb1, ht⟩ := hrel
    have HT := hid ht
    clear ht
    have h48 := h60
    by_cases hlt : j < l.length
    · have i0 : (0 : Int) ≤ (j : Int) := by omega
      have i1 : (j : Int) < (l.length : Int) := by omega
      have d0 : decide ((j : Int) < (l.length : Int)) = true := decide_eq_true i1
      have hr := h.below hb1
      obtain ⟨b, off, hA, c0, c1, c2, hg⟩ := hr.at hlt
      have hgs := hg.size
      have hgl := hg.len
      have HF := hid (fine_at l (l.map Itm.abs) hlt)
      have u0 := under_cell c0
      have u1 := under_cell c1
      obtain ⟨n, hn⟩ : ∃ n, l[j].bs.length = n := ⟨_, rfl⟩
      rw [hn] at c2 hgl
      have HN := hid hn
      clear hn
      have u2 := under_cell c2
      have HP := hid (fun W => under_call (refpath l[j].p (under wr W)))
      have HD := hid (fun W => under_call (refdir A c l l[j].p (under wr W) (hr.below (under_below wr W)) hgs))
      have HL : HidP (∀ hj0 : 0 < j, ∀ W, Calls Tryz.prog 21 #[.string (l[j - 1]'(by omega)).p, .string l[j].p] (under wr W) fun e w'' => e = .returned (.bool (Op.bytesLess (l[j - 1]'(by omega)).p.toList l[j].p.toList)) ∧ ∃ W', w'' = under wr W') := hid (fun hj0 W => under_drew (refless _ _ _ (hr.good _ (List.getElem_mem _)).size))
      have hy : ∃ Y : Itm, (∀ hj0 : 0 < j, Y = l[j - 1]'(by omega)) ∧ (0 < j → wr.cell? ⟨b, off + (j - 1) * 3, none⟩ = some (.string Y.p)) := by
        by_cases hj0 : 0 < j
        · obtain ⟨b', off', hA', k0, _⟩ := hr.at (i := j - 1) (by omega)
          rw [hA] at hA'
          cases hA'
          exact ⟨_, fun _ => rfl, fun _ => k0⟩
        · exact ⟨l[j], fun h => absurd h hj0, fun h => absurd h hj0⟩
      clear c0 c1 c2 hg hr h
      subst hA
      cases hp : pathB l[j].p.toList
      · rw [hp] at HP
        go_wp2_with fail
        refine wp_region_under (by kernel_rfl) (by kernel_rfl) ?_
        repeat (go_big_quiet_step (first | with_reducible exact HP.out _ | with_reducible exact HL.out _ | with_reducible exact HD.out _))
        refine wpQuiet_nil ?_
        intro _ hw'
        obtain ⟨Wq, hw''⟩ := hw'
        subst hw''
        go_wp2_with fail
        go_ret
        exact ⟨by rw [right_no hlt (by simp [HF.out, hp])]; rfl, hb1.trans ((under_below wr Wq).mono hb1.size)⟩
      · rw [hp] at HP
        by_cases hj0 : 0 < j
        · have d1 : decide ((j : Int) > 0) = true := decide_eq_true (by omega)
          obtain ⟨Y, hY, k0⟩ := hy
          have k0 := under_cell (k0 hj0)
          have HL := hid (HL.out hj0)
          have HY := hid (hY hj0)
          clear hY
          have j0 : (j == 0) = false := by simp; omega
          have i2 : (0 : Int) ≤ (j : Int) - 1 := by omega
          have i3 : (j : Int) - 1 < (l.length : Int) := by omega
          have i4 : ((j : Int) - 1).toNat = j - 1 := by omega
          rw [← HY.out] at HL HF
          cases hl : Op.bytesLess Y.p.toList l[j].p.toList
          · rw [hl] at HL
            go_wp2_with fail
            refine wp_region_under (by kernel_rfl) (by kernel_rfl) ?_
            repeat (go_big_quiet_step (first | with_reducible exact HP.out _ | with_reducible exact HL.out _ | with_reducible exact HD.out _))
            refine wpQuiet_nil ?_
            intro _ hw'
            obtain ⟨Wq, hw''⟩ := hw'
            subst hw''
            go_wp2_with fail
            go_ret
            exact ⟨by rw [right_no hlt (by simp [HF.out, hl, hp, j0])]; rfl, hb1.trans ((under_below wr Wq).mono hb1.size)⟩
          · rw [hl] at HL
            cases hd : (dirA (l.map Itm.abs) l[j].p.toList != 0)
            · rw [show dirA (l.map Itm.abs) l[j].p.toList = 0 by simpa using hd] at HD
              have hd0 : dirA (l.map Itm.abs) l[j].p.toList = 0 := by simpa using hd
              have hd0 := hid hd0
              cases hdd : l[j].d
              · rw [hdd] at u1
                by_cases hz : n > 2000
                · have d3 : decide ((n : Int) > 2000) = true := decide_eq_true (by omega)
                  go_wp2_with fail
                  refine wp_region_under (by kernel_rfl) (by kernel_rfl) ?_
                  repeat (go_big_quiet_step (first | with_reducible exact HP.out _ | with_reducible exact HL.out _ | with_reducible exact HD.out _))
                  refine wpQuiet_nil ?_
                  intro _ hw'
                  obtain ⟨Wq, hw''⟩ := hw'
                  subst hw''
                  go_wp2_with fail
                  go_ret
                  exact ⟨by rw [right_no hlt (by simp [HF.out, hp, hl, hdd, hd0.out, show ¬ l[j].bs.length ≤ 2000 by have := HN.out; omega])]; rfl, hb1.trans ((under_below wr Wq).mono hb1.size)⟩
                · have d3 : decide ((n : Int) > 2000) = false := decide_eq_false (by omega)
                  go_wp2_with fail
                  refine wp_region_under (by kernel_rfl) (by kernel_rfl) ?_
                  repeat (go_big_quiet_step (first | with_reducible exact HP.out _ | with_reducible exact HL.out _ | with_reducible exact HD.out _))
                  refine wpQuiet_nil ?_
                  intro _ hw'
                  obtain ⟨Wq, hw''⟩ := hw'
                  subst hw''
                  go_wp2_with fail
                  go_roundg (l.length - (j + 1))
                  case measure => omega
                  case rel => exact ⟨j + 1, by omega, rfl, by go_num, hb1.trans ((under_below wr Wq).mono hb1.size), right_on HT.out (by simp [HF.out, hp, hl, hdd, hd0.out, show l[j].bs.length ≤ 2000 by have := HN.out; omega])⟩
              · rw [hdd] at u1
                by_cases hz0 : n > 0
                · have d2 : decide ((n : Int) > 0) = true := decide_eq_true (by omega)
                  have hz1 : l[j].bs ≠ [] := by rintro e; have := HN.out; rw [e] at this; simp at this; omega
                  have hz1 := hid hz1
                  go_wp2_with fail
                  refine wp_region_under (by kernel_rfl) (by kernel_rfl) ?_
                  repeat (go_big_quiet_step (first | with_reducible exact HP.out _ | with_reducible exact HL.out _ | with_reducible exact HD.out _))
                  refine wpQuiet_nil ?_
                  intro _ hw'
                  obtain ⟨Wq, hw''⟩ := hw'
                  subst hw''
                  go_wp2_with fail
                  go_ret
                  exact ⟨by rw [right_no hlt (by simp [HF.out, hp, hl, hd0.out, hdd, hz1.out])]; rfl, hb1.trans ((under_below wr Wq).mono hb1.size)⟩
                · have d2 : decide ((n : Int) > 0) = false := decide_eq_false (by omega)
                  have hz1 : l[j].bs = [] := List.eq_nil_of_length_eq_zero (by have := HN.out; omega)
                  have hz1 := hid hz1
                  have d3 : decide ((n : Int) > 2000) = false := decide_eq_false (by omega)
                  go_wp2_with fail
                  refine wp_region_under (by kernel_rfl) (by kernel_rfl) ?_
                  repeat (go_big_quiet_step (first | with_reducible exact HP.out _ | with_reducible exact HL.out _ | with_reducible exact HD.out _))
                  refine wpQuiet_nil ?_
                  intro _ hw'
                  obtain ⟨Wq, hw''⟩ := hw'
                  subst hw''
                  go_wp2_with fail
                  go_roundg (l.length - (j + 1))
                  case measure => omega
                  case rel => exact ⟨j + 1, by omega, rfl, by go_num, hb1.trans ((under_below wr Wq).mono hb1.size), right_on HT.out (by simp [HF.out, hp, hl, hdd, hz1.out, hd0.out])⟩
            · have hd1 : (dirA (l.map Itm.abs) l[j].p.toList == 0) = false := by simpa using hd
              go_wp2_with fail
              refine wp_region_under (by kernel_rfl) (by kernel_rfl) ?_
              repeat (go_big_quiet_step (first | with_reducible exact HP.out _ | with_reducible exact HL.out _ | with_reducible exact HD.out _))
              refine wpQuiet_nil ?_
              intro _ hw'
              obtain ⟨Wq, hw''⟩ := hw'
              subst hw''
              go_wp2_with fail
              go_ret
              exact ⟨by rw [right_no hlt (by simp [HF.out, hp, hl, hd1])]; rfl, hb1.trans ((under_below wr Wq).mono hb1.size)⟩
        · have d1 : decide ((j : Int) > 0) = false := decide_eq_false (by omega)
          have j0 : (j == 0) = true := by simp; omega
          cases hd : (dirA (l.map Itm.abs) l[j].p.toList != 0)
          · rw [show dirA (l.map Itm.abs) l[j].p.toList = 0 by simpa using hd] at HD
            have hd0 : dirA (l.map Itm.abs) l[j].p.toList = 0 := by simpa using hd
            have hd0 := hid hd0
            cases hdd : l[j].d
            · rw [hdd] at u1
              by_cases hz : n > 2000
              · have d3 : decide ((n : Int) > 2000) = true := decide_eq_true (by omega)
                go_wp2_with fail
                refine wp_region_under (by kernel_rfl) (by kernel_rfl) ?_
                repeat (go_big_quiet_step (first | with_reducible exact HP.out _ | with_reducible exact HL.out _ | with_reducible exact HD.out _))
                refine wpQuiet_nil ?_
                intro _ hw'
                obtain ⟨Wq, hw''⟩ := hw'
                subst hw''
                go_wp2_with fail
                go_ret
                exact ⟨by rw [right_no hlt (by simp [HF.out, hp, j0, hdd, hd0.out, show ¬ l[j].bs.length ≤ 2000 by have := HN.out; omega])]; rfl, hb1.trans ((under_below wr Wq).mono hb1.size)⟩
              · have d3 : decide ((n : Int) > 2000) = false := decide_eq_false (by omega)
                go_wp2_with fail
                refine wp_region_under (by kernel_rfl) (by kernel_rfl) ?_
                repeat (go_big_quiet_step (first | with_reducible exact HP.out _ | with_reducible exact HL.out _ | with_reducible exact HD.out _))
                refine wpQuiet_nil ?_
                intro _ hw'
                obtain ⟨Wq, hw''⟩ := hw'
                subst hw''
                go_wp2_with fail
                go_roundg (l.length - (j + 1))
                case measure => omega
                case rel => exact ⟨j + 1, by omega, rfl, by go_num, hb1.trans ((under_below wr Wq).mono hb1.size), right_on HT.out (by simp [HF.out, hp, j0, hdd, hd0.out, show l[j].bs.length ≤ 2000 by have := HN.out; omega])⟩
            · rw [hdd] at u1
              by_cases hz0 : n > 0
              · have d2 : decide ((n : Int) > 0) = true := decide_eq_true (by omega)
                have hz1 : l[j].bs ≠ [] := by rintro e; have := HN.out; rw [e] at this; simp at this; omega
                have hz1 := hid hz1
                go_wp2_with fail
                refine wp_region_under (by kernel_rfl) (by kernel_rfl) ?_
                repeat (go_big_quiet_step (first | with_reducible exact HP.out _ | with_reducible exact HL.out _ | with_reducible exact HD.out _))
                refine wpQuiet_nil ?_
                intro _ hw'
                obtain ⟨Wq, hw''⟩ := hw'
                subst hw''
                go_wp2_with fail
                go_ret
                exact ⟨by rw [right_no hlt (by simp [HF.out, hp, j0, hd0.out, hdd, hz1.out])]; rfl, hb1.trans ((under_below wr Wq).mono hb1.size)⟩
              · have d2 : decide ((n : Int) > 0) = false := decide_eq_false (by omega)
                have hz1 : l[j].bs = [] := List.eq_nil_of_length_eq_zero (by have := HN.out; omega)
                have hz1 := hid hz1
                have d3 : decide ((n : Int) > 2000) = false := decide_eq_false (by omega)
                go_wp2_with fail
                refine wp_region_under (by kernel_rfl) (by kernel_rfl) ?_
                repeat (go_big_quiet_step (first | with_reducible exact HP.out _ | with_reducible exact HL.out _ | with_reducible exact HD.out _))
                refine wpQuiet_nil ?_
                intro _ hw'
                obtain ⟨Wq, hw''⟩ := hw'
                subst hw''
                go_wp2_with fail
                go_roundg (l.length - (j + 1))
                case measure => omega
                case rel => exact ⟨j + 1, by omega, rfl, by go_num, hb1.trans ((under_below wr Wq).mono hb1.size), right_on HT.out (by simp [HF.out, hp, j0, hdd, hz1.out, hd0.out])⟩
          · have hd1 : (dirA (l.map Itm.abs) l[j].p.toList == 0) = false := by simpa using hd
            go_wp2_with fail
            refine wp_region_under (by kernel_rfl) (by kernel_rfl) ?_
            repeat (go_big_quiet_step (first | with_reducible exact HP.out _ | with_reducible exact HL.out _ | with_reducible exact HD.out _))
            refine wpQuiet_nil ?_
            intro _ hw'
            obtain ⟨Wq, hw''⟩ := hw'
            subst hw''
            go_wp2_with fail
            go_ret
            exact ⟨by rw [right_no hlt (by simp [HF.out, hp, j0, hd1])]; rfl, hb1.trans ((under_below wr Wq).mono hb1.size)⟩
    · obtain rfl : j = l.length := by omega
      have d0 : decide ((l.length : Int) < (l.length : Int)) = false := decide_eq_false (by omega)
      go_wp2_with fail
      go_ret
      exact ⟨by rw [show rightA (l.map Itm.abs) = true by unfold rightA; simp only [List.length_map]; rw [HT.out]; simpa using HM.out]; rfl, hb1⟩

end Go.Proofs.YtfbbjfbnkcklgaaGreatDoor
