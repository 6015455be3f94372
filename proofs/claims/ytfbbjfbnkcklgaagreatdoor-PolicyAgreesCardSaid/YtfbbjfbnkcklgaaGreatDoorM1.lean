/- tree.Right -/
import Derived.Test.YtfbbjfbnkcklgaaGreatDoorL6
namespace Go.Proofs.YtfbbjfbnkcklgaaGreatDoor
open Go.RowKit

theorem less_prefix : ∀ (l : List UInt8) (k : Nat), k < l.length → Op.bytesLess (l.take k) l = true
  | [], k, h => by simp at h
  | x :: r, 0, _ => by simp [Op.bytesLess]
  | x :: r, k + 1, h => by
    rw [List.take_succ_cons]
    simp [Op.bytesLess, less_prefix r k (by simpa using h)]
theorem dir_less {p : List UInt8} (h : (splitL p).1 ≠ []) : Op.bytesLess (splitL p).1 p = true := by
  unfold splitL at h ⊢
  split
  · rename_i hp
    rw [if_pos hp] at h
    unfold dirL at h ⊢
    refine less_prefix _ _ ?_
    have : 0 < p.length := by
      rcases Nat.eq_zero_or_pos p.length with e | e
      · rw [List.eq_nil_of_length_eq_zero e] at h; simp at h
      · exact e
    omega
  · rename_i hp
    rw [if_neg hp] at h
    simp at h
theorem dir_of_take {T : List AIt} {j : Nat} {p : List UInt8} (h : dirA (T.take j) p = 0) : dirA T p = 0 := by
  unfold dirA at h ⊢
  split
  · rfl
  · rename_i hd
    rw [if_neg hd] at h
    unfold findA at h ⊢
    conv => lhs; rw [← List.take_append_drop j T, List.find?_append]
    split at h
    · cases h
    · rename_i x hx
      rw [hx]
      exact h
theorem sorted_get {T : List AIt} (h : sortedA T) {i j : Nat} {x y : AIt} (hx : T[i]? = some x) (hy : T[j]? = some y) (hij : i < j) : Op.bytesLess x.p y.p = true := by
  obtain ⟨hi, ex⟩ := List.getElem?_eq_some_iff.1 hx
  obtain ⟨hj, ey⟩ := List.getElem?_eq_some_iff.1 hy
  rw [← ex, ← ey]
  exact List.pairwise_iff_getElem.1 h i j hi hj hij
theorem dir_take {T : List AIt} {j : Nat} {x : AIt} (hs : sortedA T) (hx : T[j]? = some x) (h : dirA T x.p = 0) : dirA (T.take j) x.p = 0 := by
  unfold dirA at h ⊢
  split
  · rfl
  · rename_i hd
    rw [if_neg hd] at h
    have hl := dir_less hd
    have e : findA (T.take j) (splitL x.p).1 = findA T (splitL x.p).1 := by
      unfold findA
      conv => rhs; rw [← List.take_append_drop j T, List.find?_append]
      have : (T.drop j).find? (fun y => y.p == (splitL x.p).1) = none := by
        rw [List.find?_eq_none]
        intro y hy hq
        obtain ⟨k, hk, e⟩ := List.getElem_of_mem hy
        rw [List.getElem_drop] at e
        rw [List.length_drop] at hk
        have hyk : T[j + k]? = some y := by rw [List.getElem?_eq_getElem (by omega), e]
        have hq := eq_of_beq hq
        rcases Nat.eq_zero_or_pos k with rfl | hp
        · rw [Nat.add_zero, hx] at hyk
          rw [← Option.some.inj hyk] at hq
          exact less_ne hl hq.symm
        · have := sorted_get hs hx hyk (by omega)
          rw [hq] at this
          rw [less_asymm this] at hl
          cases hl
      rw [this, Option.or_none]
    rw [e]
    exact h
theorem right_take {T : List AIt} (h : rightA T = true) {j : Nat} (hj : j < T.length) : fineA T (T.take j) j = true := by
  have hx := List.getElem?_eq_getElem hj
  have h1 := (fine_parts hx).1 ((right_fine h).2 j hj)
  exact (fine_parts hx).2 ⟨h1.1, h1.2.1, dir_take (right_sorted h) hx h1.2.2.1, h1.2.2.2⟩
theorem right_noT {l : List Itm} {j : Nat} (hj : j < l.length) (h : fineA (l.map Itm.abs) ((l.map Itm.abs).take j) j = false) : rightA (l.map Itm.abs) = false := by
  cases hr : rightA (l.map Itm.abs)
  · rfl
  · rw [right_take hr (by simpa using hj)] at h; cases h
theorem right_ofT {T : List AIt} (hl : T.length ≤ 60) (h : ∀ j, j < T.length → fineA T (T.take j) j = true) : rightA T = true := by
  unfold rightA
  rw [Bool.and_eq_true]
  refine ⟨decide_eq_true hl, List.all_eq_true.2 fun j hj => ?_⟩
  have hj : j < T.length := by simpa using hj
  have hx := List.getElem?_eq_getElem hj
  have h1 := (fine_parts hx).1 (h j hj)
  exact (fine_parts hx).2 ⟨h1.1, h1.2.1, dir_of_take h1.2.2.1, h1.2.2.2⟩
theorem sorted_upto {l : List Itm} {j : Nat} (h : ∀ k, k < j → fineA (l.map Itm.abs) ((l.map Itm.abs).take k) k = true) : sortedI (l.take j) := by
  refine sortedI_of ?_
  rw [List.map_take]
  refine sorted_of_next fun i x y hx hy => ?_
  rw [List.getElem?_take] at hx hy
  split at hy
  · rename_i hlt
    rw [if_pos (by omega)] at hx
    exact ((fine_parts hy).1 (h (i + 1) hlt)).2.1 i x rfl hx
  · cases hy

set_option maxRecDepth 100000 in
set_option maxHeartbeats 8000000 in
theorem right_walk (A : Option Addr) (c : Nat) (l : List Itm) (w : World) (h : Tr w A c l) :
    Calls Tryz.prog 15 #[.slice A l.length c] w fun e w' => e = .returned (.bool (rightA (l.map Itm.abs))) ∧ Below w.heap.size w w' := by
  by_cases h60 : l.length ≤ 60
  case neg =>
    have g1 : decide ((l.length : Int) > 60) = true := decide_eq_true (by omega)
    go_enter Tryz.func15, Tryz.ntmps15
    go_wp2_with fail
    go_ret
    exact ⟨by simp [rightA, h60], Below.refl _ _⟩
  have g1 : decide ((l.length : Int) > 60) = false := decide_eq_false (by omega)
  go_enter Tryz.func15, Tryz.ntmps15
  go_wp2_with fail
  have HM := hid h60
  go_loopg [10] l.length (fun k i wr => ∃ j : Nat, j ≤ l.length ∧ k = l.length - j ∧ i = .int .i64 j ∧ Below w.heap.size w wr ∧ (∀ k, k < j → fineA (l.map Itm.abs) ((l.map Itm.abs).take k) k = true))
  case atStart => exact ⟨0, Nat.zero_le _, rfl, rfl, Below.refl _ _, fun k hk => by omega⟩
  case round =>
    obtain ⟨j, hj, rfl, rfl, hb1, ht⟩ := hrel
    have HT := hid ht
    clear ht
    by_cases hlt : j < l.length
    · have i0 : (0 : Int) ≤ (j : Int) := by omega
      have i1 : (j : Int) < (l.length : Int) := by omega
      have i5 : (j : Int) ≤ (l.length : Int) := by omega
      have d0 : decide ((j : Int) < (l.length : Int)) = true := decide_eq_true i1
      have hr := h.below hb1
      obtain ⟨b, off, hA, c0, c1, c2, hg⟩ := hr.at hlt
      have hgs := hg.size
      have HF := hid (fine_at l ((l.map Itm.abs).take j) hlt)
      obtain ⟨n, hn⟩ : ∃ n, l[j].bs.length = n := ⟨_, rfl⟩
      rw [hn] at c2
      have HN := hid hn
      have hba := thenA hb1 (.cells #[.string l[j].p, .bool l[j].d, .slice l[j].dA n l[j].dc] 42 (0, 0))
      have hbr := thenA (Below.refl _ wr) (.cells #[.string l[j].p, .bool l[j].d, .slice l[j].dA n l[j].dc] 42 (0, 0))
      have HP := hid (path_walk l[j].p hgs)
      have hy : ∃ Y : Itm, (∀ hj0 : 0 < j, Y = l[j - 1]'(by omega)) ∧ (0 < j → wr.cell? ⟨b, off + (j - 1) * 3, none⟩ = some (.string Y.p)) := by
        by_cases hj0 : 0 < j
        · obtain ⟨b', off', hA', k0, _⟩ := hr.at (i := j - 1) (by omega)
          rw [hA] at hA'
          cases hA'
          exact ⟨_, fun _ => rfl, fun _ => k0⟩
        · exact ⟨l[j], fun h => absurd h hj0, fun h => absurd h hj0⟩
      subst hA
      have hpart := hid (fun (W : World) (hW : Below wr.heap.size wr W) => items_part (i := 0) (hr.below hW) (Nat.le_of_lt hlt) (Nat.zero_le j))
      have HD := hid (fun (W : World) (hW : Below wr.heap.size wr W) => dir_walk (some ⟨b, off, none⟩) c (l.take j) l[j].p W (by simpa using hpart.out W hW) (sorted_upto HT.out) hgs)
      have hlt2 : (l.take j).length = j := by rw [List.length_take]; omega
      rw [List.map_take, hlt2] at HD
      have hcj : (j : Int) ≤ (c : Int) := by have := h.cap; omega
      have HH := hid h
      clear hr h hn hg hlt2 hpart
      cases hp : pathB l[j].p.toList
      · rw [hp] at HP
        go_wp2_with fail
        refine (HP.out _).mono ?_
        rintro e w2 ⟨rfl, hb2⟩
        have y0 := cellB hb2 ((blkCell (heap_alloc_new wr _) 0).trans rfl)
        have y1 := cellB hb2 ((blkCell (heap_alloc_new wr _) 1).trans rfl)
        have y2 := cellB hb2 ((blkCell (heap_alloc_new wr _) 2).trans rfl)
        have hbr2 := thenB hbr hb2
        replace hb2 := thenB hba hb2
        go_wp2_with fail
        go_ret
        exact ⟨by rw [right_noT hlt (by simp [HF.out, hp])]; rfl, hb2⟩
      · rw [hp] at HP
        by_cases hj0 : 0 < j
        · have d1 : decide ((j : Int) > 0) = true := decide_eq_true (by omega)
          obtain ⟨Y, hY, k0⟩ := hy
          have k0 := k0 hj0
          have HY := hid (hY hj0)
          clear hY
          have j0 : (j == 0) = false := by simp; omega
          have i2 : (0 : Int) ≤ (j : Int) - 1 := by omega
          have i3 : (j : Int) - 1 < (l.length : Int) := by omega
          have i4 : ((j : Int) - 1).toNat = j - 1 := by omega
          rw [← HY.out] at HF
          cases hl : Op.bytesLess Y.p.toList l[j].p.toList
          · go_wp2_with fail
            refine (HP.out _).mono ?_
            rintro e w2 ⟨rfl, hb2⟩
            have y0 := cellB hb2 ((blkCell (heap_alloc_new wr _) 0).trans rfl)
            have y1 := cellB hb2 ((blkCell (heap_alloc_new wr _) 1).trans rfl)
            have y2 := cellB hb2 ((blkCell (heap_alloc_new wr _) 2).trans rfl)
            have hbr2 := thenB hbr hb2
            replace hb2 := thenB hba hb2
            have k1 := cellB hbr2 k0
            go_wp2_with fail
            go_quiet (fail)
            go_wp2_with fail
            go_ret
            exact ⟨by rw [right_noT hlt (by simp [HF.out, hl, hp, j0])]; rfl, (Below.drewN hb2)⟩
          · skip
            cases hdd : l[j].d
            · rw [hdd] at hbr hba
              by_cases hz : n > 2000
              · have d3 : decide ((n : Int) > 2000) = true := decide_eq_true (by omega)
                go_wp2_with fail
                refine (HP.out _).mono ?_
                rintro e w2 ⟨rfl, hb2⟩
                have y0 := cellB hb2 ((blkCell (heap_alloc_new wr _) 0).trans rfl)
                have y1 := cellB hb2 ((blkCell (heap_alloc_new wr _) 1).trans rfl)
                have y2 := cellB hb2 ((blkCell (heap_alloc_new wr _) 2).trans rfl)
                have hbr2 := thenB hbr hb2
                replace hb2 := thenB hba hb2
                have k1 := cellB hbr2 k0
                go_wp2_with fail
                go_quiet (fail)
                go_wp2_with fail
                go_ret
                exact ⟨by rw [right_noT hlt (by simp [HF.out, hp, hl, hdd, show ¬ l[j].bs.length ≤ 2000 by have := HN.out; omega])]; rfl, (Below.drewN hb2)⟩
              · have d3 : decide ((n : Int) > 2000) = false := decide_eq_false (by omega)
                obtain ⟨D, hD⟩ : ∃ D, dirA ((l.map Itm.abs).take j) l[j].p.toList = D := ⟨_, rfl⟩
                rw [hD] at HD HF
                clear hD
                by_cases hz0 : D = 0
                · subst hz0
                  go_wp2_with fail
                  refine (HP.out _).mono ?_
                  rintro e w2 ⟨rfl, hb2⟩
                  have y0 := cellB hb2 ((blkCell (heap_alloc_new wr _) 0).trans rfl)
                  have y1 := cellB hb2 ((blkCell (heap_alloc_new wr _) 1).trans rfl)
                  have y2 := cellB hb2 ((blkCell (heap_alloc_new wr _) 2).trans rfl)
                  have hbr2 := thenB hbr hb2
                  replace hb2 := thenB hba hb2
                  have k1 := cellB hbr2 k0
                  go_wp2_with fail
                  go_quiet (fail)
                  go_wp2_with fail
                  refine wp_region_under (by kernel_rfl) (by kernel_rfl) ?_
                  have y0' := under_cell (w := w2.drewN nq) y0
                  have hd' := fun W => under_call (HD.out (under (w2.drewN nq) W) ((Below.drewN (n := nq) hbr2).trans ((under_below (w2.drewN nq) W).mono hbr2.size)))
                  repeat (go_big_quiet_step (with_reducible exact hd' _))
                  refine wpQuiet_nil ?_
                  intro _ hw'
                  obtain ⟨Wq, hw''⟩ := hw'
                  subst hw''
                  have hb3 := (Below.drewN (n := nq) hb2).trans ((under_below (w2.drewN nq) Wq).mono hb2.size)
                  go_wp2_with fail
                  go_roundg (l.length - (j + 1))
                  case measure => omega
                  case rel => exact ⟨j + 1, by omega, rfl, by go_num, hb3, fun k hk => by
                    rcases Nat.lt_or_ge k j with h1 | h1
                    · exact HT.out k h1
                    · rw [show k = j by omega]
                      simp [HF.out, hp, hl, hdd, show l[j].bs.length ≤ 2000 by have := HN.out; omega]⟩
                · have g2 : (D != 0) = true := by simp [hz0]
                  go_wp2_with fail
                  refine (HP.out _).mono ?_
                  rintro e w2 ⟨rfl, hb2⟩
                  have y0 := cellB hb2 ((blkCell (heap_alloc_new wr _) 0).trans rfl)
                  have y1 := cellB hb2 ((blkCell (heap_alloc_new wr _) 1).trans rfl)
                  have y2 := cellB hb2 ((blkCell (heap_alloc_new wr _) 2).trans rfl)
                  have hbr2 := thenB hbr hb2
                  replace hb2 := thenB hba hb2
                  have k1 := cellB hbr2 k0
                  go_wp2_with fail
                  go_quiet (fail)
                  go_wp2_with fail
                  refine wp_region_under (by kernel_rfl) (by kernel_rfl) ?_
                  have y0' := under_cell (w := w2.drewN nq) y0
                  have hd' := fun W => under_call (HD.out (under (w2.drewN nq) W) ((Below.drewN (n := nq) hbr2).trans ((under_below (w2.drewN nq) W).mono hbr2.size)))
                  repeat (go_big_quiet_step (with_reducible exact hd' _))
                  refine wpQuiet_nil ?_
                  intro _ hw'
                  obtain ⟨Wq, hw''⟩ := hw'
                  subst hw''
                  have hb3 := (Below.drewN (n := nq) hb2).trans ((under_below (w2.drewN nq) Wq).mono hb2.size)
                  go_wp2_with fail
                  go_ret
                  exact ⟨by rw [right_noT hlt (by simp [HF.out, hp, hl, hdd, hz0])]; rfl, hb3⟩
            · rw [hdd] at hbr hba
              by_cases hz9 : n > 0
              · have d2 : decide ((n : Int) > 0) = true := decide_eq_true (by omega)
                have hz1 : l[j].bs ≠ [] := by rintro e; have := HN.out; rw [e] at this; simp at this; omega
                have hz1 := hid hz1
                go_wp2_with fail
                refine (HP.out _).mono ?_
                rintro e w2 ⟨rfl, hb2⟩
                have y0 := cellB hb2 ((blkCell (heap_alloc_new wr _) 0).trans rfl)
                have y1 := cellB hb2 ((blkCell (heap_alloc_new wr _) 1).trans rfl)
                have y2 := cellB hb2 ((blkCell (heap_alloc_new wr _) 2).trans rfl)
                have hbr2 := thenB hbr hb2
                replace hb2 := thenB hba hb2
                have k1 := cellB hbr2 k0
                go_wp2_with fail
                go_quiet (fail)
                go_wp2_with fail
                go_ret
                exact ⟨by rw [right_noT hlt (by simp [HF.out, hp, hl, hdd, hz1.out])]; rfl, (Below.drewN hb2)⟩
              · have d2 : decide ((n : Int) > 0) = false := decide_eq_false (by omega)
                have hz1 : l[j].bs = [] := List.eq_nil_of_length_eq_zero (by have := HN.out; omega)
                have hz1 := hid hz1
                have d3 : decide ((n : Int) > 2000) = false := decide_eq_false (by omega)
                obtain ⟨D, hD⟩ : ∃ D, dirA ((l.map Itm.abs).take j) l[j].p.toList = D := ⟨_, rfl⟩
                rw [hD] at HD HF
                clear hD
                by_cases hz0 : D = 0
                · subst hz0
                  go_wp2_with fail
                  refine (HP.out _).mono ?_
                  rintro e w2 ⟨rfl, hb2⟩
                  have y0 := cellB hb2 ((blkCell (heap_alloc_new wr _) 0).trans rfl)
                  have y1 := cellB hb2 ((blkCell (heap_alloc_new wr _) 1).trans rfl)
                  have y2 := cellB hb2 ((blkCell (heap_alloc_new wr _) 2).trans rfl)
                  have hbr2 := thenB hbr hb2
                  replace hb2 := thenB hba hb2
                  have k1 := cellB hbr2 k0
                  go_wp2_with fail
                  go_quiet (fail)
                  go_wp2_with fail
                  refine wp_region_under (by kernel_rfl) (by kernel_rfl) ?_
                  have y0' := under_cell (w := w2.drewN nq) y0
                  have hd' := fun W => under_call (HD.out (under (w2.drewN nq) W) ((Below.drewN (n := nq) hbr2).trans ((under_below (w2.drewN nq) W).mono hbr2.size)))
                  repeat (go_big_quiet_step (with_reducible exact hd' _))
                  refine wpQuiet_nil ?_
                  intro _ hw'
                  obtain ⟨Wq, hw''⟩ := hw'
                  subst hw''
                  have hb3 := (Below.drewN (n := nq) hb2).trans ((under_below (w2.drewN nq) Wq).mono hb2.size)
                  go_wp2_with fail
                  go_roundg (l.length - (j + 1))
                  case measure => omega
                  case rel => exact ⟨j + 1, by omega, rfl, by go_num, hb3, fun k hk => by
                    rcases Nat.lt_or_ge k j with h1 | h1
                    · exact HT.out k h1
                    · rw [show k = j by omega]
                      simp [HF.out, hp, hl, hdd, hz1.out]⟩
                · have g2 : (D != 0) = true := by simp [hz0]
                  go_wp2_with fail
                  refine (HP.out _).mono ?_
                  rintro e w2 ⟨rfl, hb2⟩
                  have y0 := cellB hb2 ((blkCell (heap_alloc_new wr _) 0).trans rfl)
                  have y1 := cellB hb2 ((blkCell (heap_alloc_new wr _) 1).trans rfl)
                  have y2 := cellB hb2 ((blkCell (heap_alloc_new wr _) 2).trans rfl)
                  have hbr2 := thenB hbr hb2
                  replace hb2 := thenB hba hb2
                  have k1 := cellB hbr2 k0
                  go_wp2_with fail
                  go_quiet (fail)
                  go_wp2_with fail
                  refine wp_region_under (by kernel_rfl) (by kernel_rfl) ?_
                  have y0' := under_cell (w := w2.drewN nq) y0
                  have hd' := fun W => under_call (HD.out (under (w2.drewN nq) W) ((Below.drewN (n := nq) hbr2).trans ((under_below (w2.drewN nq) W).mono hbr2.size)))
                  repeat (go_big_quiet_step (with_reducible exact hd' _))
                  refine wpQuiet_nil ?_
                  intro _ hw'
                  obtain ⟨Wq, hw''⟩ := hw'
                  subst hw''
                  have hb3 := (Below.drewN (n := nq) hb2).trans ((under_below (w2.drewN nq) Wq).mono hb2.size)
                  go_wp2_with fail
                  go_ret
                  exact ⟨by rw [right_noT hlt (by simp [HF.out, hp, hl, hdd, hz1.out, hz0])]; rfl, hb3⟩
        · have d1 : decide ((j : Int) > 0) = false := decide_eq_false (by omega)
          have j0 : (j == 0) = true := by simp; omega
          cases hdd : l[j].d
          · rw [hdd] at hbr hba
            by_cases hz : n > 2000
            · have d3 : decide ((n : Int) > 2000) = true := decide_eq_true (by omega)
              go_wp2_with fail
              refine (HP.out _).mono ?_
              rintro e w2 ⟨rfl, hb2⟩
              have y0 := cellB hb2 ((blkCell (heap_alloc_new wr _) 0).trans rfl)
              have y1 := cellB hb2 ((blkCell (heap_alloc_new wr _) 1).trans rfl)
              have y2 := cellB hb2 ((blkCell (heap_alloc_new wr _) 2).trans rfl)
              have hbr2 := thenB hbr hb2
              replace hb2 := thenB hba hb2
              go_wp2_with fail
              go_quiet (fail)
              go_wp2_with fail
              go_ret
              exact ⟨by rw [right_noT hlt (by simp [HF.out, hp, j0, hdd, show ¬ l[j].bs.length ≤ 2000 by have := HN.out; omega])]; rfl, (Below.drewN hb2)⟩
            · have d3 : decide ((n : Int) > 2000) = false := decide_eq_false (by omega)
              obtain ⟨D, hD⟩ : ∃ D, dirA ((l.map Itm.abs).take j) l[j].p.toList = D := ⟨_, rfl⟩
              rw [hD] at HD HF
              clear hD
              by_cases hz0 : D = 0
              · subst hz0
                go_wp2_with fail
                refine (HP.out _).mono ?_
                rintro e w2 ⟨rfl, hb2⟩
                have y0 := cellB hb2 ((blkCell (heap_alloc_new wr _) 0).trans rfl)
                have y1 := cellB hb2 ((blkCell (heap_alloc_new wr _) 1).trans rfl)
                have y2 := cellB hb2 ((blkCell (heap_alloc_new wr _) 2).trans rfl)
                have hbr2 := thenB hbr hb2
                replace hb2 := thenB hba hb2
                go_wp2_with fail
                go_quiet (fail)
                go_wp2_with fail
                refine wp_region_under (by kernel_rfl) (by kernel_rfl) ?_
                have y0' := under_cell (w := w2.drewN nq) y0
                have hd' := fun W => under_call (HD.out (under (w2.drewN nq) W) ((Below.drewN (n := nq) hbr2).trans ((under_below (w2.drewN nq) W).mono hbr2.size)))
                repeat (go_big_quiet_step (with_reducible exact hd' _))
                refine wpQuiet_nil ?_
                intro _ hw'
                obtain ⟨Wq, hw''⟩ := hw'
                subst hw''
                have hb3 := (Below.drewN (n := nq) hb2).trans ((under_below (w2.drewN nq) Wq).mono hb2.size)
                go_wp2_with fail
                go_roundg (l.length - (j + 1))
                case measure => omega
                case rel => exact ⟨j + 1, by omega, rfl, by go_num, hb3, fun k hk => by
                  rcases Nat.lt_or_ge k j with h1 | h1
                  · exact HT.out k h1
                  · rw [show k = j by omega]
                    simp [HF.out, hp, j0, hdd, show l[j].bs.length ≤ 2000 by have := HN.out; omega]⟩
              · have g2 : (D != 0) = true := by simp [hz0]
                go_wp2_with fail
                refine (HP.out _).mono ?_
                rintro e w2 ⟨rfl, hb2⟩
                have y0 := cellB hb2 ((blkCell (heap_alloc_new wr _) 0).trans rfl)
                have y1 := cellB hb2 ((blkCell (heap_alloc_new wr _) 1).trans rfl)
                have y2 := cellB hb2 ((blkCell (heap_alloc_new wr _) 2).trans rfl)
                have hbr2 := thenB hbr hb2
                replace hb2 := thenB hba hb2
                go_wp2_with fail
                go_quiet (fail)
                go_wp2_with fail
                refine wp_region_under (by kernel_rfl) (by kernel_rfl) ?_
                have y0' := under_cell (w := w2.drewN nq) y0
                have hd' := fun W => under_call (HD.out (under (w2.drewN nq) W) ((Below.drewN (n := nq) hbr2).trans ((under_below (w2.drewN nq) W).mono hbr2.size)))
                repeat (go_big_quiet_step (with_reducible exact hd' _))
                refine wpQuiet_nil ?_
                intro _ hw'
                obtain ⟨Wq, hw''⟩ := hw'
                subst hw''
                have hb3 := (Below.drewN (n := nq) hb2).trans ((under_below (w2.drewN nq) Wq).mono hb2.size)
                go_wp2_with fail
                go_ret
                exact ⟨by rw [right_noT hlt (by simp [HF.out, hp, j0, hdd, hz0])]; rfl, hb3⟩
          · rw [hdd] at hbr hba
            by_cases hz9 : n > 0
            · have d2 : decide ((n : Int) > 0) = true := decide_eq_true (by omega)
              have hz1 : l[j].bs ≠ [] := by rintro e; have := HN.out; rw [e] at this; simp at this; omega
              have hz1 := hid hz1
              go_wp2_with fail
              refine (HP.out _).mono ?_
              rintro e w2 ⟨rfl, hb2⟩
              have y0 := cellB hb2 ((blkCell (heap_alloc_new wr _) 0).trans rfl)
              have y1 := cellB hb2 ((blkCell (heap_alloc_new wr _) 1).trans rfl)
              have y2 := cellB hb2 ((blkCell (heap_alloc_new wr _) 2).trans rfl)
              have hbr2 := thenB hbr hb2
              replace hb2 := thenB hba hb2
              go_wp2_with fail
              go_quiet (fail)
              go_wp2_with fail
              go_ret
              exact ⟨by rw [right_noT hlt (by simp [HF.out, hp, j0, hdd, hz1.out])]; rfl, (Below.drewN hb2)⟩
            · have d2 : decide ((n : Int) > 0) = false := decide_eq_false (by omega)
              have hz1 : l[j].bs = [] := List.eq_nil_of_length_eq_zero (by have := HN.out; omega)
              have hz1 := hid hz1
              have d3 : decide ((n : Int) > 2000) = false := decide_eq_false (by omega)
              obtain ⟨D, hD⟩ : ∃ D, dirA ((l.map Itm.abs).take j) l[j].p.toList = D := ⟨_, rfl⟩
              rw [hD] at HD HF
              clear hD
              by_cases hz0 : D = 0
              · subst hz0
                go_wp2_with fail
                refine (HP.out _).mono ?_
                rintro e w2 ⟨rfl, hb2⟩
                have y0 := cellB hb2 ((blkCell (heap_alloc_new wr _) 0).trans rfl)
                have y1 := cellB hb2 ((blkCell (heap_alloc_new wr _) 1).trans rfl)
                have y2 := cellB hb2 ((blkCell (heap_alloc_new wr _) 2).trans rfl)
                have hbr2 := thenB hbr hb2
                replace hb2 := thenB hba hb2
                go_wp2_with fail
                go_quiet (fail)
                go_wp2_with fail
                refine wp_region_under (by kernel_rfl) (by kernel_rfl) ?_
                have y0' := under_cell (w := w2.drewN nq) y0
                have hd' := fun W => under_call (HD.out (under (w2.drewN nq) W) ((Below.drewN (n := nq) hbr2).trans ((under_below (w2.drewN nq) W).mono hbr2.size)))
                repeat (go_big_quiet_step (with_reducible exact hd' _))
                refine wpQuiet_nil ?_
                intro _ hw'
                obtain ⟨Wq, hw''⟩ := hw'
                subst hw''
                have hb3 := (Below.drewN (n := nq) hb2).trans ((under_below (w2.drewN nq) Wq).mono hb2.size)
                go_wp2_with fail
                go_roundg (l.length - (j + 1))
                case measure => omega
                case rel => exact ⟨j + 1, by omega, rfl, by go_num, hb3, fun k hk => by
                  rcases Nat.lt_or_ge k j with h1 | h1
                  · exact HT.out k h1
                  · rw [show k = j by omega]
                    simp [HF.out, hp, j0, hdd, hz1.out]⟩
              · have g2 : (D != 0) = true := by simp [hz0]
                go_wp2_with fail
                refine (HP.out _).mono ?_
                rintro e w2 ⟨rfl, hb2⟩
                have y0 := cellB hb2 ((blkCell (heap_alloc_new wr _) 0).trans rfl)
                have y1 := cellB hb2 ((blkCell (heap_alloc_new wr _) 1).trans rfl)
                have y2 := cellB hb2 ((blkCell (heap_alloc_new wr _) 2).trans rfl)
                have hbr2 := thenB hbr hb2
                replace hb2 := thenB hba hb2
                go_wp2_with fail
                go_quiet (fail)
                go_wp2_with fail
                refine wp_region_under (by kernel_rfl) (by kernel_rfl) ?_
                have y0' := under_cell (w := w2.drewN nq) y0
                have hd' := fun W => under_call (HD.out (under (w2.drewN nq) W) ((Below.drewN (n := nq) hbr2).trans ((under_below (w2.drewN nq) W).mono hbr2.size)))
                repeat (go_big_quiet_step (with_reducible exact hd' _))
                refine wpQuiet_nil ?_
                intro _ hw'
                obtain ⟨Wq, hw''⟩ := hw'
                subst hw''
                have hb3 := (Below.drewN (n := nq) hb2).trans ((under_below (w2.drewN nq) Wq).mono hb2.size)
                go_wp2_with fail
                go_ret
                exact ⟨by rw [right_noT hlt (by simp [HF.out, hp, j0, hdd, hz1.out, hz0])]; rfl, hb3⟩
    · obtain rfl : j = l.length := by omega
      have d0 : decide ((l.length : Int) < (l.length : Int)) = false := decide_eq_false (by omega)
      go_wp2_with fail
      go_ret
      exact ⟨by rw [right_ofT (by simpa using HM.out) (by simpa using HT.out)]; rfl, hb1⟩

end Go.Proofs.YtfbbjfbnkcklgaaGreatDoor
