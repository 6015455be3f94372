/- steps in memory; which are right; what one makes, and many -/
import Derived.Test.YtheccdidfkcbbaaDoorQ1
import Derived.Test.YtheccdidfkcbbaaDoorB5
namespace Go.Proofs.YtheccdidfkcbbaaDoor
open Go.RowKit

/-- a step, with the place of its bytes -/
structure StI where
  k : Int
  p : ByteArray
  bA : Option Addr
  bc : Nat
  bs : List Int
instance : Inhabited StI := ⟨⟨0, ByteArray.empty, none, 0, []⟩⟩
def StI.abs (s : StI) : StA := ⟨s.k, s.p.toList, s.bs⟩
def StI.cells (s : StI) : List Value := [.int .i64 s.k, .string s.p, .slice s.bA s.bs.length s.bc]
structure StGood (w : World) (s : StI) : Prop where
  size : s.p.size ≤ 140737488351232
  len : s.bs.length ≤ 140737488351232
  src : Src w 1 (.slice s.bA s.bs.length s.bc) (nums s.bs)
  rng : ∀ b ∈ s.bs, 0 ≤ b ∧ b < 256
theorem StGood.below {w w' : World} {s : StI} (h : StGood w s) (hb : Below w.heap.size w w') : StGood w' s := ⟨h.size, h.len, h.src.below hb, h.rng⟩
theorem StGood.item {w : World} {s : StI} (h : StGood w s) : Good w ⟨s.p, false, s.bA, s.bc, s.bs⟩ := ⟨h.size, h.len, h.src, h.rng⟩
theorem st_len (s : StI) : s.cells.length = 3 := rfl
theorem st_one (s : StI) : ∀ u ∈ s.cells, u.oneCell' = true := by
  intro u hu
  simp [StI.cells] at hu
  rcases hu with rfl | rfl | rfl <;> rfl
/-- a slice of steps -/
structure Sts (w : World) (A : Option Addr) (c : Nat) (l : List StI) : Prop where
  recs : Recs StI.cells 3 w A c l
  max : l.length ≤ 1000000
  good : ∀ s ∈ l, StGood w s
theorem Sts.below {w w' : World} {A : Option Addr} {c : Nat} {l : List StI} (h : Sts w A c l) (hb : Below w.heap.size w w') : Sts w' A c l := ⟨h.recs.below hb, h.max, fun s hs => (h.good s hs).below hb⟩
theorem Sts.at {w : World} {A : Option Addr} {c : Nat} {l : List StI} (h : Sts w A c l) {i : Nat} (hi : i < l.length) : ∃ b off, A = some ⟨b, off, none⟩ ∧ w.cell? ⟨b, off + i * 3, none⟩ = some (.int .i64 l[i].k) ∧ w.cell? ⟨b, off + i * 3 + 1, none⟩ = some (.string l[i].p) ∧ w.cell? ⟨b, off + i * 3 + 2, none⟩ = some (.slice l[i].bA l[i].bs.length l[i].bc) ∧ StGood w l[i] := by
  obtain ⟨b, off, h0, h1⟩ := h.recs.cell i l[i] (List.getElem?_eq_getElem hi)
  exact ⟨b, off, h0, h1 0 _ rfl, h1 1 _ rfl, h1 2 _ rfl, h.good _ (List.getElem_mem hi)⟩
theorem Sts.none (w : World) : Sts w none 0 [] := ⟨Recs.none w, by simp, by simp⟩
theorem Sts.ofRow {w : World} {e : TypeId} {A : Option Addr} {n c : Nat} {l : List StI} (h : Row w e 3 (.slice A n c) (l.flatMap StI.cells)) (hg : ∀ s ∈ l, StGood w s) (hm : l.length ≤ 1000000) : n = l.length ∧ Sts w A c l := by
  obtain ⟨h1, h2⟩ := Recs.ofRow st_len (by omega) h
  exact ⟨h1, h2, hm, hg⟩

theorem stRight_k1 {s : StA} (h : ¬ 1 ≤ s.k) : stRight s = false := by unfold stRight; rw [decide_eq_false (show ¬ s.k ≥ 1 from h)]; rfl
theorem stRight_k3 {s : StA} (h : ¬ s.k ≤ 3) : stRight s = false := by unfold stRight; rw [decide_eq_false h, Bool.and_false]; rfl
theorem stRight_p {s : StA} (h : pathB s.p = false) : stRight s = false := by unfold stRight; rw [h, Bool.and_false]; rfl
theorem stRight_b {s : StA} (h : s.k ≠ 3) (h2 : s.b.length ≠ 0) : stRight s = false := by unfold stRight; simp [h, h2]
theorem stRight_n {s : StA} (h : ¬ s.b.length ≤ 2000) : stRight s = false := by unfold stRight; rw [decide_eq_false h, Bool.and_false]
theorem stRight_yes {s : StA} (h1 : 1 ≤ s.k) (h2 : s.k ≤ 3) (h3 : pathB s.p = true) (h4 : s.k = 3 ∨ s.b.length = 0) (h5 : s.b.length ≤ 2000) : stRight s = true := by
  unfold stRight
  simp only [Bool.and_eq_true, Bool.or_eq_true, decide_eq_true_eq, beq_iff_eq]
  exact ⟨⟨⟨⟨h1, h2⟩, h3⟩, h4⟩, h5⟩


set_option maxRecDepth 100000 in
set_option maxHeartbeats 4000000 in
theorem stright_walk (s : StI) (w : World) (h : StGood w s) :
    Calls Tryd.prog 20 #[.agg #[.int .i64 s.k, .string s.p, .slice s.bA s.bs.length s.bc]] w fun e w' => e = .returned (.bool (stRight s.abs)) ∧ Below w.heap.size w w' := by
  have hb0 := thenA (Below.refl _ w) (.cells #[.int .i64 s.k, .string s.p, .slice s.bA s.bs.length s.bc] 35 (0, 0))
  have HP : HidP (∀ W, Calls Tryd.prog 37 #[.string s.p] W fun e w' => e = .returned (.bool (pathB s.p.toList)) ∧ Below W.heap.size W w') := hid (fun W => path_walk s.p h.size W)
  by_cases k1 : 1 ≤ s.k
  case neg =>
    rw [stRight_k1 (s := s.abs) k1]
    have g1 : decide (s.k ≥ 1) = false := decide_eq_false k1
    have g2 : decide (1 ≤ s.k) = false := decide_eq_false k1
    clear k1
    go_enter Tryd.func20, Tryd.ntmps20
    go_wp2_with fail
    go_ret
    exact ⟨rfl, hb0⟩
  have g1 : decide (s.k ≥ 1) = true := decide_eq_true k1
  have g2 : decide (1 ≤ s.k) = true := decide_eq_true k1
  have K1 := hid k1
  by_cases k3 : s.k ≤ 3
  case neg =>
    rw [stRight_k3 (s := s.abs) k3]
    have g3 : decide (s.k ≤ 3) = false := decide_eq_false k3
    clear k1 k3
    go_enter Tryd.func20, Tryd.ntmps20
    go_wp2_with fail
    go_ret
    exact ⟨rfl, hb0⟩
  have g3 : decide (s.k ≤ 3) = true := decide_eq_true k3
  have K3 := hid k3
  clear k1 k3
  cases hp : pathB s.p.toList
  · rw [hp] at HP
    rw [stRight_p (s := s.abs) hp]
    clear hp
    go_enter Tryd.func20, Tryd.ntmps20
    go_wp2_with fail
    refine (HP.out _).mono ?_
    rintro e w1 ⟨rfl, hb1⟩
    have hb2 := thenB hb0 hb1
    go_wp2_with fail
    go_ret
    exact ⟨rfl, hb2⟩
  rw [hp] at HP
  have HPP := hid hp
  clear hp
  obtain ⟨N, hN⟩ : ∃ N, s.bs.length = N := ⟨_, rfl⟩
  by_cases h2 : N ≤ 2000
  case neg =>
    rw [stRight_n (s := s.abs) (by show ¬ s.bs.length ≤ 2000; rw [hN]; exact h2)]
    rw [hN] at hb0 ⊢
    have d1 : decide ((N : Int) ≤ 2000) = false := decide_eq_false (by omega)
    have d2 : ((N : Int) == 0) = false := by simp; omega
    have d3 : decide (N = 0) = false := by simp; omega
    clear hN h2
    cases k : (s.k == 3)
    all_goals
      go_enter Tryd.func20, Tryd.ntmps20
      go_wp2_with fail
      refine (HP.out _).mono ?_
      rintro e w1 ⟨rfl, hb1⟩
      have y0 := cellB hb1 ((blkCell (heap_alloc_new w _) 0).trans rfl)
      have y1 := cellB hb1 ((blkCell (heap_alloc_new w _) 1).trans rfl)
      have y2 := cellB hb1 ((blkCell (heap_alloc_new w _) 2).trans rfl)
      have hb2 := thenB hb0 hb1
      go_wp2_with fail
      go_ret
      exact ⟨rfl, hb2⟩
  have d1 : decide ((N : Int) ≤ 2000) = true := decide_eq_true (by omega)
  cases k : (s.k == 3)
  · have k' : s.k ≠ 3 := by simpa using k
    by_cases h0 : N = 0
    · rw [stRight_yes (s := s.abs) K1.out K3.out HPP.out (.inr (by show s.bs.length = 0; rw [hN]; exact h0)) (by show s.bs.length ≤ 2000; rw [hN]; exact h2)]
      rw [hN] at hb0 ⊢
      subst h0
      clear hN h2 k'
      go_enter Tryd.func20, Tryd.ntmps20
      go_wp2_with fail
      refine (HP.out _).mono ?_
      rintro e w1 ⟨rfl, hb1⟩
      have y0 := cellB hb1 ((blkCell (heap_alloc_new w _) 0).trans rfl)
      have y1 := cellB hb1 ((blkCell (heap_alloc_new w _) 1).trans rfl)
      have y2 := cellB hb1 ((blkCell (heap_alloc_new w _) 2).trans rfl)
      have hb2 := thenB hb0 hb1
      go_wp2_with fail
      go_ret
      exact ⟨rfl, hb2⟩
    · rw [stRight_b (s := s.abs) k' (by show s.bs.length ≠ 0; rw [hN]; exact h0)]
      rw [hN] at hb0 ⊢
      have d2 : ((N : Int) == 0) = false := by simp; omega
      clear hN h2 k'
      go_enter Tryd.func20, Tryd.ntmps20
      go_wp2_with fail
      refine (HP.out _).mono ?_
      rintro e w1 ⟨rfl, hb1⟩
      have y0 := cellB hb1 ((blkCell (heap_alloc_new w _) 0).trans rfl)
      have y1 := cellB hb1 ((blkCell (heap_alloc_new w _) 1).trans rfl)
      have y2 := cellB hb1 ((blkCell (heap_alloc_new w _) 2).trans rfl)
      have hb2 := thenB hb0 hb1
      go_wp2_with fail
      go_ret
      exact ⟨rfl, hb2⟩
  · have k' : s.k = 3 := by simpa using k
    rw [stRight_yes (s := s.abs) K1.out K3.out HPP.out (.inl k') (by show s.bs.length ≤ 2000; rw [hN]; exact h2)]
    rw [hN] at hb0 ⊢
    clear hN h2 k'
    go_enter Tryd.func20, Tryd.ntmps20
    go_wp2_with fail
    refine (HP.out _).mono ?_
    rintro e w1 ⟨rfl, hb1⟩
    have y0 := cellB hb1 ((blkCell (heap_alloc_new w _) 0).trans rfl)
    have y1 := cellB hb1 ((blkCell (heap_alloc_new w _) 1).trans rfl)
    have y2 := cellB hb1 ((blkCell (heap_alloc_new w _) 2).trans rfl)
    have hb2 := thenB hb0 hb1
    go_wp2_with fail
    go_ret
    exact ⟨rfl, hb2⟩


set_option maxRecDepth 100000 in
set_option maxHeartbeats 4000000 in
theorem refstright (s : StI) (w : World) (h : StGood w s) :
    Calls Tryd.prog 21 #[.agg #[.int .i64 s.k, .string s.p, .slice s.bA s.bs.length s.bc]] w fun e w' => e = .returned (.bool (stRight s.abs)) ∧ Below w.heap.size w w' := by
  have hb0 := thenA (Below.refl _ w) (.cells #[.int .i64 s.k, .string s.p, .slice s.bA s.bs.length s.bc] 52 (0, 0))
  have HP : HidP (∀ W, Calls Tryd.prog 38 #[.string s.p] W fun e w' => e = .returned (.bool (pathB s.p.toList)) ∧ Below W.heap.size W w') := hid (fun W => refpath s.p W)
  by_cases k1 : 1 ≤ s.k
  case neg =>
    rw [stRight_k1 (s := s.abs) k1]
    have g1 : decide (s.k ≥ 1) = false := decide_eq_false k1
    have g2 : decide (1 ≤ s.k) = false := decide_eq_false k1
    clear k1
    go_enter Tryd.func21, Tryd.ntmps21
    go_wp2_with fail
    go_ret
    exact ⟨rfl, hb0⟩
  have g1 : decide (s.k ≥ 1) = true := decide_eq_true k1
  have g2 : decide (1 ≤ s.k) = true := decide_eq_true k1
  have K1 := hid k1
  by_cases k3 : s.k ≤ 3
  case neg =>
    rw [stRight_k3 (s := s.abs) k3]
    have g3 : decide (s.k ≤ 3) = false := decide_eq_false k3
    clear k1 k3
    go_enter Tryd.func21, Tryd.ntmps21
    go_wp2_with fail
    go_ret
    exact ⟨rfl, hb0⟩
  have g3 : decide (s.k ≤ 3) = true := decide_eq_true k3
  have K3 := hid k3
  clear k1 k3
  cases hp : pathB s.p.toList
  · rw [hp] at HP
    rw [stRight_p (s := s.abs) hp]
    clear hp
    go_enter Tryd.func21, Tryd.ntmps21
    go_wp2_with fail
    refine (HP.out _).mono ?_
    rintro e w1 ⟨rfl, hb1⟩
    have hb2 := thenB hb0 hb1
    go_wp2_with fail
    go_ret
    exact ⟨rfl, hb2⟩
  rw [hp] at HP
  have HPP := hid hp
  clear hp
  obtain ⟨N, hN⟩ : ∃ N, s.bs.length = N := ⟨_, rfl⟩
  by_cases h2 : N ≤ 2000
  case neg =>
    rw [stRight_n (s := s.abs) (by show ¬ s.bs.length ≤ 2000; rw [hN]; exact h2)]
    rw [hN] at hb0 ⊢
    have d1 : decide ((N : Int) ≤ 2000) = false := decide_eq_false (by omega)
    have d2 : ((N : Int) == 0) = false := by simp; omega
    have d3 : decide (N = 0) = false := by simp; omega
    clear hN h2
    cases k : (s.k == 3)
    all_goals
      go_enter Tryd.func21, Tryd.ntmps21
      go_wp2_with fail
      refine (HP.out _).mono ?_
      rintro e w1 ⟨rfl, hb1⟩
      have y0 := cellB hb1 ((blkCell (heap_alloc_new w _) 0).trans rfl)
      have y1 := cellB hb1 ((blkCell (heap_alloc_new w _) 1).trans rfl)
      have y2 := cellB hb1 ((blkCell (heap_alloc_new w _) 2).trans rfl)
      have hb2 := thenB hb0 hb1
      go_wp2_with fail
      go_ret
      exact ⟨rfl, hb2⟩
  have d1 : decide ((N : Int) ≤ 2000) = true := decide_eq_true (by omega)
  cases k : (s.k == 3)
  · have k' : s.k ≠ 3 := by simpa using k
    by_cases h0 : N = 0
    · rw [stRight_yes (s := s.abs) K1.out K3.out HPP.out (.inr (by show s.bs.length = 0; rw [hN]; exact h0)) (by show s.bs.length ≤ 2000; rw [hN]; exact h2)]
      rw [hN] at hb0 ⊢
      subst h0
      clear hN h2 k'
      go_enter Tryd.func21, Tryd.ntmps21
      go_wp2_with fail
      refine (HP.out _).mono ?_
      rintro e w1 ⟨rfl, hb1⟩
      have y0 := cellB hb1 ((blkCell (heap_alloc_new w _) 0).trans rfl)
      have y1 := cellB hb1 ((blkCell (heap_alloc_new w _) 1).trans rfl)
      have y2 := cellB hb1 ((blkCell (heap_alloc_new w _) 2).trans rfl)
      have hb2 := thenB hb0 hb1
      go_wp2_with fail
      go_ret
      exact ⟨rfl, hb2⟩
    · rw [stRight_b (s := s.abs) k' (by show s.bs.length ≠ 0; rw [hN]; exact h0)]
      rw [hN] at hb0 ⊢
      have d2 : ((N : Int) == 0) = false := by simp; omega
      clear hN h2 k'
      go_enter Tryd.func21, Tryd.ntmps21
      go_wp2_with fail
      refine (HP.out _).mono ?_
      rintro e w1 ⟨rfl, hb1⟩
      have y0 := cellB hb1 ((blkCell (heap_alloc_new w _) 0).trans rfl)
      have y1 := cellB hb1 ((blkCell (heap_alloc_new w _) 1).trans rfl)
      have y2 := cellB hb1 ((blkCell (heap_alloc_new w _) 2).trans rfl)
      have hb2 := thenB hb0 hb1
      go_wp2_with fail
      go_ret
      exact ⟨rfl, hb2⟩
  · have k' : s.k = 3 := by simpa using k
    rw [stRight_yes (s := s.abs) K1.out K3.out HPP.out (.inl k') (by show s.bs.length ≤ 2000; rw [hN]; exact h2)]
    rw [hN] at hb0 ⊢
    clear hN h2 k'
    go_enter Tryd.func21, Tryd.ntmps21
    go_wp2_with fail
    refine (HP.out _).mono ?_
    rintro e w1 ⟨rfl, hb1⟩
    have y0 := cellB hb1 ((blkCell (heap_alloc_new w _) 0).trans rfl)
    have y1 := cellB hb1 ((blkCell (heap_alloc_new w _) 1).trans rfl)
    have y2 := cellB hb1 ((blkCell (heap_alloc_new w _) 2).trans rfl)
    have hb2 := thenB hb0 hb1
    go_wp2_with fail
    go_ret
    exact ⟨rfl, hb2⟩


set_option maxRecDepth 100000 in
set_option maxHeartbeats 4000000 in
theorem ston_walk (A : Option Addr) (c : Nat) (l : List Itm) (s : StI) (w : World) (h : Tr w A c l) (hs : StGood w s) :
    Calls Tryd.prog 31 #[.agg #[.int .i64 s.k, .string s.p, .slice s.bA s.bs.length s.bc], .slice A l.length c] w fun e w' => (∃ B d l' f, e = .returned (.tuple #[.slice B l'.length d, .int .i64 f]) ∧ Tr w' B d l' ∧ (l'.map Itm.abs, f) = onA (l.map Itm.abs) s.abs) ∧ Below w.heap.size w w' := by
  have hb0 := thenA (Below.refl _ w) (.cells #[.int .i64 s.k, .string s.p, .slice s.bA s.bs.length s.bc] 35 (0, 0))
  have hp := hs.size
  have HH := hid h
  have HS := hid hs
  clear h hs
  by_cases h0 : s.k = 1
  · have g0 : (s.k == 1) = true := by simp [h0]
    have HK0 := hid h0
    clear h0
    go_enter Tryd.func31, Tryd.ntmps31
    go_wp2_with fail
    refine (remove_walk A c l s.p true _ (HH.out.below hb0) hp).mono ?_
    rintro e w1 ⟨⟨B, d, l', f, rfl, ht, hl⟩, hb1⟩
    replace hl := hid hl
    have hb2 := thenB hb0 hb1
    go_wp2_with fail
    go_ret2
    exact ⟨⟨B, d, l', f, rfl, ht, by rw [hl.out]; unfold onA; rw [if_pos (show s.abs.k = 1 from HK0.out)]; rfl⟩, hb2⟩
  have g0 : (s.k == 1) = false := by simp [h0]
  have H0 := hid h0
  clear h0
  by_cases h1 : s.k = 2
  · have g1 : (s.k == 2) = true := by simp [h1]
    have HK1 := hid h1
    clear h1
    go_enter Tryd.func31, Tryd.ntmps31
    go_wp2_with fail
    refine (mkdir_walk A c l s.p _ (HH.out.below hb0) hp).mono ?_
    rintro e w1 ⟨⟨B, d, l', f, rfl, ht, hl⟩, hb1⟩
    replace hl := hid hl
    have hb2 := thenB hb0 hb1
    go_wp2_with fail
    go_ret2
    exact ⟨⟨B, d, l', f, rfl, ht, by rw [hl.out]; unfold onA; rw [if_neg (show ¬ s.abs.k = 1 from H0.out), if_pos (show s.abs.k = 2 from HK1.out)]; rfl⟩, hb2⟩
  have g1 : (s.k == 2) = false := by simp [h1]
  have H1 := hid h1
  clear h1
  go_enter Tryd.func31, Tryd.ntmps31
  go_wp2_with fail
  refine (write_walk A c l s.p s.bA s.bc s.bs _ (HH.out.below hb0) (HS.out.below hb0).item).mono ?_
  rintro e w1 ⟨⟨B, d, l', f, rfl, ht, hl⟩, hb1⟩
  replace hl := hid hl
  have hb2 := thenB hb0 hb1
  go_wp2_with fail
  go_ret2
  exact ⟨⟨B, d, l', f, rfl, ht, by rw [hl.out]; unfold onA; rw [if_neg (show ¬ s.abs.k = 1 from H0.out), if_neg (show ¬ s.abs.k = 2 from H1.out)]; rfl⟩, hb2⟩

set_option maxRecDepth 100000 in
set_option maxHeartbeats 4000000 in
theorem stdo_walk (A : Option Addr) (c : Nat) (l : List Itm) (s : StI) (w : World) (h : Tr w A c l) (hs : StGood w s) :
    Calls Tryd.prog 13 #[.slice A l.length c, .agg #[.int .i64 s.k, .string s.p, .slice s.bA s.bs.length s.bc]] w fun e w' => (∃ B d l' f, e = .returned (.tuple #[.slice B l'.length d, .int .i64 f]) ∧ Tr w' B d l' ∧ (l'.map Itm.abs, f) = sdoA (l.map Itm.abs) s.abs) ∧ Below w.heap.size w w' := by
  have hb0 := thenA (Below.refl _ w) (.cells #[.int .i64 s.k, .string s.p, .slice s.bA s.bs.length s.bc] 35 (0, 0))
  have HR := hid (stright_walk s _ (hs.below hb0))
  have HO := hid (fun W (hW : Below w.heap.size w W) => ston_walk A c l s W (h.below hW) (hs.below hW))
  clear h hs
  cases hr : stRight s.abs
  · rw [hr] at HR
    go_enter Tryd.func13, Tryd.ntmps13
    go_wp2_with fail
    refine HR.out.mono ?_
    rintro e w1 ⟨rfl, hb1⟩
    have hb2 := thenB hb0 hb1
    go_wp2_with fail
    go_ret2
    exact ⟨⟨none, 0, [], 1, rfl, Tr.none _, by unfold sdoA; rw [if_pos hr]; rfl⟩, hb2⟩
  · rw [hr] at HR
    go_enter Tryd.func13, Tryd.ntmps13
    go_wp2_with fail
    refine HR.out.mono ?_
    rintro e w1 ⟨rfl, hb1⟩
    have y0 := cellB hb1 ((blkCell (heap_alloc_new w _) 0).trans rfl)
    have y1 := cellB hb1 ((blkCell (heap_alloc_new w _) 1).trans rfl)
    have y2 := cellB hb1 ((blkCell (heap_alloc_new w _) 2).trans rfl)
    have hb2 := thenB hb0 hb1
    go_wp2_with fail
    refine (HO.out _ hb2).mono ?_
    rintro e w2 ⟨⟨B, d, l', f, rfl, ht, hl⟩, hb3⟩
    replace hl := hid hl
    have hb4 := thenB hb2 hb3
    go_wp2_with fail
    go_ret2
    exact ⟨⟨B, d, l', f, rfl, ht, by rw [hl.out]; unfold sdoA; rw [if_neg (by rw [hr]; simp)]⟩, hb4⟩

set_option maxRecDepth 100000 in
set_option maxHeartbeats 4000000 in
theorem refstdo (A : Option Addr) (c : Nat) (l : List Itm) (s : StI) (w : World) (h : Tr w A c l) (hs : StGood w s) :
    Calls Tryd.prog 19 #[.slice A l.length c, .agg #[.int .i64 s.k, .string s.p, .slice s.bA s.bs.length s.bc]] w fun e w' => (∃ B d l' f, e = .returned (.tuple #[.slice B l'.length d, .int .i64 f]) ∧ Tr w' B d l' ∧ (l'.map Itm.abs, f) = sdoA (l.map Itm.abs) s.abs) ∧ Below w.heap.size w w' := by
  have hb0 := thenA (Below.refl _ w) (.cells #[.int .i64 s.k, .string s.p, .slice s.bA s.bs.length s.bc] 52 (0, 0))
  have HR := hid (refstright s _ (hs.below hb0))
  have hp := hs.size
  have HH := hid (fun W (hW : Below w.heap.size w W) => h.below hW)
  have HS := hid (fun W (hW : Below w.heap.size w W) => hs.below hW)
  clear h hs
  cases hr : stRight s.abs
  · rw [hr] at HR
    go_enter Tryd.func19, Tryd.ntmps19
    go_wp2_with fail
    refine HR.out.mono ?_
    rintro e w1 ⟨rfl, hb1⟩
    have hb2 := thenB hb0 hb1
    go_wp2_with fail
    go_ret2
    exact ⟨⟨none, 0, [], 1, rfl, Tr.none _, by unfold sdoA; rw [if_pos hr]; rfl⟩, hb2⟩
  rw [hr] at HR
  have hso : sdoA (l.map Itm.abs) s.abs = onA (l.map Itm.abs) s.abs := by unfold sdoA; rw [if_neg (by rw [hr]; simp)]
  rw [hso]
  clear hso hr
  by_cases h0 : s.k = 1
  · have g0 : (s.k == 1) = true := by simp [h0]
    have HK0 := hid h0
    clear h0
    go_enter Tryd.func19, Tryd.ntmps19
    go_wp2_with fail
    refine HR.out.mono ?_
    rintro e w1 ⟨rfl, hb1⟩
    have y0 := cellB hb1 ((blkCell (heap_alloc_new w _) 0).trans rfl)
    have y1 := cellB hb1 ((blkCell (heap_alloc_new w _) 1).trans rfl)
    have y2 := cellB hb1 ((blkCell (heap_alloc_new w _) 2).trans rfl)
    have hb2 := thenB hb0 hb1
    go_wp2_with fail
    refine (refremove A c l s.p true _ (HH.out _ hb2) hp).mono ?_
    rintro e w2 ⟨⟨B, d, l', f, rfl, ht, hl⟩, hb3⟩
    replace hl := hid hl
    have hb4 := thenB hb2 hb3
    go_wp2_with fail
    go_ret2
    exact ⟨⟨B, d, l', f, rfl, ht, by rw [hl.out]; unfold onA; rw [if_pos (show s.abs.k = 1 from HK0.out)]; rfl⟩, hb4⟩
  have g0 : (s.k == 1) = false := by simp [h0]
  have H0 := hid h0
  clear h0
  by_cases h1 : s.k = 2
  · have g1 : (s.k == 2) = true := by simp [h1]
    have HK1 := hid h1
    clear h1
    go_enter Tryd.func19, Tryd.ntmps19
    go_wp2_with fail
    refine HR.out.mono ?_
    rintro e w1 ⟨rfl, hb1⟩
    have y0 := cellB hb1 ((blkCell (heap_alloc_new w _) 0).trans rfl)
    have y1 := cellB hb1 ((blkCell (heap_alloc_new w _) 1).trans rfl)
    have y2 := cellB hb1 ((blkCell (heap_alloc_new w _) 2).trans rfl)
    have hb2 := thenB hb0 hb1
    go_wp2_with fail
    refine (refmkdir A c l s.p _ (HH.out _ hb2) hp).mono ?_
    rintro e w2 ⟨⟨B, d, l', f, rfl, ht, hl⟩, hb3⟩
    replace hl := hid hl
    have hb4 := thenB hb2 hb3
    go_wp2_with fail
    go_ret2
    exact ⟨⟨B, d, l', f, rfl, ht, by rw [hl.out]; unfold onA; rw [if_neg (show ¬ s.abs.k = 1 from H0.out), if_pos (show s.abs.k = 2 from HK1.out)]; rfl⟩, hb4⟩
  have g1 : (s.k == 2) = false := by simp [h1]
  have H1 := hid h1
  clear h1
  go_enter Tryd.func19, Tryd.ntmps19
  go_wp2_with fail
  refine HR.out.mono ?_
  rintro e w1 ⟨rfl, hb1⟩
  have y0 := cellB hb1 ((blkCell (heap_alloc_new w _) 0).trans rfl)
  have y1 := cellB hb1 ((blkCell (heap_alloc_new w _) 1).trans rfl)
  have y2 := cellB hb1 ((blkCell (heap_alloc_new w _) 2).trans rfl)
  have hb2 := thenB hb0 hb1
  go_wp2_with fail
  refine (refwrite A c l s.p s.bA s.bc s.bs _ (HH.out _ hb2) (HS.out _ hb2).item).mono ?_
  rintro e w2 ⟨⟨B, d, l', f, rfl, ht, hl⟩, hb3⟩
  replace hl := hid hl
  have hb4 := thenB hb2 hb3
  go_wp2_with fail
  go_ret2
  exact ⟨⟨B, d, l', f, rfl, ht, by rw [hl.out]; unfold onA; rw [if_neg (show ¬ s.abs.k = 1 from H0.out), if_neg (show ¬ s.abs.k = 2 from H1.out)]; rfl⟩, hb4⟩

end Go.Proofs.YtheccdidfkcbbaaDoor