/- many steps; what they cost; how they are told; own, light -/
import Derived.Test.YtheccdidfkcbbaaDoorG2
import Derived.Test.YtheccdidfkcbbaaDoorQ2
import Derived.Laws.Concat
namespace Go.Proofs.YtheccdidfkcbbaaDoor
open Go.RowKit

theorem underA_nil (t : List AIt) : underA t [] = t := by
  unfold underA
  rw [List.filter_eq_self]
  intro x _
  unfold withinA
  simp
theorem srunA_zero {t : List AIt} {s : StA} {r : List StA} {i : Nat} (h : (sdoA t s).2 = 0) : srunA t (s :: r) i = srunA (sdoA t s).1 r (i + 1) := by conv => lhs; unfold srunA; rw [if_pos h]
theorem srunA_not {t : List AIt} {s : StA} {r : List StA} {i : Nat} (h : (sdoA t s).2 ≠ 0) : srunA t (s :: r) i = (t, i, (sdoA t s).2) := by conv => lhs; unfold srunA; rw [if_neg h]

set_option maxRecDepth 100000 in
set_option maxHeartbeats 4000000 in
theorem strun_walk (A : Option Addr) (c : Nat) (l : List Itm) (B : Option Addr) (d : Nat) (m : List StI) (w : World) (h : Tr w A c l) (hs : Sts w B d m) :
    Calls Tryd.prog 14 #[.slice A l.length c, .slice B m.length d] w fun e w' => (∃ (C : Option Addr) (u : Nat) (l' : List Itm) (n : Nat) (f : Int), e = .returned (.tuple #[.slice C l'.length u, .int .i64 n, .int .i64 f]) ∧ Tr w' C u l' ∧ (l'.map Itm.abs, n, f) = srunA (l.map Itm.abs) (m.map StI.abs) 0) ∧ Below w.heap.size w w' := by
  have HU := under_walk A c l ⟨#[]⟩ w h
  rw [show (⟨#[]⟩ : ByteArray).toList = [] from toList_lit _, underA_nil] at HU
  replace HU := hid HU
  have hmax := hs.max
  clear h
  go_enter Tryd.func14, Tryd.ntmps14
  go_wp2_with fail
  refine HU.out.mono ?_
  rintro e w1 ⟨⟨C, u, l1, rfl, ht1, hm1⟩, hb1⟩
  replace hm1 := hid hm1
  go_wp2_with fail
  go_loopg [0, 15] m.length (fun k t i wr => ∃ (j : Nat) (tA : Option Addr) (tc : Nat) (t1 : List Itm), j ≤ m.length ∧ k = m.length - j ∧ i = .int .i64 j ∧ t = .slice tA t1.length tc ∧ Tr wr tA tc t1 ∧ Below w.heap.size w wr ∧
    srunA (l.map Itm.abs) (m.map StI.abs) 0 = srunA (t1.map Itm.abs) ((m.map StI.abs).drop j) j)
  case atStart => exact ⟨0, C, u, l1, Nat.zero_le _, rfl, rfl, rfl, ht1, hb1, by rw [hm1.out]; rfl⟩
  case round =>
    obtain ⟨j, tA, tc, t1, hj, rfl, rfl, rfl, ht, hb, heq⟩ := hrel
    by_cases hlt : j < m.length
    · have i0 : (0 : Int) ≤ (j : Int) := by omega
      have i1 : (j : Int) < (m.length : Int) := by omega
      obtain ⟨b, off, hA, c0, c1, c2, hg⟩ := (hs.below hb).at hlt
      subst hA
      have hdr : (m.map StI.abs).drop j = m[j].abs :: (m.map StI.abs).drop (j + 1) := by
        rw [List.drop_eq_getElem_cons (by simpa using hlt), List.getElem_map]
      rw [hdr] at heq
      have HEQ := hid heq
      have hba := thenA (Below.refl _ wr) (.cells #[.int .i64 m[j].k, .string m[j].p, .slice m[j].bA m[j].bs.length m[j].bc] 35 (0, 0))
      have HDO := hid (stdo_walk tA tc t1 m[j] _ (ht.below hba) (hg.below hba))
      have HTT := hid ht
      have hba' := thenB hb hba
      clear ht hg hdr heq hs
      go_wp2_with fail
      refine HDO.out.mono ?_
      rintro e w2 ⟨⟨aA, ac, a1, f, rfl, ha, hae⟩, hb2⟩
      replace hae := hid hae
      have hb2' := thenB hba' hb2
      have hb3 := thenB hba hb2
      by_cases hf0 : f = 0
      · subst hf0
        go_wp2_with fail
        go_roundg (m.length - (j + 1))
        case measure => omega
        case rel => exact ⟨j + 1, aA, ac, a1, by omega, rfl, by go_num, rfl, ha, hb2', by rw [HEQ.out, srunA_zero (by rw [← hae.out]), ← hae.out]⟩
      · have g0 : (f == 0) = false := by simp [hf0]
        have HF0 := hid hf0
        clear hf0
        go_wp2_with fail
        go_ret3
        exact ⟨⟨_, _, _, j, f, rfl, HTT.out.below hb3, by rw [HEQ.out, srunA_not (by rw [← hae.out]; exact HF0.out), ← hae.out]⟩, hb2'⟩
    · obtain rfl : j = m.length := by omega
      rw [List.drop_of_length_le (by simp)] at heq
      have HEQ := hid heq
      clear heq
      go_wp2_with fail
      go_ret3
      exact ⟨⟨_, _, _, m.length, 0, rfl, ht, by rw [HEQ.out]; rfl⟩, hb⟩

set_option maxRecDepth 100000 in
set_option maxHeartbeats 4000000 in
theorem refstrun (A : Option Addr) (c : Nat) (l : List Itm) (B : Option Addr) (d : Nat) (m : List StI) (w : World) (h : Tr w A c l) (hs : Sts w B d m) :
    Calls Tryd.prog 22 #[.slice A l.length c, .slice B m.length d] w fun e w' => (∃ (C : Option Addr) (u : Nat) (l' : List Itm) (n : Nat) (f : Int), e = .returned (.tuple #[.slice C l'.length u, .int .i64 n, .int .i64 f]) ∧ Tr w' C u l' ∧ (l'.map Itm.abs, n, f) = srunA (l.map Itm.abs) (m.map StI.abs) 0) ∧ Below w.heap.size w w' := by
  have hmax := hs.max
  go_enter Tryd.func22, Tryd.ntmps22
  go_wp2_with fail
  go_loopg [0, 7] m.length (fun k t i wr => ∃ (j : Nat) (tA : Option Addr) (tc : Nat) (t1 : List Itm), j ≤ m.length ∧ k = m.length - j ∧ i = .int .i64 j ∧ t = .slice tA t1.length tc ∧ Tr wr tA tc t1 ∧ Below w.heap.size w wr ∧
    srunA (l.map Itm.abs) (m.map StI.abs) 0 = srunA (t1.map Itm.abs) ((m.map StI.abs).drop j) j)
  case atStart => exact ⟨0, A, c, l, Nat.zero_le _, rfl, rfl, rfl, h, Below.refl _ _, rfl⟩
  case round =>
    obtain ⟨j, tA, tc, t1, hj, rfl, rfl, rfl, ht, hb, heq⟩ := hrel
    clear h
    by_cases hlt : j < m.length
    · have i0 : (0 : Int) ≤ (j : Int) := by omega
      have i1 : (j : Int) < (m.length : Int) := by omega
      obtain ⟨b, off, hA, c0, c1, c2, hg⟩ := (hs.below hb).at hlt
      subst hA
      have hdr : (m.map StI.abs).drop j = m[j].abs :: (m.map StI.abs).drop (j + 1) := by
        rw [List.drop_eq_getElem_cons (by simpa using hlt), List.getElem_map]
      rw [hdr] at heq
      have HEQ := hid heq
      have HDO := hid (refstdo tA tc t1 m[j] _ ht hg)
      have HTT := hid ht
      clear ht hg hdr heq hs
      go_wp2_with fail
      refine HDO.out.mono ?_
      rintro e w2 ⟨⟨aA, ac, a1, f, rfl, ha, hae⟩, hb2⟩
      replace hae := hid hae
      have hb2' := thenB hb hb2
      by_cases hf0 : f = 0
      · subst hf0
        go_wp2_with fail
        go_roundg (m.length - (j + 1))
        case measure => omega
        case rel => exact ⟨j + 1, aA, ac, a1, by omega, rfl, by go_num, rfl, ha, hb2', by rw [HEQ.out, srunA_zero (by rw [← hae.out]), ← hae.out]⟩
      · have g0 : (f == 0) = false := by simp [hf0]
        have HF0 := hid hf0
        clear hf0
        go_wp2_with fail
        go_ret3
        exact ⟨⟨_, _, _, j, f, rfl, HTT.out.below hb2, by rw [HEQ.out, srunA_not (by rw [← hae.out]; exact HF0.out), ← hae.out]⟩, hb2'⟩
    · obtain rfl : j = m.length := by omega
      rw [List.drop_of_length_le (by simp)] at heq
      have HEQ := hid heq
      clear heq
      go_wp2_with fail
      go_ret3
      exact ⟨⟨_, _, _, m.length, 0, rfl, ht, by rw [HEQ.out]; rfl⟩, hb⟩

set_option maxRecDepth 100000 in
set_option maxHeartbeats 1600000 in
theorem cost_walk (A : Option Addr) (c : Nat) (l : List StI) (w : World) (h : Sts w A c l) (hs : costA (l.map StI.abs) ≤ 140737488351232) :
    Calls Tryd.prog 11 #[.slice A l.length c] w fun e w' => e = .returned (.int .i64 (costA (l.map StI.abs))) ∧ Below w.heap.size w w' := by
  have h48 := h.max
  have HS := hid hs
  clear hs
  go_enter Tryd.func11, Tryd.ntmps11
  go_wp2_with fail
  go_loopg [2, 7] l.length (fun k n i wr => ∃ j : Nat, j ≤ l.length ∧ k = l.length - j ∧ i = .int .i64 j ∧ n = .int .i64 (costA ((l.take j).map StI.abs)) ∧ Below w.heap.size w wr)
  case atStart => exact ⟨0, Nat.zero_le _, rfl, rfl, rfl, Below.refl _ _⟩
  case round =>
    obtain ⟨j, hj, rfl, rfl, rfl, hb⟩ := hrel
    by_cases hlt : j < l.length
    · have i0 : (0 : Int) ≤ (j : Int) := by omega
      have i1 : (j : Int) < (l.length : Int) := by omega
      obtain ⟨b, off, hA, c0, c1, c2, hg⟩ := (h.below hb).at hlt
      have hn : costA ((l.take (j + 1)).map StI.abs) = costA ((l.take j).map StI.abs) + l[j].bs.length := by
        unfold costA
        rw [List.take_add_one, List.map_append, List.map_append, List.sum_append]
        simp [hlt, StI.abs]
      have hle : costA ((l.take (j + 1)).map StI.abs) ≤ costA (l.map StI.abs) := by
        unfold costA
        conv => rhs; rw [← List.take_append_drop (j + 1) l, List.map_append, List.map_append, List.sum_append]
        omega
      have hs := HS.out
      have HN := hid hn
      have hbd : costA ((l.take j).map StI.abs) + l[j].bs.length ≤ 140737488351232 := by omega
      subst hA
      clear hn hle hs h hg
      generalize costA ((l.take j).map StI.abs) = B at *
      generalize l[j].bs.length = N at *
      go_wp2_with fail
      go_roundg (l.length - (j + 1))
      case measure => omega
      case rel => exact ⟨j + 1, by omega, rfl, by go_num, by rw [HN.out]; go_num, thenA hb _⟩
    · obtain rfl : j = l.length := by omega
      go_wp2_with fail
      go_ret
      exact ⟨by rw [List.take_length]; rfl, hb⟩

/-- a step's word -/
def wordA (k : Int) : List UInt8 := if k = 1 then [45, 32] else if k = 2 then [100, 32] else if k = 3 then [102, 32] else []
def lineA (s : StA) : List UInt8 := wordA s.k ++ s.p

set_option maxRecDepth 100000 in
set_option maxHeartbeats 4000000 in
theorem line_walk (s : StI) (w : World) (hsz : s.p.size ≤ 140737488351232) :
    Calls Tryd.prog 33 #[.agg #[.int .i64 s.k, .string s.p, .slice s.bA s.bs.length s.bc]] w fun e w' => (∃ r : ByteArray, e = .returned (.string r) ∧ r.toList = lineA s.abs) ∧ Below w.heap.size w w' := by
  have hb0 := thenA (Below.refl _ w) (.cells #[.int .i64 s.k, .string s.p, .slice s.bA s.bs.length s.bc] 35 (0, 0))
  have hadd : ∀ (a : Array UInt8) (W : World), a.size ≤ 2 → (Op.stringOp .add ⟨a⟩ s.p).run Tryd.prog W = .ok (.string (⟨a⟩ ++ s.p)) W := fun a W ha => run_string_add_sum W _ _ (by show a.size + s.p.size ≤ _; omega)
  have HADD := hid hadd
  clear hadd
  by_cases h1 : s.k = 1
  · have g1 : (s.k == 1) = true := by simp [h1]
    have hadd := fun W => HADD.out #[45, 32] W (by decide)
    have HV : HidP (lineA s.abs = [45, 32] ++ s.p.toList) := hid (by unfold lineA wordA; rw [if_pos (show s.abs.k = 1 from h1)]; rfl)
    clear h1
    go_enter Tryd.func33, Tryd.ntmps33
    go_wp2_with fail
    go_ret
    exact ⟨⟨_, rfl, by rw [HV.out, app_toList, toList_lit]⟩, hb0⟩
  have g1 : (s.k == 1) = false := by simp [h1]
  by_cases h2 : s.k = 2
  · have g2 : (s.k == 2) = true := by simp [h2]
    have hadd := fun W => HADD.out #[100, 32] W (by decide)
    have HV : HidP (lineA s.abs = [100, 32] ++ s.p.toList) := hid (by unfold lineA wordA; rw [if_neg (show ¬ s.abs.k = 1 from h1), if_pos (show s.abs.k = 2 from h2)]; rfl)
    clear h1 h2
    go_enter Tryd.func33, Tryd.ntmps33
    go_wp2_with fail
    go_ret
    exact ⟨⟨_, rfl, by rw [HV.out, app_toList, toList_lit]⟩, hb0⟩
  have g2 : (s.k == 2) = false := by simp [h2]
  by_cases h3 : s.k = 3
  · have g3 : (s.k == 3) = true := by simp [h3]
    have hadd := fun W => HADD.out #[102, 32] W (by decide)
    have HV : HidP (lineA s.abs = [102, 32] ++ s.p.toList) := hid (by unfold lineA wordA; rw [if_neg (show ¬ s.abs.k = 1 from h1), if_neg (show ¬ s.abs.k = 2 from h2), if_pos (show s.abs.k = 3 from h3)]; rfl)
    clear h1 h2 h3
    go_enter Tryd.func33, Tryd.ntmps33
    go_wp2_with fail
    go_ret
    exact ⟨⟨_, rfl, by rw [HV.out, app_toList, toList_lit]⟩, hb0⟩
  have g3 : (s.k == 3) = false := by simp [h3]
  have hadd := fun W => HADD.out #[] W (by decide)
  have HV : HidP (lineA s.abs = [] ++ s.p.toList) := hid (by unfold lineA wordA; rw [if_neg (show ¬ s.abs.k = 1 from h1), if_neg (show ¬ s.abs.k = 2 from h2), if_neg (show ¬ s.abs.k = 3 from h3)]; rfl)
  clear h1 h2 h3
  go_enter Tryd.func33, Tryd.ntmps33
  go_wp2_with fail
  go_ret
  exact ⟨⟨_, rfl, by rw [HV.out, app_toList, toList_lit]⟩, hb0⟩

set_option maxRecDepth 100000 in
set_option maxHeartbeats 4000000 in
theorem lines_walk (A : Option Addr) (c : Nat) (l : List StI) (w : World) (h : Sts w A c l) :
    Calls Tryd.prog 17 #[.slice A l.length c] w fun e w' => (∃ (B : Option Addr) (d : Nat) (ps : List ByteArray), e = .returned (.slice B ps.length d) ∧ Row w' 9 1 (.slice B ps.length d) (ps.map .string) ∧ ps.map (·.toList) = (l.map StI.abs).map lineA) ∧ Below w.heap.size w w' := by
  obtain ⟨ti, hi0, hz0, hz1, hz2⟩ := info_parts info9
  have h48 := h.max
  go_enter Tryd.func17, Tryd.ntmps17
  go_wp2_with fail
  go_loopg [2, 8] l.length (fun k out i wr => ∃ (j : Nat) (pA : Option Addr) (pn pc : Nat) (ps : List ByteArray), j ≤ l.length ∧ k = l.length - j ∧ i = .int .i64 j ∧ out = .slice pA pn pc ∧ Row wr 9 1 (.slice pA pn pc) (ps.map .string) ∧ ps.map (·.toList) = ((l.take j).map StI.abs).map lineA ∧ Below w.heap.size w wr ∧ (∀ k, (Value.slice pA pn pc).ownBlock = some k → w.heap.size ≤ k))
  case atStart => exact ⟨0, none, 0, 0, [], Nat.zero_le _, rfl, rfl, rfl, Row.nil _ _ _, rfl, Below.refl _ _, by simp [Value.ownBlock]⟩
  case round =>
    obtain ⟨j, pA, pn, pc, ps, hj, rfl, rfl, rfl, hrow, hps, hb, hf⟩ := hrel
    by_cases hlt : j < l.length
    · have i0 : (0 : Int) ≤ (j : Int) := by omega
      have i1 : (j : Int) < (l.length : Int) := by omega
      obtain ⟨b, off, hA, c0, c1, c2, hg⟩ := (h.below hb).at hlt
      subst hA
      have hpl : ps.length ≤ j := by
        have := congrArg List.length hps
        simp at this; omega
      have hc1 : (ps.map Value.string).length + 1 ≤ maxLen := by simp only [List.length_map, maxLen]; omega
      have hc2 : ((ps.map Value.string).length + 1) * 16 ≤ 140737488355328 := by simp only [List.length_map]; omega
      have HPS := hid hps
      have HN : HidP (((l.take (j + 1)).map StI.abs).map lineA = ((l.take j).map StI.abs).map lineA ++ [lineA l[j].abs]) := hid (by rw [List.take_add_one, List.getElem?_eq_getElem hlt]; simp only [Option.toList_some, List.map_append, List.map_cons, List.map_nil])
      have hba := thenA (Below.refl _ wr) (.cells #[.int .i64 l[j].k, .string l[j].p, .slice l[j].bA l[j].bs.length l[j].bc] 35 (0, 0))
      have HL := hid (fun W => line_walk l[j] W hg.size)
      clear hps h hg
      go_wp2_with fail
      refine (HL.out _).mono ?_
      rintro e w1 ⟨⟨r, rfl, hr⟩, hb1⟩
      replace hr := hid hr
      have hb2 := thenB hba hb1
      have hb3 := thenB hb hb2
      have hrow1 := hrow.below hb2
      go_wp2_with (at_builtin; refine wpList_append_row _ rfl _ _ 47 rfl 9 ti (.string ByteArray.empty) 1 16 Tryd.underlying47 hi0 hz0 hz1 hz2 rfl (by decide) (.slice pA pn pc) (ps.map .string) rfl (by exact hrow1.keep fun k hk => Below.heap_alloc w1 _ _ (hrow1.lt k hk)) (.slice (some ⟨w1.heap.size, 0, none⟩) 1 1) [.string r] rfl (Src.one (heap_alloc_new _ _)) (by simp [Value.oneCell']) hc1 hc2 ?_; intro bA bn bc w2 hr2 hg2 ha2)
      have hb4 : Below w.heap.size w w2 := Below.grownNew (hb3.alloc hb3.size (.cells #[.string r] 9 (0, 0))) hg2 (by have := hb3.size; simp; omega) hf
      have hf2 := fresh_of ha2 hf (by have := hb3.size; simp; omega)
      go_roundg (l.length - (j + 1))
      case measure => omega
      case rel => exact ⟨j + 1, bA, bn, bc, ps ++ [r], by omega, rfl, by go_num, rfl, by rw [List.map_append]; exact hr2, by rw [List.map_append, HPS.out, HN.out, List.map_cons, List.map_nil, hr.out], hb4, hf2⟩
    · obtain rfl : j = l.length := by omega
      rw [List.take_length] at hps
      have HPS := hid hps
      have hn : pn = ps.length := by
        obtain ⟨_, _, _, hv, hl, _⟩ := id hrow
        cases hv
        simpa using hl.symm
      subst hn
      clear hps
      go_wp2_with fail
      go_ret
      exact ⟨⟨_, _, ps, rfl, hrow, HPS.out⟩, hb⟩

theorem infoStep : (Tryd.prog.info? 35).map (fun i => (i.zero, i.size, i.bytes)) = some (some (.agg #[.int .i64 0, .string ByteArray.empty, .slice none 0 0]), 3, 48) := by kernel_rfl
theorem st_bound {L : List StI} {s : StI} (h : L.length ≤ 1000001) : (L.flatMap StI.cells).length + s.cells.length ≤ maxLen ∧ ((L.flatMap StI.cells).length + s.cells.length) * 48 ≤ 140737488355328 := by
  rw [flat_len st_len, st_len]
  constructor
  · simp only [maxLen]; omega
  · omega

set_option maxRecDepth 100000 in
set_option maxHeartbeats 4000000 in
theorem own24_walk (A : Option Addr) (c : Nat) (l : List StI) (w : World) (h : Sts w A c l) :
    Calls Tryd.prog 18 #[.slice A l.length c] w fun e w' => (∃ (B : Option Addr) (d : Nat), e = .returned (.slice B l.length d) ∧ Sts w' B d l) ∧ Below w.heap.size w w' := by
  obtain ⟨ti, hi0, hz0, hz1, hz2⟩ := info_parts infoStep
  have h48 := h.max
  go_enter Tryd.func18, Tryd.ntmps18
  go_wp2_with fail
  go_loopg [3, 4] l.length (fun k out i wr => ∃ (j : Nat) (pA : Option Addr) (pn pc : Nat), j ≤ l.length ∧ k = l.length - j ∧ i = .int .i64 j ∧ out = .slice pA pn pc ∧ Row wr 35 3 (.slice pA pn pc) ((l.take j).flatMap StI.cells) ∧ Below w.heap.size w wr ∧ (∀ k, (Value.slice pA pn pc).ownBlock = some k → w.heap.size ≤ k))
  case atStart => exact ⟨0, none, 0, 0, Nat.zero_le _, rfl, rfl, rfl, Row.nil _ _ _, Below.refl _ _, by simp [Value.ownBlock]⟩
  case round =>
    obtain ⟨j, pA, pn, pc, hj, rfl, rfl, rfl, hrow, hb, hf⟩ := hrel
    by_cases hlt : j < l.length
    · have i0' : (0 : Int) ≤ (j : Int) := by omega
      have i1 : (j : Int) < (l.length : Int) := by omega
      obtain ⟨b, off, hA, c0, c1, c2, hg⟩ := (h.below hb).at hlt
      subst hA
      have hnx : (l.take (j + 1)).flatMap StI.cells = (l.take j).flatMap StI.cells ++ l[j].cells := by
        rw [List.take_add_one, List.flatMap_append, List.getElem?_eq_getElem hlt]
        simp
      have HN := hid hnx
      have hlen : (l.take j).length ≤ 1000000 := by rw [List.length_take]; omega
      generalize l.take j = L at *
      obtain ⟨hc1, hc2⟩ := st_bound (s := l[j]) (L := L) (by omega)
      have hba := thenA (Below.refl _ wr) (.cells #[.int .i64 l[j].k, .string l[j].p, .slice l[j].bA l[j].bs.length l[j].bc] 35 (0, 0))
      have hsz := hb.size
      have hrow1 := hrow.below hba
      have hbb := thenB hb hba
      have hsi := Src.rec st_len (w := wr.alloc (.cells l[j].cells.toArray 35)) (b := wr.heap.size) l[j] (heap_alloc_new wr _)
      clear hnx h hg
      go_wp2_with fail
      go_region_law (refine step_append_row _ (by rfl) _ _ 25 (by rfl) 35 ti (.agg #[.int .i64 0, .string ByteArray.empty, .slice none 0 0]) 3 48 Tryd.underlying25 hi0 hz0 hz1 hz2 rfl (by decide) (.slice pA pn pc) (L.flatMap StI.cells) (by rfl) (by exact hrow1.keep (fun _ _ => rfl)) (.slice (some ⟨wr.heap.size, 0, none⟩) 1 1) l[j].cells (by rfl) (by exact hsi.keep (fun _ _ _ => rfl)) (st_one _) hc1 hc2 ?_; intro bA bn bc w2 hr2 hg2 ha2)
      all_goals
        have hb4 : Below w.heap.size w w2 := Below.grownNew hbb ⟨hg2.os, hg2.tape, hg2.output, hg2.size, hg2.block⟩ (by simp; omega) hf
        have hf2 := fresh_of (B := w.heap.size) ha2 hf (by simp; omega)
        go_wp2_with fail
        go_roundg (l.length - (j + 1))
        case measure => omega
        case rel => exact ⟨j + 1, bA, bn, bc, by omega, rfl, by go_num, rfl, by rw [HN.out]; exact hr2, hb4, hf2⟩
    · obtain rfl : j = l.length := by omega
      rw [List.take_length] at hrow
      obtain ⟨rfl, hst⟩ := Sts.ofRow hrow (fun s hs => (h.good s hs).below hb) h48
      go_wp2_with fail
      go_ret
      exact ⟨⟨_, _, rfl, hst⟩, hb⟩

end Go.Proofs.YtheccdidfkcbbaaDoor
