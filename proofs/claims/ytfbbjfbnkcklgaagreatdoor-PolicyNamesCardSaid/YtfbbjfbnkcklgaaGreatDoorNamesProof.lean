/- The statement PolicyNames: the other path of any path, and each way's word and number are as they should be; no further condition (the walk was printed by gen/genJ16.py). -/
import Derived.Test.YtfbbjfbnkcklgaaGreatDoorJ10
import Derived.Deep.CutRange
import Derived.Test.YtfbbjfbnkcklgaaGreatDoorTie
import Derived.Test.YtfbbjfbnkcklgaaGreatDoorCards
import Derived.WalkKit
import Derived.ProofKit
import Derived.OpenShut
import Derived.ShutString
import Derived.ChangeOld
import Derived.Below
import Derived.SizedLaws
import Derived.LaidMore
import Derived.Lay
import Derived.SevenTiedAt
import Derived.Stop.Joined
namespace Go.Proofs.YtfbbjfbnkcklgaaGreatDoor
open Go.RowKit

def wordsL : List ByteArray := [⟨#[108, 101, 97, 118, 101]⟩, ⟨#[102, 105, 114, 115, 116]⟩, ⟨#[115, 101, 99, 111, 110, 100]⟩, ⟨#[98, 111, 116, 104]⟩, ⟨#[110, 111, 110, 101]⟩]
theorem words_walk (w : World) : Calls Tryz.prog 29 #[] w fun e w' => e = .returned (.slice (some ⟨w.heap.size, 0, none⟩) 5 5) ∧ w' = w.alloc (.cells #[.string ⟨#[108, 101, 97, 118, 101]⟩, .string ⟨#[102, 105, 114, 115, 116]⟩, .string ⟨#[115, 101, 99, 111, 110, 100]⟩, .string ⟨#[98, 111, 116, 104]⟩, .string ⟨#[110, 111, 110, 101]⟩] 9 (0, 0)) := by
  go_enter Tryz.func29, Tryz.ntmps29
  go_wp2_with fail
  go_ret
  exact ⟨rfl, rfl⟩
theorem words_row (w : World) : Row (w.alloc (.cells #[.string ⟨#[108, 101, 97, 118, 101]⟩, .string ⟨#[102, 105, 114, 115, 116]⟩, .string ⟨#[115, 101, 99, 111, 110, 100]⟩, .string ⟨#[98, 111, 116, 104]⟩, .string ⟨#[110, 111, 110, 101]⟩] 9 (0, 0))) 9 1 (.slice (some ⟨w.heap.size, 0, none⟩) 5 5) (wordsL.map .string) :=
  Row.ofBlock (sz := 1) (n := 5) (heap_alloc_new w _) rfl (by simp [maxLen])
theorem words_any (w : World) : Calls Tryz.prog 29 #[] w fun e w' => (∃ b, e = .returned (.slice (some ⟨b, 0, none⟩) 5 5) ∧ Row w' 9 1 (.slice (some ⟨b, 0, none⟩) 5 5) (wordsL.map .string)) ∧ Below w.heap.size w w' := (words_walk w).mono (by
  rintro e w' ⟨rfl, rfl⟩
  exact ⟨⟨_, rfl, words_row w⟩, thenA (Below.refl _ w) _⟩)
/-- the number of a word; -1: it is none -/
def AtW (s : ByteArray) (n : Int) : Prop := -1 ≤ n ∧ n < 5 ∧ ∀ (i : Nat) (hi : i < 5), (wordsL[i]'hi).toList = s.toList ↔ n = i
theorem atw_ex (s : ByteArray) : ∃ n, AtW s n := by
  by_cases h : ∃ i, ∃ hi : i < 5, (wordsL[i]'hi).toList = s.toList
  · obtain ⟨i, hi, he⟩ := h
    refine ⟨i, by omega, by omega, fun k hk => ⟨fun e => ?_, fun e => ?_⟩⟩
    · have h2 : (wordsL[k]'hk).toList = (wordsL[i]'hi).toList := e.trans he.symm
      have key : ∀ a b : Fin 5, (wordsL[a]'a.2).toList = (wordsL[b]'b.2).toList → a = b := by
        have : ∀ a b : Fin 5, (wordsL[a]'a.2) = (wordsL[b]'b.2) → a = b := by decide
        exact fun a b h => this a b (toList_inj h)
      have := key ⟨k, hk⟩ ⟨i, hi⟩ h2
      simp only [Fin.mk.injEq] at this
      omega
    · obtain rfl : i = k := by omega
      exact he
  · exact ⟨-1, by omega, by omega, fun k hk => ⟨fun e => (h ⟨k, hk, e⟩).elim, fun e => by omega⟩⟩
theorem AtW.beq {s : ByteArray} {n : Int} (h : AtW s n) {i : Nat} (hi : i < 5) : ((wordsL[i]'hi).toList == s.toList) = decide (n = i) ∧ (s.toList == (wordsL[i]'hi).toList) = decide (n = i) := by
  have h1 := h.2.2 i hi
  by_cases hn : n = i
  · have := h1.2 hn
    rw [this]
    simp [hn]
  · have : (wordsL[i]'hi).toList ≠ s.toList := fun e => hn (h1.1 e)
    simp [hn, this, Ne.symm this]
set_option maxRecDepth 100000 in
set_option maxHeartbeats 1600000 in
theorem ixw_walk (b : Nat) (s : ByteArray) (n : Int) (w : World) (hn : AtW s n) (h : Row w 9 1 (.slice (some ⟨b, 0, none⟩) 5 5) (wordsL.map .string)) :
    Calls Tryz.prog 54 #[.slice (some ⟨b, 0, none⟩) 5 5, .string s] w fun e w' => e = .returned (.int .i64 n) ∧ w = w' := by
  have HR := hid h
  have HN := hid hn
  clear h hn
  go_enter Tryz.func54, Tryz.ntmps54
  go_wp2_with fail
  go_loopg [8] 5 (fun k i wr => ∃ m : Nat, m ≤ 5 ∧ k = 5 - m ∧ i = .int .i64 m ∧ wr = w ∧ (n < 0 ∨ (m : Int) ≤ n))
  case atStart => exact ⟨0, Nat.zero_le _, rfl, rfl, rfl, by omega⟩
  case round =>
    obtain ⟨m, hm, rfl, rfl, rfl, hnm⟩ := hrel
    by_cases hlt : m < 5
    · have i0 : (0 : Int) ≤ (m : Int) := by omega
      have i1 : (m : Int) < 5 := by omega
      have i2 : decide ((m : Int) < 5) = true := decide_eq_true i1
      obtain ⟨b1, o1, hA, k0⟩ := Row.str (ss := wordsL) HR.out hlt
      simp only [Option.some.injEq, Addr.mk.injEq] at hA
      obtain ⟨rfl, rfl, _⟩ := hA
      rw [Nat.zero_add] at k0
      by_cases he : n = m
      · subst he
        have e0 : (s.toList == (wordsL[m]'hlt).toList) = true := by rw [(HN.out.beq hlt).2]; simp
        go_wp2_with fail
        go_ret
        exact ⟨rfl, rfl⟩
      · have e0 : (s.toList == (wordsL[m]'hlt).toList) = false := by rw [(HN.out.beq hlt).2]; simp [he]
        have hnm2 : HidP (n < 0 ∨ ((m + 1 : Nat) : Int) ≤ n) := hid (by omega)
        clear hnm
        go_wp2_with fail
        go_roundg (5 - (m + 1))
        case measure => omega
        case rel => exact ⟨m + 1, by omega, rfl, by go_num, rfl, hnm2.out⟩
    · obtain rfl : m = 5 := by omega
      have := HN.out.2.1
      obtain rfl : n = -1 := by have := HN.out.1; omega
      go_wp2_with fail
      go_ret
      exact ⟨rfl, rfl⟩
set_option maxHeartbeats 1600000 in
theorem pparse_walk (s : ByteArray) (n : Int) (w : World) (hn : AtW s n) :
    Calls Tryz.prog 30 #[.string s] w fun e w' => e = .returned (.tuple #[.int .i64 (max n 0), .bool (decide (0 ≤ n))]) ∧ Below w.heap.size w w' := by
  have HW := hid (words_any w)
  have HI := hid (fun b w => ixw_walk b s n w hn)
  have h1 := hn.1
  have h2 := hn.2.1
  clear hn
  go_enter Tryz.func30, Tryz.ntmps30
  go_wp2_with fail
  refine HW.out.mono ?_
  rintro e w1 ⟨⟨b, rfl, hr⟩, hb⟩
  have hi := HI.out b w1 hr
  clear hr
  go_wp2_with fail
  refine hi.mono ?_
  rintro e w2 ⟨rfl, rfl⟩
  go_wp2_with fail
  refine bodyPost_ret (v := .tuple #[.int .i64 (max n 0), .bool (decide (0 ≤ n))]) ?_ rfl ⟨rfl, hb⟩
  simp [results, Tryz.results30, go_sem]
/-- a way's word -/
def wayW (how : Int) : ByteArray := if h : 0 ≤ how ∧ how < 5 then wordsL[how.toNat]'(by show _ < 5; omega) else ⟨#[]⟩
theorem wayW_in {j : Nat} (hj : j < 5) : wayW (j : Int) = wordsL[j]'hj := by
  unfold wayW
  rw [dif_pos ⟨by omega, by omega⟩]
  rfl
theorem wayW_out {how : Int} (h : howB how = false) : wayW how = ⟨#[]⟩ := by
  unfold wayW
  rw [dif_neg]
  intro hh
  unfold howB at h
  rw [decide_eq_true hh.1, decide_eq_true hh.2] at h
  cases h
theorem how_in {how : Int} (h : howB how = true) : ∃ j : Nat, j < 5 ∧ how = j := by
  unfold howB at h
  rw [Bool.and_eq_true] at h
  have h1 := of_decide_eq_true h.1
  have h2 := of_decide_eq_true h.2
  exact ⟨how.toNat, by omega, by omega⟩
set_option maxHeartbeats 1600000 in
theorem pword_walk (how : Int) (w : World) :
    Calls Tryz.prog 32 #[.int .i64 how] w fun e w' => e = .returned (.string (wayW how)) ∧ Below w.heap.size w w' := by
  have HR := hid (pright_walk how)
  have HW := hid (fun w => words_any w)
  cases hh : howB how
  · rw [hh] at HR
    rw [wayW_out hh]
    go_enter Tryz.func32, Tryz.ntmps32
    go_wp2_with fail
    refine (HR.out _).mono ?_
    rintro e w1 ⟨rfl, rfl⟩
    go_wp2_with fail
    go_ret
    exact ⟨rfl, Below.refl _ _⟩
  · rw [hh] at HR
    obtain ⟨j, hj, rfl⟩ := how_in hh
    rw [wayW_in hj]
    have i0 : (0 : Int) ≤ (j : Int) := by omega
    have i1 : (j : Int) < 5 := by omega
    go_enter Tryz.func32, Tryz.ntmps32
    go_wp2_with fail
    refine (HR.out _).mono ?_
    rintro e w1 ⟨rfl, rfl⟩
    go_wp2_with fail
    refine (HW.out _).mono ?_
    rintro e w2 ⟨⟨b, rfl, hr⟩, hb⟩
    obtain ⟨b1, o1, hA, k0⟩ := Row.str (ss := wordsL) hr hj
    simp only [Option.some.injEq, Addr.mk.injEq] at hA
    obtain ⟨rfl, rfl, _⟩ := hA
    rw [Nat.zero_add] at k0
    clear hr
    go_wp2_with fail
    go_ret
    exact ⟨rfl, hb⟩
set_option maxHeartbeats 1600000 in
theorem refname_walk (p : ByteArray) (w : World) (hp : p.size ≤ 100000) :
    Calls Tryz.prog 31 #[.string p] w fun e w' => (∃ q : ByteArray, e = .returned (.string q) ∧ q.toList = nameA p.toList) ∧ Below w.heap.size w w' := by
  have hsz : (p ++ ⟨#[126]⟩).size ≤ 100001 := by
    rw [ByteArray.size_append]
    show p.size + 1 ≤ _
    omega
  have htl : (p ++ ⟨#[126]⟩).toList = p.toList ++ [126] := by
    rw [app_toList]
    congr 1
    kernel_rfl
  have H1 := hid (refpath p w)
  have H2 := hid (fun W => refpath (p ++ ⟨#[126]⟩) W)
  rw [htl] at H2
  have hadd : ∀ W, (Op.stringOp .add p ⟨#[126]⟩).run Tryz.prog W = .ok (.string (p ++ ⟨#[126]⟩)) W := fun W => run_string_add_sum W _ _ (by show p.size + 1 ≤ _; omega)
  have HL := hid htl
  clear hsz htl hp
  cases h1 : pathB p.toList
  · have HN : HidP (nameA p.toList = []) := hid (by unfold nameA; rw [if_neg (by simp [h1])])
    rw [h1] at H1
    go_enter Tryz.func31, Tryz.ntmps31
    go_wp2_with fail
    refine H1.out.mono ?_
    rintro e w1 ⟨rfl, hb1⟩
    go_wp2_with fail
    go_ret
    exact ⟨⟨⟨#[]⟩, rfl, by rw [HN.out]; exact emptyB⟩, hb1⟩
  have H1' := hid h1
  rw [h1] at H1
  cases h2 : pathB (p.toList ++ [126])
  · have HN : HidP (nameA p.toList = []) := hid (by unfold nameA; rw [if_neg (by simp [h2])])
    rw [h2] at H2
    go_enter Tryz.func31, Tryz.ntmps31
    go_wp2_with fail
    refine H1.out.mono ?_
    rintro e w1 ⟨rfl, hb1⟩
    go_wp2_with fail
    refine (H2.out _).mono ?_
    rintro e w2 ⟨rfl, hb2⟩
    have hb := thenB hb1 hb2
    go_wp2_with fail
    go_ret
    exact ⟨⟨⟨#[]⟩, rfl, by rw [HN.out]; exact emptyB⟩, hb⟩
  · have HN : HidP (nameA p.toList = p.toList ++ [126]) := hid (by unfold nameA; rw [if_pos ⟨h1, h2⟩])
    rw [h2] at H2
    go_enter Tryz.func31, Tryz.ntmps31
    go_wp2_with fail
    refine H1.out.mono ?_
    rintro e w1 ⟨rfl, hb1⟩
    go_wp2_with fail
    refine (H2.out _).mono ?_
    rintro e w2 ⟨rfl, hb2⟩
    have hb := thenB hb1 hb2
    go_wp2_with fail
    go_ret
    exact ⟨⟨p ++ ⟨#[126]⟩, rfl, by rw [HN.out]; exact HL.out⟩, hb⟩
theorem row_words {w : World} {b : Nat} (h : Row w 9 1 (.slice (some ⟨b, 0, none⟩) 5 5) (wordsL.map .string)) {j : Nat} (hj : j < 5) : w.cell? ⟨b, j, none⟩ = some (.string (wordsL[j]'hj)) := by
  obtain ⟨b1, o1, hA, k0⟩ := Row.str (ss := wordsL) h hj
  simp only [Option.some.injEq, Addr.mk.injEq] at hA
  obtain ⟨rfl, rfl, _⟩ := hA
  rw [Nat.zero_add] at k0
  exact k0
set_option maxRecDepth 100000 in
set_option maxHeartbeats 4000000 in
theorem policynames_walk (p s : ByteArray) (how : Int) (w : World) (hps : p.size ≤ 140737488351232) (hss : s.size ≤ 140737488351232) :
    Calls Tryz.prog 8 #[.string p, .string s, .int .i64 how] w fun e w' => e = .returned (.bool true) ∧ Below w.heap.size w w' := by
  have HA := hid alive23_walk
  by_cases h1 : (p.size : Int) > 250
  · have g1 := decide_eq_true h1
    go_enter Tryz.func8, Tryz.ntmps8
    go_wp2_with fail
    refine (HA.out _).mono ?_
    rintro e w1 ⟨rfl, hb⟩
    go_wp2_with fail
    go_ret
    exact ⟨rfl, hb⟩
  have g1 := decide_eq_false h1
  by_cases h2 : (s.size : Int) > 100
  · have g2 := decide_eq_true h2
    go_enter Tryz.func8, Tryz.ntmps8
    go_wp2_with fail
    refine (HA.out _).mono ?_
    rintro e w1 ⟨rfl, hb⟩
    go_wp2_with fail
    go_ret
    exact ⟨rfl, hb⟩
  have g2 := decide_eq_false h2
  obtain ⟨n, hn⟩ := atw_ex s
  have HN := hid hn
  have HW := hid (fun w => words_any w)
  have HP := hid (fun W => pparse_walk s n W hn)
  have HN1 := hid (fun W => pname_walk p W (by have := h1; omega))
  have HN2 := hid (fun W => refname_walk p W (by have := h1; omega))
  have HWD := hid (fun W => pword_walk how W)
  clear hn hps hss
  go_enter Tryz.func8, Tryz.ntmps8
  go_wp2_with fail
  refine (HW.out _).mono ?_
  rintro e w1 ⟨⟨b, rfl, hr⟩, hb1⟩
  have HR := hid hr
  have k0 : w1.cell? ⟨b, 0, none⟩ = some (.string ⟨#[108, 101, 97, 118, 101]⟩) := row_words hr (j := 0) (by decide)
  have k1 : w1.cell? ⟨b, 1, none⟩ = some (.string ⟨#[102, 105, 114, 115, 116]⟩) := row_words hr (j := 1) (by decide)
  have k2 : w1.cell? ⟨b, 2, none⟩ = some (.string ⟨#[115, 101, 99, 111, 110, 100]⟩) := row_words hr (j := 2) (by decide)
  have k3 : w1.cell? ⟨b, 3, none⟩ = some (.string ⟨#[98, 111, 116, 104]⟩) := row_words hr (j := 3) (by decide)
  have k4 : w1.cell? ⟨b, 4, none⟩ = some (.string ⟨#[110, 111, 110, 101]⟩) := row_words hr (j := 4) (by decide)
  clear hr
  clear h1 h2 g1 g2
  go_upto_region 7 with fail
  clear k0 k1 k2 k3 k4
  go_cut [61] from 56 to 60 (fun v wx => v = .bool (howB how) ∧ w1 = wx)
  case first =>
    cases hh : howB how
    · have hw : how < 0 ∨ 5 ≤ how := by
        unfold howB at hh
        rw [Bool.and_eq_false_iff] at hh
        rcases hh with hh | hh
        · have := of_decide_eq_false hh; omega
        · have := of_decide_eq_false hh; omega
      have HHB := hid hh
      clear hh
      rcases hw with hw | hw
      · have g0 : ¬ how ≥ 0 := by omega
        have g1 := decide_eq_false g0
        go_wp2_with fail
        go_meet
        case rel => exact ⟨by rw [HHB.out], rfl⟩
      · have g0 : how ≥ 0 := by omega
        have g1 := decide_eq_true g0
        have g2 : ¬ how < 5 := by omega
        have g3 := decide_eq_false g2
        go_wp2_with fail
        go_meet
        case rel => exact ⟨by rw [HHB.out], rfl⟩
    · obtain ⟨j, hj, rfl⟩ := how_in hh
      have i0 : (j : Int) ≥ 0 := by omega
      have i1 : (j : Int) < 5 := by omega
      have g0 := decide_eq_true i0
      have g1 := decide_eq_true i1
      have HHB := hid hh
      clear hh
      go_wp2_with fail
      go_meet
      case rel => exact ⟨by rw [HHB.out], rfl⟩
  case rest =>
  obtain ⟨rfl, rfl⟩ := hcut
  obtain ⟨bb, hbb⟩ : ∃ bb, howB how = bb := ⟨_, rfl⟩
  rw [hbb]
  have HBB := hid hbb
  clear hbb
  go_upto_if 61 with fail
  go_cut [8] from 62 to 65 (fun v wx => v = .string (wayW how) ∧ w1 = wx)
  case first =>
    have hh := HBB.out
    cases bb
    · have HV := hid (wayW_out hh)
      clear hh
      go_wp2_with fail
      go_meet
      case rel => exact ⟨by rw [HV.out], rfl⟩
    · obtain ⟨j, hj, rfl⟩ := how_in hh
      have k0 := row_words HR.out hj
      have HV := hid (wayW_in hj)
      have i0 : (0 : Int) ≤ (j : Int) := by omega
      have i1 : (j : Int) < 5 := by omega
      clear hh
      go_wp2_with fail
      go_meet
      case rel => exact ⟨by rw [HV.out], rfl⟩
  case rest =>
    obtain ⟨rfl, rfl⟩ := hcut
    go_wp2_with fail
    refine (HP.out _).mono ?_
    rintro e w2 ⟨rfl, hb2⟩
    have hr2 := HR.out.below hb2
    have HR2 := hid hr2
    have HB2 := hid (thenB hb1 hb2)
    clear hr2 hb2
    obtain ⟨mx, hmx⟩ : ∃ mx, max n 0 = mx := ⟨_, rfl⟩
    obtain ⟨is, his⟩ : ∃ is, decide (0 ≤ n) = is := ⟨_, rfl⟩
    rw [hmx, his]
    have HMX := hid hmx
    have HIS := hid his
    clear hmx his
    go_wp2_with fail
    go_loopg [11, 12] 5 (fun k a i wr => ∃ m : Nat, m ≤ 5 ∧ k = 5 - m ∧ i = .int .i64 m ∧ wr = w2 ∧ ∃ x : Int, a = .int .i64 x ∧ x = if n < m then n else -1)
    case atStart => exact ⟨0, Nat.zero_le _, rfl, rfl, rfl, -1, rfl, by have := HN.out.1; split <;> omega⟩
    case round =>
      obtain ⟨m, hm, rfl, rfl, rfl, x, rfl, hx⟩ := hrel
      have HX := hid hx
      clear hx
      by_cases hlt : m < 5
      · have i0 : (0 : Int) ≤ (m : Int) := by omega
        have i1 : (m : Int) < 5 := by omega
        have g1 := decide_eq_true i1
        have k0 := row_words HR2.out hlt
        have hbq := (HN.out.beq hlt).1
        by_cases he : n = m
        · rw [decide_eq_true he] at hbq
          have HE := hid he
          clear he
          go_wp2_with fail
          go_roundg (5 - (m + 1))
          case measure => omega
          case rel => exact ⟨m + 1, by omega, rfl, by go_num, rfl, m, rfl, by rw [HE.out, if_pos (by omega)]⟩
        · rw [decide_eq_false he] at hbq
          have HE := hid he
          clear he
          go_wp2_with fail
          go_roundg (5 - (m + 1))
          case measure => omega
          case rel => exact ⟨m + 1, by omega, rfl, by go_num, rfl, x, rfl, by have h1 := HX.out; have h2 := HE.out; split at h1 <;> split <;> omega⟩
      · obtain rfl : m = 5 := by omega
        obtain rfl : x = n := by have h1 := HX.out; have h2 := HN.out.2.1; rw [if_pos (by omega)] at h1; exact h1
        have hor : (is = true ∧ 0 ≤ x ∧ x = mx) ∨ (is = false ∧ x < 0 ∧ mx = 0) := by
          have h1 := HMX.out
          have h2 := HIS.out
          by_cases h0 : 0 ≤ x
          · rw [decide_eq_true h0] at h2
            exact .inl ⟨h2.symm, h0, by omega⟩
          · rw [decide_eq_false h0] at h2
            exact .inr ⟨h2.symm, by omega, by omega⟩
        clear HX HMX HIS
        go_wp2_with fail
        refine (HN1.out _).mono ?_
        rintro e w3 ⟨⟨q1, rfl, hq1⟩, hb3⟩
        have HQ1 := hid hq1
        clear hq1
        go_wp2_with fail
        refine (HN2.out _).mono ?_
        rintro e w4 ⟨⟨q2, rfl, hq2⟩, hb4⟩
        have hqq : (q1.toList == q2.toList) = true := by rw [HQ1.out, hq2]; simp
        have HB4 := hid (thenB HB2.out (thenB hb3 hb4))
        clear hq2 hb3 hb4
        go_wp2_with fail
        refine (HWD.out _).mono ?_
        rintro e w5 ⟨rfl, hb5⟩
        rcases hor with ⟨rfl, h0, rfl⟩ | ⟨rfl, h0, rfl⟩
        · have g0 := decide_eq_true (p := x ≥ 0) h0
          have hw6 := thenB HB4.out hb5
          go_wp2_with fail
          refine (HA.out _).mono ?_
          rintro e w6 ⟨rfl, hb6⟩
          have hb7 := thenB hw6 hb6
          go_wp2_with fail
          go_ret
          exact ⟨rfl, hb7⟩
        · have g00 : ¬ x ≥ 0 := by omega
          have g0 := decide_eq_false g00
          have hw6 := thenB HB4.out hb5
          go_wp2_with fail
          refine (HA.out _).mono ?_
          rintro e w6 ⟨rfl, hb6⟩
          have hb7 := thenB hw6 hb6
          go_wp2_with fail
          go_ret
          exact ⟨rfl, hb7⟩
theorem policynames_card (p s : ByteArray) (how : Int) (w : World) (h1 : p.size ≤ 140737488351232) (h2 : s.size ≤ 140737488351232) (_ : (Lit.int IntKind.i64 how).wf = true) :
    Calls Tryz.prog 8 #[.string p, .string s, .int .i64 how] w fun e w' => e = .returned (.bool true) ∧ Below w.heap.size w w' := policynames_walk p s how w h1 h2
end Go.Proofs.YtfbbjfbnkcklgaaGreatDoor

/-
  The statement PolicyNames: the other path of any path, and each way's word and number are as they should be.
  The frame is the guide's (howto/shells/proof-skeleton.mjs; a pinned table: its worked Pinup), turned by a program of this session.
-/
namespace Go.Proofs.YtfbbjfbnkcklgaaGreatDoor.policyNames
open Go.ChangeShapes Go.WideShapes Go.ChangeAt Go.RowKit
open Go.ChangeMaps (open_string shut_string)
set_option linter.unusedVariables false

theorem own : ownKnob Tryz.prog.godebug = none := by kernel_rfl
theorem laidOut : laidOutB Tryz.prog = true := by kernel_rfl

set_option maxRecDepth 100000 in
theorem lifted (os : Os) (started : os.Started) (H : Type) (enc : TypeId × Value → H) :
    ReturnsInHanded {} Tryz.checked os 8 .any (fun w args => (Rows.policyNamesSpec.pre enc Tryz.prog Tryz.f8 Rows.policyNamesRow.domain false w args ∧ laidMetH Tryz.prog Rows.policyNamesRow.laid w) ∧ sizedMet enc Tryz.prog Tryz.f8 (OpenSpec.ofChange Rows.policyNamesSpec) false w args)
      (Rows.policyNamesSpec.post enc Tryz.prog Tryz.f8 false true false false) := by
  refine returnsInHanded_of_change_and (C := Tryz.checked) (X := fun w _ => laidMetH Tryz.prog Rows.policyNamesRow.laid w) (fun _ _ _ hh h => h.of_heap hh) own started (by kernel_rfl) Tryz.func8
    (ChangeSpec.witness_shaped (enc := enc) (C := Tryz.checked) (os := os) (X := fun w _ => laidMetH Tryz.prog Rows.policyNamesRow.laid w) false (World.laidAll Tryz.prog os Rows.policyNamesRow.laid) #[.string ByteArray.empty, .string ByteArray.empty, .int .i64 0] 8 (World.laidAll_os _ _ _)
      (World.shaped_of_ZipB (by kernel_rfl) (by kernel_rfl)) (by kernel_rfl) (by kernel_rfl) (by kernel_rfl)
      (by rw [MakeChecks.laidMetH_plain _ _ _ (by kernel_rfl)]; exact laidMet_laidAll _ (by kernel_rfl) (by kernel_rfl))) ?_
  intro W base args ds gs before hval0 hW hcnd hsz0 _ _
  have hsz : (DataW.weightsEach Tryz.prog (Tryz.f8.params.toList ++ Rows.policyNamesSpec.plain.varTypes Tryz.prog) (ds ++ gs)).all (· ≤ reachBytes) = true := hsz0
  have hval : ∀ (j : Nat) t v, Tryz.f8.params[j]? = some t → args[j]? = some v → Value.okWide Tryz.prog W .any base t v := hval0
  have hW' := hW
  obtain ⟨p, q, hA0, hV, rfl, hfz, hnd⟩ := hW
  have hA : DataW.TrodAll enc Tryz.prog W 0 (fun _ => true) true Tryz.f8.params.toList args.toList ds p := hA0
  rw [Tryz.params8] at hA hval hsz
  obtain ⟨v0, vs0, d0, ds0, p0, q0, hargs, rfl, rfl, h0, r0⟩ := trodAll_cons hA
  obtain ⟨v1, vs1, d1, ds1, p1, q1, rfl, rfl, rfl, h1, r1⟩ := trodAll_cons r0
  obtain ⟨v2, vs2, d2, ds2, p2, q2, rfl, rfl, rfl, h2, r2⟩ := trodAll_cons r1
  obtain ⟨rfl, rfl, rfl⟩ := trodAll_nil r2
  obtain rfl : args = #[v0, v1, v2] := by cases args; simp_all
  obtain ⟨rfl, rfl⟩ := trodVars_none hV
  obtain ⟨a0, rfl, rfl, rfl, w0⟩ := open_string Tryz.underlying9 (hval 0 9 v0 rfl rfl) h0
  have z0 : a0.size ≤ 140737488351232 := by have h := sized_string hsz (j := 0) rfl rfl; simpa [reachBytes] using h
  obtain ⟨a1, rfl, rfl, rfl, w1⟩ := open_string Tryz.underlying9 (hval 1 9 v1 rfl rfl) h1
  have z1 : a1.size ≤ 140737488351232 := by have h := sized_string hsz (j := 1) rfl rfl; simpa [reachBytes] using h
  obtain ⟨a2, rfl, rfl, rfl, w2⟩ := open_int Tryz.underlying3 (hval 2 3 v2 rfl rfl) h2
  clear hA0 hval0 hsz0 hsz
  refine (policynames_card a0 a1 a2 W z0 z1 w2).mono fun e W' ⟨he, bel⟩ => ?_
  subst he
  exact ⟨_, rfl, _, _, _, [], _, [], hW', trodAll_mk1 (shut_bool Tryz.underlying4 _), (trodAll_cons_mk (shut_string Tryz.underlying9 w0) (trodAll_cons_mk (shut_string Tryz.underlying9 w1) (trodAll_cons_mk (shut_int Tryz.underlying3 w2) trodAll_mk0))), rfl, bel.frame _, fun h => by cases h⟩

theorem over : Rows.policyNamesRow.holds Tryz.pinned (OpenSpec.ofChange Rows.policyNamesSpec) :=
  OpenClaim.holds_of_wide 8 Tryz.f8 rfl rfl rfl rfl rfl rfl rfl ⟨rfl, rfl, rfl, rfl, rfl⟩ rfl rfl rfl rfl rfl (by kernel_rfl) Tryz.func8 (by kernel_rfl)
    (of_decide_eq_true (by kernel_rfl)) (by unfold Func.isWrapper; first | (rw [if_pos (by decide +kernel)]; kernel_rfl) | (rw [if_neg (by decide +kernel)]; exact ⟨rfl, rfl⟩))
    (fun os started H enc _ => lifted os started H enc)

/-- The statement: the tied card. -/
theorem proved : Rows.PolicyNamesCardSaid :=
  Claim7.holds_tied_plain_at .later [] [.data, .pinned] true (true, "113ac5747d96575fbcda31e55d5310c6f3f1c21629f2a8cd29e1ac263b5f2cd5") true over (fun _ h => by cases h) (by kernel_rfl) (fun _ h => by cases h) policyNames_row_tie rfl ⟨rfl, rfl⟩ (by kernel_rfl) rfl
    (fun f fn hf hfn => by
      obtain rfl : f = 8 := Option.some.inj ((show Tryz.prog.funcNamed "hayloft/hayloftlaw23.PolicyNames" = some 8 by kernel_rfl).symm.trans hf) |>.symm
      obtain rfl : fn = Tryz.f8 := (Option.some.inj (Tryz.func8.symm.trans hfn)).symm
      exact ⟨by kernel_rfl, fun j t ht => by
        rw [Tryz.params8] at ht
        have hm : t ∈ [9, 9, 3] := by simpa using Array.mem_of_getElem? ht
        have hall : ([9, 9, 3].all fun u => !Tryz.prog.wantsStandIn u) = true := by kernel_rfl
        exact (show Tryz.prog.wantsStandIn t = false by have h := List.all_eq_true.1 hall t hm; simpa using h)⟩)
    (by kernel_rfl)
#print axioms proved
end Go.Proofs.YtfbbjfbnkcklgaaGreatDoor.policyNames
