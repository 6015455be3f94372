/- prefixes; tree.within -/
import Derived.Test.YtfoedcmcdpekoaaDoorK6
namespace Go.Proofs.YtfoedcmcdpekoaaDoor
open Go.RowKit

def prefB (p s : List UInt8) : Bool := decide (p.length ≤ s.length) && (s.take p.length == p)

set_option maxHeartbeats 1600000 in
theorem hasprefix (s p : ByteArray) (w : World) : Calls Tryd.prog 80 #[.string s, .string p] w fun e w' => e = .returned (.bool (prefB p.toList s.toList)) ∧ w = w' := by
  have hlp := str_len p
  have hls := str_len s
  unfold prefB
  by_cases h : p.size ≤ s.size
  · have g1 : decide ((s.size : Int) ≥ (p.size : Int)) = true := decide_eq_true (by omega)
    have e1 : decide (p.toList.length ≤ s.toList.length) = true := decide_eq_true (by omega)
    have e2 : (s.extract 0 p.size).toList = s.toList.take p.toList.length := by rw [ext_take, hlp]
    rw [e1, ← e2]
    have i0 : (0 : Int) ≤ (p.size : Int) := by omega
    have i1 : (p.size : Int) ≤ (s.size : Int) := by omega
    clear e1 e2
    go_enter Tryd.func80, Tryd.ntmps80
    go_wp2_with fail
    go_ret
    exact ⟨by simp, rfl⟩
  · have g1 : decide ((s.size : Int) ≥ (p.size : Int)) = false := decide_eq_false (by omega)
    have e1 : decide (p.toList.length ≤ s.toList.length) = false := decide_eq_false (by omega)
    rw [e1]
    clear e1
    go_enter Tryd.func80, Tryd.ntmps80
    go_wp2_with fail
    go_ret
    exact ⟨by simp, rfl⟩
theorem prefB_len {p s : List UInt8} (h : prefB p s = true) : p.length ≤ s.length := by
  unfold prefB at h
  simp at h
  exact h.1

set_option maxHeartbeats 1600000 in
theorem cutprefix (s p : ByteArray) (w : World) : Calls Tryd.prog 70 #[.string s, .string p] w fun e w' => e = .returned (.tuple #[.string (if prefB p.toList s.toList then s.extract p.size s.size else s), .bool (prefB p.toList s.toList)]) ∧ w = w' := by
  have H := hid (hasprefix s p w)
  have hlp := str_len p
  have hls := str_len s
  have HC : Calls Tryd.prog 79 #[.string s, .string p] w fun e w' => e = .returned (.tuple #[.string (if prefB p.toList s.toList then s.extract p.size s.size else s), .bool (prefB p.toList s.toList)]) ∧ w = w' := by
    cases h : prefB p.toList s.toList
    · rw [h] at H
      go_enter Tryd.func79, Tryd.ntmps79
      go_wp2_with fail
      refine H.out.mono ?_
      rintro e w' ⟨rfl, rfl⟩
      go_wp2_with fail
      go_ret2
      exact ⟨rfl, rfl⟩
    · rw [h] at H
      have h1 := prefB_len h
      have i0 : (0 : Int) ≤ (p.size : Int) := by omega
      have i1 : (p.size : Int) ≤ (s.size : Int) := by omega
      go_enter Tryd.func79, Tryd.ntmps79
      go_wp2_with fail
      refine H.out.mono ?_
      rintro e w' ⟨rfl, rfl⟩
      go_wp2_with fail
      go_ret2
      exact ⟨rfl, rfl⟩
  replace HC := hid HC
  clear H
  generalize (if prefB p.toList s.toList then s.extract p.size s.size else s) = R at HC ⊢
  generalize prefB p.toList s.toList = B at HC ⊢
  go_enter Tryd.func70, Tryd.ntmps70
  go_wp2_with fail
  refine HC.out.mono ?_
  rintro e w' ⟨rfl, rfl⟩
  go_wp2_with fail
  go_ret2
  exact ⟨rfl, rfl⟩

theorem within_pref {p q : List UInt8} : withinA p q = (prefB p q && (p == [] || q.drop p.length == [] || (q.drop p.length)[0]? == some 47)) := by
  unfold withinA prefB
  rw [Bool.eq_iff_iff]
  simp only [Bool.or_eq_true, beq_iff_eq, Bool.and_eq_true, decide_eq_true_eq]
  constructor
  · rintro ((rfl | rfl) | ⟨⟨h1, h2⟩, h3⟩)
    · exact ⟨⟨Nat.le_refl _, by simp⟩, .inl (.inr (by simp))⟩
    · exact ⟨by simp, .inl (.inl rfl)⟩
    · exact ⟨⟨by omega, h2⟩, .inr (by rw [List.getElem?_drop]; simpa using h3)⟩
  · rintro ⟨⟨h1, h2⟩, (h3 | h3) | h3⟩
    · exact .inl (.inr h3)
    · left; left
      have : q.length ≤ p.length := by
        have := congrArg List.length h3
        rw [List.length_drop] at this
        simp at this
        omega
      rw [List.take_of_length_le this] at h2
      exact h2
    · right
      rw [List.getElem?_drop] at h3
      have h4 := (List.getElem?_eq_some_iff.1 h3).1
      exact ⟨⟨by omega, h2⟩, by simpa using h3⟩

set_option maxRecDepth 100000 in
set_option maxHeartbeats 1600000 in
theorem within_walk (p q : ByteArray) (w : World) : Calls Tryd.prog 57 #[.string p, .string q] w fun e w' => e = .returned (.bool (withinA p.toList q.toList)) ∧ w = w' := by
  have H := hid (cutprefix q p w)
  have hlp := str_len p
  have hlq := str_len q
  rw [within_pref]
  cases h : prefB p.toList q.toList
  · rw [h] at H
    go_enter Tryd.func57, Tryd.ntmps57
    go_wp2_with fail
    refine H.out.mono ?_
    rintro e w' ⟨rfl, rfl⟩
    go_wp2_with fail
    go_ret
    exact ⟨by simp, rfl⟩
  rw [h, if_pos rfl] at H
  have hd : (q.extract p.size q.size).toList = q.toList.drop p.toList.length := by rw [ext_drop, hlp]
  rw [← hd]
  have hle := prefB_len h
  generalize hr : q.extract p.size q.size = R at *
  clear hd hr h
  have hlr := str_len R
  cases h1 : (p.toList == [])
  case true =>
    go_enter Tryd.func57, Tryd.ntmps57
    go_wp2_with fail
    refine H.out.mono ?_
    rintro e w' ⟨rfl, rfl⟩
    go_wp2_with fail
    go_ret
    exact ⟨by simp, rfl⟩
  cases h2 : (R.toList == [])
  case true =>
    go_enter Tryd.func57, Tryd.ntmps57
    go_wp2_with fail
    refine H.out.mono ?_
    rintro e w' ⟨rfl, rfl⟩
    go_wp2_with fail
    go_ret
    exact ⟨by simp, rfl⟩
  have hpos : 0 < R.size := by
    rcases Nat.eq_zero_or_pos R.size with h | h
    · rw [h] at hlr; rw [List.eq_nil_of_length_eq_zero hlr] at h2; simp at h2
    · exact h
  have hg := str_get R 0 hpos
  have e5 : (R.toList[0]? == some 47) = ((R[0].toNat : Int) == 47) := by
    rw [hg, Bool.eq_iff_iff]
    simp only [beq_iff_eq, Option.some.injEq]
    constructor
    · intro h; rw [h]; rfl
    · intro h; exact UInt8.toNat_inj.1 (by exact_mod_cast h)
  rw [e5]
  have i1 : (0 : Int) < (R.size : Int) := by omega
  clear hg e5
  go_enter Tryd.func57, Tryd.ntmps57
  go_wp2_with fail
  refine H.out.mono ?_
  rintro e w' ⟨rfl, rfl⟩
  go_wp2_with fail
  go_ret
  exact ⟨by simp, rfl⟩

set_option maxHeartbeats 1600000 in
theorem trimprefix (s p : ByteArray) (w : World) : Calls Tryd.prog 58 #[.string s, .string p] w fun e w' => e = .returned (.string (if prefB p.toList s.toList then s.extract p.size s.size else s)) ∧ w = w' := by
  have H := hid (hasprefix s p w)
  have hlp := str_len p
  have hls := str_len s
  have HC : Calls Tryd.prog 71 #[.string s, .string p] w fun e w' => e = .returned (.string (if prefB p.toList s.toList then s.extract p.size s.size else s)) ∧ w = w' := by
    cases h : prefB p.toList s.toList
    · rw [h] at H
      go_enter Tryd.func71, Tryd.ntmps71
      go_wp2_with fail
      refine H.out.mono ?_
      rintro e w' ⟨rfl, rfl⟩
      go_wp2_with fail
      go_ret
      exact ⟨rfl, rfl⟩
    · rw [h] at H
      have h1 := prefB_len h
      have i0 : (0 : Int) ≤ (p.size : Int) := by omega
      have i1 : (p.size : Int) ≤ (s.size : Int) := by omega
      go_enter Tryd.func71, Tryd.ntmps71
      go_wp2_with fail
      refine H.out.mono ?_
      rintro e w' ⟨rfl, rfl⟩
      go_wp2_with fail
      go_ret
      exact ⟨rfl, rfl⟩
  replace HC := hid HC
  clear H
  generalize (if prefB p.toList s.toList then s.extract p.size s.size else s) = R at HC ⊢
  go_enter Tryd.func58, Tryd.ntmps58
  go_wp2_with fail
  refine HC.out.mono ?_
  rintro e w' ⟨rfl, rfl⟩
  go_wp2_with fail
  go_ret
  exact ⟨rfl, rfl⟩

end Go.Proofs.YtfoedcmcdpekoaaDoor
