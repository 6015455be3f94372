/- hayloftref01.Bytes: are they the same? -/
import Derived.Test.YtodbnmigdnmjnaaC
import Derived.Deep.LoopGhost
namespace Go.Proofs.Ytodbnmigdnmjnaa
open Go.RowKit

/-- the i-th of a source of bytes -/
theorem Src.byte {w : World} {A : Option Addr} {n c : Nat} {bs : List Int} (h : Src w 1 (.slice A n c) (nums bs)) {i : Nat} (hi : i < n) : ∃ a p, A = some a ∧ w.cell? (a.add i) = some (.int .u8 p) ∧ HidP (bs[i]? = some p) := by
  obtain ⟨_, _, _, hv, hl, _, _, hh⟩ := h
  cases hv
  have hlb := nums_length bs
  have hi' : i < bs.length := by omega
  obtain ⟨a, ha, hc⟩ := hh i (.int .u8 bs[i]) (by simp [nums, hi'])
  exact ⟨a, _, ha, hc, hid (by simp [hi'])⟩
theorem Src.len {w : World} {A : Option Addr} {n c : Nat} {bs : List Int} (h : Src w 1 (.slice A n c) (nums bs)) : n = bs.length := by
  obtain ⟨_, _, _, hv, hl, _⟩ := h
  cases hv
  have := nums_length bs
  omega

set_option maxHeartbeats 800000 in
theorem bytes_same (a b : Value) (xs ys : List Int) (w : World) (ha : Src w 1 a (nums xs)) (hb : Src w 1 b (nums ys)) (hm : xs.length ≤ 9223372036854775806) :
    Calls Try.prog 13 #[a, b] w fun e w' => e = .returned (.bool (decide (xs = ys))) ∧ ∃ n, w.drewN n = w' := by
  obtain ⟨aA, an, ac, rfl, _⟩ := id ha
  obtain ⟨bA, bn, bc, rfl, _⟩ := id hb
  obtain rfl := ha.len
  obtain rfl := hb.len
  by_cases hlen : xs.length = ys.length
  · have g1 : ((xs.length : Int) != (ys.length : Int)) = false := by simp [hlen]
    have hl2 := hid hlen
    clear hlen
    go_enter Try.func13, Try.ntmps13
    go_wp2_with fail
    go_loopg [5] xs.length (fun k i wr => ∃ j : Nat, j ≤ xs.length ∧ k = xs.length - j ∧ i = .int .i64 j ∧ xs.take j = ys.take j ∧ ∃ n, wr = w.drewN n)
    case atStart => exact ⟨0, Nat.zero_le _, rfl, rfl, rfl, 0, rfl⟩
    case round =>
      obtain ⟨j, hj, rfl, rfl, htk, n, rfl⟩ := hrel
      by_cases hlt : j < xs.length
      · obtain ⟨a, p, rfl, hca, hp⟩ := ha.byte hlt
        obtain ⟨b, q, rfl, hcb, hq⟩ := hb.byte (i := j) (by have := hl2.out; omega)
        have i0 : (0 : Int) ≤ (j : Int) := by omega
        have i1 : (j : Int) < (xs.length : Int) := by omega
        have i2 : (j : Int) < (ys.length : Int) := by have := hl2.out; omega
        have htk2 := hid htk
        clear htk
        by_cases hx : p = q
        · subst hx
          go_wp2_with fail
          go_quiet (fail)
          go_wp2_with fail
          go_roundg (xs.length - (j + 1))
          case measure => omega
          case rel => exact ⟨j + 1, by omega, rfl, by go_num, by rw [List.take_add_one, List.take_add_one, htk2.out, hp.out, hq.out], _, rfl⟩
        · have g2 : (p != q) = true := by simp [hx]
          have hx2 := hid hx
          clear hx
          go_wp2_with fail
          go_quiet (fail)
          go_wp2_with fail
          go_ret
          refine ⟨?_, _, drewN_two w n _⟩
          have hne : ¬ xs = ys := by
            rintro rfl
            have h1 := hp.out
            rw [hq.out] at h1
            exact hx2.out (Option.some.inj h1).symm
          simp [hne]
      · obtain rfl : j = xs.length := by omega
        have heq : xs = ys := by
          have := htk
          rw [List.take_length, hl2.out, List.take_length] at this
          exact this
        have heq2 := hid heq
        clear heq htk
        go_wp2_with fail
        go_ret
        exact ⟨by simp [heq2.out], _, rfl⟩
  · have g1 : ((xs.length : Int) != (ys.length : Int)) = true := by simp; omega
    have hne : ¬ xs = ys := by rintro rfl; exact hlen rfl
    have hne2 := hid hne
    clear hlen hne
    go_enter Try.func13, Try.ntmps13
    go_wp2_with fail
    go_ret
    exact ⟨by simp [hne2.out], 0, rfl⟩

end Go.Proofs.Ytodbnmigdnmjnaa
