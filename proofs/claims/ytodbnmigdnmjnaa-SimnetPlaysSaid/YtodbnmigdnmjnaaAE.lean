/- SimnetPlays: the walk -/
import Derived.Test.YtodbnmigdnmjnaaAD
namespace Go.Proofs.Ytodbnmigdnmjnaa
open Go.RowKit

set_option maxRecDepth 100000 in
set_option maxHeartbeats 800000 in
theorem plays_heavy (room : Int) (A : Option Addr) (n c : Nat) (w : World) (h : HidP (Calls Try.prog 15 #[.slice A n c, .int .i64 50] w fun e w' => e = .returned (.bool false) ∧ w = w')) :
    Calls Try.prog 4 #[.int .i64 room, .slice A n c] w fun e w' => e = .returned (.bool true) ∧ Below w.heap.size w w' := by
  go_enter Try.func4, Try.ntmps4
  go_wp2_with fail
  refine h.out.mono ?_
  rintro e w' ⟨rfl, rfl⟩
  go_wp2_with fail
  refine (alive_any _).mono ?_
  rintro e w' ⟨rfl, hb⟩
  go_wp2_with fail
  go_ret
  exact ⟨rfl, hb⟩

set_option maxRecDepth 100000 in
set_option maxHeartbeats 1600000 in
theorem plays_bad (room : Int) (A : Option Addr) (n c : Nat) (w : World) (h : HidP (Calls Try.prog 15 #[.slice A n c, .int .i64 50] w fun e w' => e = .returned (.bool true) ∧ w = w'))
    (hb : HidP (decide (room < 1) = true ∨ (decide (room < 1) = false ∧ decide (room > 1000) = true))) :
    Calls Try.prog 4 #[.int .i64 room, .slice A n c] w fun e w' => e = .returned (.bool true) ∧ Below w.heap.size w w' := by
  go_enter Try.func4, Try.ntmps4
  go_wp2_with fail
  refine h.out.mono ?_
  rintro e w' ⟨rfl, rfl⟩
  go_wp2_with fail
  refine (new_bad room _ hb.out).mono ?_
  rintro e w' ⟨rfl, rfl⟩
  go_wp2_with fail
  refine (rnew_bad room _ hb.out).mono ?_
  rintro e w' ⟨rfl, rfl⟩
  go_wp2_with fail
  refine (alive_any _).mono ?_
  rintro e w' ⟨rfl, hbel⟩
  go_wp2_with fail
  go_loopg [9] 0 (fun k i wr => i = .int .i64 0 ∧ wr = w')
  case atStart => exact ⟨rfl, rfl⟩
  case round =>
    obtain ⟨rfl, rfl⟩ := hrel
    by_cases hn : 0 < n
    · have g1 : (0 : Int) < (n : Int) := by omega
      go_wp2_with fail
      go_loopg [10] 0 (fun k i wr' => i = .int .i64 0 ∧ wr' = wr)
      case atStart => exact ⟨rfl, rfl⟩
      case round =>
        obtain ⟨rfl, rfl⟩ := hrel
        go_wp2_with fail
        go_ret
        exact ⟨rfl, hbel⟩
    · obtain rfl : n = 0 := by omega
      go_wp2_with fail
      go_loopg [10] 0 (fun k i wr' => i = .int .i64 0 ∧ wr' = wr)
      case atStart => exact ⟨rfl, rfl⟩
      case round =>
        obtain ⟨rfl, rfl⟩ := hrel
        go_wp2_with fail
        go_ret
        exact ⟨rfl, hbel⟩

end Go.Proofs.Ytodbnmigdnmjnaa
