/- Step: the arms Recv, Cut, none -/
import Derived.Test.YtodbnmigdnmjnaaAA
namespace Go.Proofs.Ytodbnmigdnmjnaa
open Go.RowKit

set_option maxRecDepth 100000 in
set_option maxHeartbeats 800000 in
theorem step_recv (g g' : Nat) (e i j n y : Int) (b : Value) (w : World) (m : List Int) (hm : m.length ≤ 60000) (ok : Bool) (X Y : Value → World → Prop)
    (hX : HidP (∀ v w', X v w' → Boxed w.heap.size 1 e i j n y b w'))
    (h1 : HidP (Calls Try.prog 12 #[.pointer (some ⟨g, 0, none⟩), .int .i64 e] (boxed w 1 e i j n y b) fun e' w' => ∃ A n c, e' = .returned (.tuple #[.slice A n c, .bool ok]) ∧ X (.slice A n c) w'))
    (h2 : HidP (∀ v w', X v w' → Calls Try.prog 31 #[.pointer (some ⟨g', 0, none⟩), .int .i64 e] w' fun e' w'' => ∃ A n c, e' = .returned (.tuple #[.slice A n c, .bool ok]) ∧ Y v w'' ∧ Src w'' 1 v (nums m) ∧ Src w'' 1 (.slice A n c) (nums m))) :
    Calls Try.prog 17 #[.pointer (some ⟨g, 0, none⟩), .pointer (some ⟨g', 0, none⟩), .agg #[.int .i64 1, .int .i64 e, .int .i64 i, .int .i64 j, .int .i64 n, .int .u8 y, b]] w fun e' w' => e' = .returned (.bool true) ∧ ∃ v w2 k, Y v w2 ∧ w' = w2.drewN k := by
  obtain ⟨c0, c1, c2, c3, c4, c5, c6⟩ := Boxed.of (k := 1) (e := e) (i := i) (j := j) (n := n) (y := y) (b := b) (heap_alloc_new w (.cells (opCells 1 e i j n y b) 44 (0, 0)))
  unfold boxed at h1
  unfold opCells at c0 c1 c2 c3 c4 c5 c6
  go_enter Try.func17, Try.ntmps17
  go_wp2_with fail
  refine h1.out.mono ?_
  rintro e' w1 ⟨vA, vn, vc, rfl, hx⟩
  obtain ⟨d0, d1, d2, d3, d4, d5, d6⟩ := hX.out _ w1 hx
  go_wp2_with fail
  refine (h2.out _ w1 hx).mono ?_
  rintro e' w2 ⟨uA, un, uc, rfl, hy, s1, s2⟩
  clear hx d0 d1 d2 d3 d4 d5 d6
  go_wp2_with fail
  refine (bytes_same _ _ m m w2 s1 s2 (by omega)).mono ?_
  rintro e' w' ⟨rfl, k, rfl⟩
  clear s1 s2
  have hmm : decide (m = m) = true := by simp
  go_wp2_with fail
  go_ret
  exact ⟨by simp, _, _, k, hy, rfl⟩

set_option maxRecDepth 100000 in
set_option maxHeartbeats 800000 in
theorem step_cut (g g' : Nat) (e i j n y : Int) (b : Value) (w : World) (c : Bool) (hc : (n == 1) = c) (X Y : World → Prop)
    (hX : HidP (∀ w', X w' → Boxed w.heap.size 7 e i j n y b w'))
    (h1 : HidP (Calls Try.prog 11 #[.pointer (some ⟨g, 0, none⟩), .bool c] (boxed w 7 e i j n y b) fun e' w' => e' = .returned (.tuple #[]) ∧ X w'))
    (h2 : HidP (∀ w', X w' → Calls Try.prog 37 #[.pointer (some ⟨g', 0, none⟩), .bool c] w' fun e' w'' => e' = .returned (.tuple #[]) ∧ Y w'')) :
    Calls Try.prog 17 #[.pointer (some ⟨g, 0, none⟩), .pointer (some ⟨g', 0, none⟩), .agg #[.int .i64 7, .int .i64 e, .int .i64 i, .int .i64 j, .int .i64 n, .int .u8 y, b]] w fun e' w' => e' = .returned (.bool true) ∧ Y w' := by
  obtain ⟨c0, c1, c2, c3, c4, c5, c6⟩ := Boxed.of (k := 7) (e := e) (i := i) (j := j) (n := n) (y := y) (b := b) (heap_alloc_new w (.cells (opCells 7 e i j n y b) 44 (0, 0)))
  unfold boxed at h1
  unfold opCells at c0 c1 c2 c3 c4 c5 c6
  go_enter Try.func17, Try.ntmps17
  go_wp2_with fail
  refine h1.out.mono ?_
  rintro e' w1 ⟨rfl, hx⟩
  obtain ⟨d0, d1, d2, d3, d4, d5, d6⟩ := hX.out w1 hx
  go_wp2_with fail
  refine (h2.out w1 hx).mono ?_
  rintro e' w2 ⟨rfl, hy⟩
  clear hx d0 d1 d2 d3 d4 d5 d6
  go_wp2_with fail
  go_ret
  exact ⟨rfl, hy⟩

set_option maxRecDepth 100000 in
set_option maxHeartbeats 800000 in
theorem step_none (a a' : Option Addr) (k e i j n y : Int) (b : Value) (w : World) (h0 : (k == 0) = false) (h1 : (k == 1) = false) (h2 : (k == 2) = false) (h3 : (k == 3) = false) (h4 : (k == 4) = false) (h5 : (k == 5) = false) (h6 : (k == 6) = false) (h7 : (k == 7) = false) :
    Calls Try.prog 17 #[.pointer a, .pointer a', .agg #[.int .i64 k, .int .i64 e, .int .i64 i, .int .i64 j, .int .i64 n, .int .u8 y, b]] w fun e' w' => e' = .returned (.bool true) ∧ w' = boxed w k e i j n y b := by
  obtain ⟨c0, c1, c2, c3, c4, c5, c6⟩ := Boxed.of (k := k) (e := e) (i := i) (j := j) (n := n) (y := y) (b := b) (heap_alloc_new w (.cells (opCells k e i j n y b) 44 (0, 0)))
  unfold boxed
  unfold opCells at c0 c1 c2 c3 c4 c5 c6
  go_enter Try.func17, Try.ntmps17
  go_wp2_with fail
  go_ret
  exact ⟨rfl, rfl⟩

end Go.Proofs.Ytodbnmigdnmjnaa
