/- Step: the walk of each arm that asks both nets in one line -/
import Derived.Test.YtodbnmigdnmjnaaZ3
namespace Go.Proofs.Ytodbnmigdnmjnaa
open Go.RowKit
set_option linter.unusedSimpArgs false

/-- the cells of an Op -/
def opCells (k e i j n y : Int) (b : Value) : Array Value := #[.int .i64 k, .int .i64 e, .int .i64 i, .int .i64 j, .int .i64 n, .int .u8 y, b]
structure Boxed (B : Nat) (k e i j n y : Int) (b : Value) (w : World) : Prop where
  c0 : w.cell? ⟨B, 0, none⟩ = some (.int .i64 k)
  c1 : w.cell? ⟨B, 1, none⟩ = some (.int .i64 e)
  c2 : w.cell? ⟨B, 2, none⟩ = some (.int .i64 i)
  c3 : w.cell? ⟨B, 3, none⟩ = some (.int .i64 j)
  c4 : w.cell? ⟨B, 4, none⟩ = some (.int .i64 n)
  c5 : w.cell? ⟨B, 5, none⟩ = some (.int .u8 y)
  c6 : w.cell? ⟨B, 6, none⟩ = some b
theorem Boxed.of {B : Nat} {k e i j n y : Int} {b : Value} {w : World} (h : w.heap[B]? = some (.cells (opCells k e i j n y b) 44 (0, 0))) : Boxed B k e i j n y b w :=
  ⟨(blkCell h 0).trans rfl, (blkCell h 1).trans rfl, (blkCell h 2).trans rfl, (blkCell h 3).trans rfl, (blkCell h 4).trans rfl, (blkCell h 5).trans rfl, (blkCell h 6).trans rfl⟩
def boxed (w : World) (k e i j n y : Int) (b : Value) : World := w.alloc (.cells #[.int .i64 k, .int .i64 e, .int .i64 i, .int .i64 j, .int .i64 n, .int .u8 y, b] 44 (0, 0))

set_option maxRecDepth 100000 in
set_option maxHeartbeats 1600000 in
theorem step_send (g g' : Nat) (e i j n y : Int) (b : Value) (w : World) (v : Int) (X Y : World → Prop)
    (hX : HidP (∀ w', X w' → Boxed w.heap.size 0 e i j n y b w')) (hY : HidP (∀ w', Y w' → Boxed w.heap.size 0 e i j n y b w'))
    (h1 : HidP (Calls Try.prog 8 #[.pointer (some ⟨g, 0, none⟩), .int .i64 e, b] (boxed w 0 e i j n y b).drew fun e' w' => e' = .returned (.int .i64 v) ∧ X w'))
    (h2 : HidP (∀ w', X w' → Calls Try.prog 30 #[.pointer (some ⟨g', 0, none⟩), .int .i64 e, b] w' fun e' w'' => e' = .returned (.int .i64 v) ∧ Y w'')) :
    Calls Try.prog 17 #[.pointer (some ⟨g, 0, none⟩), .pointer (some ⟨g', 0, none⟩), .agg #[.int .i64 0, .int .i64 e, .int .i64 i, .int .i64 j, .int .i64 n, .int .u8 y, b]] w fun e' w' => e' = .returned (.bool true) ∧ Y w' := by
  obtain ⟨c0, c1, c2, c3, c4, c5, c6⟩ := Boxed.of (k := 0) (e := e) (i := i) (j := j) (n := n) (y := y) (b := b) (heap_alloc_new w (.cells (opCells 0 e i j n y b) 44 (0, 0)))
  unfold boxed at h1
  unfold opCells at c0 c1 c2 c3 c4 c5 c6
  go_enter Try.func17, Try.ntmps17
  go_wp2_with fail
  refine wp_region_noPanic ?_
  refine wp_region_F (fun w' => w'.cell? ⟨w.heap.size, 1, none⟩ = some (.int .i64 e) ∧ w'.cell? ⟨w.heap.size, 6, none⟩ = some (b)) (fun w' => w' = (w.alloc (.cells #[.int .i64 0, .int .i64 e, .int .i64 i, .int .i64 j, .int .i64 n, .int .u8 y, b] 44 (0, 0))).drew) [5, 11, 12, 13] (by kernel_rfl) ?_
  refine anyF_takeT (i := 0) (v := ?v0) (by rfl) (by kernel_rfl) (by kernel_rfl) (by kernel_rfl) (by kernel_rfl) (by exact fun _ _ _ h => h) (Or.inl ⟨by rfl, ?y0⟩) (by exact ⟨c1, c6⟩) (by exact fun _ => rfl) ?r0
  case y0 => (intro wS hwS; (try dsimp only at hwS); go_split_ands; go_simp; try with_reducible rfl)
  try simp only [Act.put, List.getElem_toArray, List.getElem_cons_succ, List.getElem_cons_zero, List.setIfInBounds_toArray, List.set_cons_zero, List.set_cons_succ]
  refine anyF_takeT (i := 1) (v := ?v1) (by rfl) (by kernel_rfl) (by kernel_rfl) (by kernel_rfl) (by kernel_rfl) (by exact fun _ _ _ h => h) (Or.inl ⟨by rfl, ?y1⟩) (by exact ⟨c1, c6⟩) (by exact fun _ => rfl) ?r1
  case y1 => (intro wS hwS; (try dsimp only at hwS); go_split_ands; go_simp; try with_reducible rfl)
  try simp only [Act.put, List.getElem_toArray, List.getElem_cons_succ, List.getElem_cons_zero, List.setIfInBounds_toArray, List.set_cons_zero, List.set_cons_succ]
  refine anyF_takeT (i := 2) (v := ?v2) (by rfl) (by kernel_rfl) (by kernel_rfl) (by kernel_rfl) (by kernel_rfl) (by exact fun _ _ _ h => h) (Or.inl ⟨by rfl, ?y2⟩) (by exact ⟨c1, c6⟩) (by exact fun _ => rfl) ?r2
  case y2 => (intro wS hwS; (try dsimp only at hwS); go_split_ands; go_simp; try with_reducible rfl)
  try simp only [Act.put, List.getElem_toArray, List.getElem_cons_succ, List.getElem_cons_zero, List.setIfInBounds_toArray, List.set_cons_zero, List.set_cons_succ]
  refine anyF_takeT (i := 3) (v := ?v3) (by rfl) (by kernel_rfl) (by kernel_rfl) (by kernel_rfl) (by kernel_rfl) (by exact fun _ _ _ h => h) (Or.inl ⟨by rfl, ?y3⟩) (by exact ⟨c1, c6⟩) (by exact fun _ => rfl) ?r3
  case y3 => (intro wS hwS; (try dsimp only at hwS); go_split_ands; go_simp; try with_reducible rfl)
  try simp only [Act.put, List.getElem_toArray, List.getElem_cons_succ, List.getElem_cons_zero, List.setIfInBounds_toArray, List.set_cons_zero, List.set_cons_succ]
  refine anyF_takeT (i := 4) (v := ?v4) (by rfl) (by kernel_rfl) (by kernel_rfl) (by kernel_rfl) (by kernel_rfl) (by exact fun _ _ _ h => h) (Or.inl ⟨by rfl, ?y4⟩) (by exact ⟨c1, c6⟩) (by exact fun _ => rfl) ?r4
  case y4 => (intro wS hwS; (try dsimp only at hwS); go_split_ands; go_simp; try with_reducible rfl)
  try simp only [Act.put, List.getElem_toArray, List.getElem_cons_succ, List.getElem_cons_zero, List.setIfInBounds_toArray, List.set_cons_zero, List.set_cons_succ]
  refine anyF_takeT (i := 6) (v := ?v6) (by rfl) (by kernel_rfl) (by kernel_rfl) (by kernel_rfl) (by kernel_rfl) (by exact fun _ _ _ h => h) (Or.inl ⟨by rfl, ?y6⟩) (by exact ⟨c1, c6⟩) (by exact fun _ => rfl) ?r6
  case y6 => (intro wS hwS; (try dsimp only at hwS); go_split_ands; go_simp; try with_reducible rfl)
  try simp only [Act.put, List.getElem_toArray, List.getElem_cons_succ, List.getElem_cons_zero, List.setIfInBounds_toArray, List.set_cons_zero, List.set_cons_succ]
  refine anyF_takeT (i := 7) (v := ?v7) (by rfl) (by kernel_rfl) (by kernel_rfl) (by kernel_rfl) (by kernel_rfl) (by exact fun _ _ _ h => h) (Or.inl ⟨by rfl, ?y7⟩) (by exact ⟨c1, c6⟩) (by exact fun _ => rfl) ?r7
  case y7 => (intro wS hwS; (try dsimp only at hwS); go_split_ands; go_simp; try with_reducible rfl)
  try simp only [Act.put, List.getElem_toArray, List.getElem_cons_succ, List.getElem_cons_zero, List.setIfInBounds_toArray, List.set_cons_zero, List.set_cons_succ]
  refine anyF_takeT (i := 8) (v := ?v8) (by rfl) (by kernel_rfl) (by kernel_rfl) (by kernel_rfl) (by kernel_rfl) (by exact fun _ _ _ h => h) (Or.inl ⟨by rfl, ?y8⟩) (by exact ⟨c1, c6⟩) (by exact fun _ => rfl) ?r8
  case y8 => (intro wS hwS; (try dsimp only at hwS); go_split_ands; go_simp; try with_reducible rfl)
  try simp only [Act.put, List.getElem_toArray, List.getElem_cons_succ, List.getElem_cons_zero, List.setIfInBounds_toArray, List.set_cons_zero, List.set_cons_succ]
  refine anyF_takeT (i := 9) (v := ?v9) (by rfl) (by kernel_rfl) (by kernel_rfl) (by kernel_rfl) (by kernel_rfl) (by exact fun _ _ _ h => h) (Or.inl ⟨by rfl, ?y9⟩) (by exact ⟨c1, c6⟩) (by exact fun _ => rfl) ?r9
  case y9 => (intro wS hwS; (try dsimp only at hwS); go_split_ands; go_simp; try with_reducible rfl)
  try simp only [Act.put, List.getElem_toArray, List.getElem_cons_succ, List.getElem_cons_zero, List.setIfInBounds_toArray, List.set_cons_zero, List.set_cons_succ]
  refine anyF_takeT (i := 10) (v := ?v10) (by rfl) (by kernel_rfl) (by kernel_rfl) (by kernel_rfl) (by kernel_rfl) (by exact fun _ _ _ h => h) (Or.inl ⟨by rfl, ?y10⟩) (by exact ⟨c1, c6⟩) (by exact fun _ => rfl) ?r10
  case y10 => (intro wS hwS; (try dsimp only at hwS); go_split_ands; go_simp; try with_reducible rfl)
  try simp only [Act.put, List.getElem_toArray, List.getElem_cons_succ, List.getElem_cons_zero, List.setIfInBounds_toArray, List.set_cons_zero, List.set_cons_succ]
  refine anyF_last (i := 5) (by rfl) (by kernel_rfl) (by kernel_rfl) ?_
  intro K1 hK1
  have hKs1 := hid hK1; clear hK1
  refine step_call (by rfl) 8 _ _ (by rfl) Try.func8 (by kernel_rfl) (by kernel_rfl) [.pointer (some ⟨g, 0, none⟩), .int .i64 e, b] (by rfl) h1.out ?_
  rintro e' w1 ⟨rfl, hx⟩
  refine ⟨_, rfl, ?_⟩
  have hb1 := hX.out w1 hx
  refine hKs1.out _ _ (by exact ⟨hb1.c1, hb1.c6⟩) ?_
  clear hKs1 K1 hb1
  refine anyF_last (i := 11) (by rfl) (by kernel_rfl) (by kernel_rfl) ?_
  intro K1 hK1
  have hKs1 := hid hK1; clear hK1
  refine step_call (by rfl) 30 _ _ (by rfl) Try.func30 (by kernel_rfl) (by kernel_rfl) [.pointer (some ⟨g', 0, none⟩), .int .i64 e, b] (by rfl) (h2.out w1 hx) ?_
  rintro e' w2 ⟨rfl, hy⟩
  refine ⟨_, rfl, ?_⟩
  have hb1 := hY.out w2 hy
  refine hKs1.out _ _ (by exact ⟨hb1.c1, hb1.c6⟩) ?_
  clear hKs1 K1
  refine anyF_last (i := 12) (by rfl) (by kernel_rfl) (by kernel_rfl) ?_
  intro K1 hK1
  have hKs1 := hid hK1; clear hK1
  go_simp
  refine hKs1.out _ _ (by exact ⟨hb1.c1, hb1.c6⟩) ?_
  clear hKs1 K1
  refine anyF_last (i := 13) (by rfl) (by kernel_rfl) (by kernel_rfl) ?_
  intro K1 hK1
  have hKs1 := hid hK1; clear hK1
  go_simp
  refine hKs1.out _ _ (by exact ⟨hb1.c1, hb1.c6⟩) ?_
  clear hKs1 K1
  refine anyF_done (by kernel_rfl) (NoPanic.normal ?_) _
  go_wp2_with fail
  go_ret
  exact ⟨by simp, hy⟩

set_option maxRecDepth 100000 in
set_option maxHeartbeats 1600000 in
theorem step_drop (g g' : Nat) (e i j n y : Int) (b : Value) (w : World) (v : Bool) (X Y : World → Prop)
    (hX : HidP (∀ w', X w' → Boxed w.heap.size 2 e i j n y b w')) (hY : HidP (∀ w', Y w' → Boxed w.heap.size 2 e i j n y b w'))
    (h1 : HidP (Calls Try.prog 20 #[.pointer (some ⟨g, 0, none⟩), .int .i64 e, .int .i64 i] (boxed w 2 e i j n y b).drew fun e' w' => e' = .returned (.bool v) ∧ X w'))
    (h2 : HidP (∀ w', X w' → Calls Try.prog 32 #[.pointer (some ⟨g', 0, none⟩), .int .i64 e, .int .i64 i] w' fun e' w'' => e' = .returned (.bool v) ∧ Y w'')) :
    Calls Try.prog 17 #[.pointer (some ⟨g, 0, none⟩), .pointer (some ⟨g', 0, none⟩), .agg #[.int .i64 2, .int .i64 e, .int .i64 i, .int .i64 j, .int .i64 n, .int .u8 y, b]] w fun e' w' => e' = .returned (.bool true) ∧ Y w' := by
  obtain ⟨c0, c1, c2, c3, c4, c5, c6⟩ := Boxed.of (k := 2) (e := e) (i := i) (j := j) (n := n) (y := y) (b := b) (heap_alloc_new w (.cells (opCells 2 e i j n y b) 44 (0, 0)))
  unfold boxed at h1
  unfold opCells at c0 c1 c2 c3 c4 c5 c6
  go_enter Try.func17, Try.ntmps17
  go_wp2_with fail
  refine wp_region_noPanic ?_
  refine wp_region_F (fun w' => w'.cell? ⟨w.heap.size, 1, none⟩ = some (.int .i64 e) ∧ w'.cell? ⟨w.heap.size, 2, none⟩ = some (.int .i64 i)) (fun w' => w' = (w.alloc (.cells #[.int .i64 2, .int .i64 e, .int .i64 i, .int .i64 j, .int .i64 n, .int .u8 y, b] 44 (0, 0))).drew) [5, 11, 12, 13] (by kernel_rfl) ?_
  refine anyF_takeT (i := 0) (v := ?v0) (by rfl) (by kernel_rfl) (by kernel_rfl) (by kernel_rfl) (by kernel_rfl) (by exact fun _ _ _ h => h) (Or.inl ⟨by rfl, ?y0⟩) (by exact ⟨c1, c2⟩) (by exact fun _ => rfl) ?r0
  case y0 => (intro wS hwS; (try dsimp only at hwS); go_split_ands; go_simp; try with_reducible rfl)
  try simp only [Act.put, List.getElem_toArray, List.getElem_cons_succ, List.getElem_cons_zero, List.setIfInBounds_toArray, List.set_cons_zero, List.set_cons_succ]
  refine anyF_takeT (i := 1) (v := ?v1) (by rfl) (by kernel_rfl) (by kernel_rfl) (by kernel_rfl) (by kernel_rfl) (by exact fun _ _ _ h => h) (Or.inl ⟨by rfl, ?y1⟩) (by exact ⟨c1, c2⟩) (by exact fun _ => rfl) ?r1
  case y1 => (intro wS hwS; (try dsimp only at hwS); go_split_ands; go_simp; try with_reducible rfl)
  try simp only [Act.put, List.getElem_toArray, List.getElem_cons_succ, List.getElem_cons_zero, List.setIfInBounds_toArray, List.set_cons_zero, List.set_cons_succ]
  refine anyF_takeT (i := 2) (v := ?v2) (by rfl) (by kernel_rfl) (by kernel_rfl) (by kernel_rfl) (by kernel_rfl) (by exact fun _ _ _ h => h) (Or.inl ⟨by rfl, ?y2⟩) (by exact ⟨c1, c2⟩) (by exact fun _ => rfl) ?r2
  case y2 => (intro wS hwS; (try dsimp only at hwS); go_split_ands; go_simp; try with_reducible rfl)
  try simp only [Act.put, List.getElem_toArray, List.getElem_cons_succ, List.getElem_cons_zero, List.setIfInBounds_toArray, List.set_cons_zero, List.set_cons_succ]
  refine anyF_takeT (i := 3) (v := ?v3) (by rfl) (by kernel_rfl) (by kernel_rfl) (by kernel_rfl) (by kernel_rfl) (by exact fun _ _ _ h => h) (Or.inl ⟨by rfl, ?y3⟩) (by exact ⟨c1, c2⟩) (by exact fun _ => rfl) ?r3
  case y3 => (intro wS hwS; (try dsimp only at hwS); go_split_ands; go_simp; try with_reducible rfl)
  try simp only [Act.put, List.getElem_toArray, List.getElem_cons_succ, List.getElem_cons_zero, List.setIfInBounds_toArray, List.set_cons_zero, List.set_cons_succ]
  refine anyF_takeT (i := 4) (v := ?v4) (by rfl) (by kernel_rfl) (by kernel_rfl) (by kernel_rfl) (by kernel_rfl) (by exact fun _ _ _ h => h) (Or.inl ⟨by rfl, ?y4⟩) (by exact ⟨c1, c2⟩) (by exact fun _ => rfl) ?r4
  case y4 => (intro wS hwS; (try dsimp only at hwS); go_split_ands; go_simp; try with_reducible rfl)
  try simp only [Act.put, List.getElem_toArray, List.getElem_cons_succ, List.getElem_cons_zero, List.setIfInBounds_toArray, List.set_cons_zero, List.set_cons_succ]
  refine anyF_takeT (i := 6) (v := ?v6) (by rfl) (by kernel_rfl) (by kernel_rfl) (by kernel_rfl) (by kernel_rfl) (by exact fun _ _ _ h => h) (Or.inl ⟨by rfl, ?y6⟩) (by exact ⟨c1, c2⟩) (by exact fun _ => rfl) ?r6
  case y6 => (intro wS hwS; (try dsimp only at hwS); go_split_ands; go_simp; try with_reducible rfl)
  try simp only [Act.put, List.getElem_toArray, List.getElem_cons_succ, List.getElem_cons_zero, List.setIfInBounds_toArray, List.set_cons_zero, List.set_cons_succ]
  refine anyF_takeT (i := 7) (v := ?v7) (by rfl) (by kernel_rfl) (by kernel_rfl) (by kernel_rfl) (by kernel_rfl) (by exact fun _ _ _ h => h) (Or.inl ⟨by rfl, ?y7⟩) (by exact ⟨c1, c2⟩) (by exact fun _ => rfl) ?r7
  case y7 => (intro wS hwS; (try dsimp only at hwS); go_split_ands; go_simp; try with_reducible rfl)
  try simp only [Act.put, List.getElem_toArray, List.getElem_cons_succ, List.getElem_cons_zero, List.setIfInBounds_toArray, List.set_cons_zero, List.set_cons_succ]
  refine anyF_takeT (i := 8) (v := ?v8) (by rfl) (by kernel_rfl) (by kernel_rfl) (by kernel_rfl) (by kernel_rfl) (by exact fun _ _ _ h => h) (Or.inl ⟨by rfl, ?y8⟩) (by exact ⟨c1, c2⟩) (by exact fun _ => rfl) ?r8
  case y8 => (intro wS hwS; (try dsimp only at hwS); go_split_ands; go_simp; try with_reducible rfl)
  try simp only [Act.put, List.getElem_toArray, List.getElem_cons_succ, List.getElem_cons_zero, List.setIfInBounds_toArray, List.set_cons_zero, List.set_cons_succ]
  refine anyF_takeT (i := 9) (v := ?v9) (by rfl) (by kernel_rfl) (by kernel_rfl) (by kernel_rfl) (by kernel_rfl) (by exact fun _ _ _ h => h) (Or.inl ⟨by rfl, ?y9⟩) (by exact ⟨c1, c2⟩) (by exact fun _ => rfl) ?r9
  case y9 => (intro wS hwS; (try dsimp only at hwS); go_split_ands; go_simp; try with_reducible rfl)
  try simp only [Act.put, List.getElem_toArray, List.getElem_cons_succ, List.getElem_cons_zero, List.setIfInBounds_toArray, List.set_cons_zero, List.set_cons_succ]
  refine anyF_takeT (i := 10) (v := ?v10) (by rfl) (by kernel_rfl) (by kernel_rfl) (by kernel_rfl) (by kernel_rfl) (by exact fun _ _ _ h => h) (Or.inl ⟨by rfl, ?y10⟩) (by exact ⟨c1, c2⟩) (by exact fun _ => rfl) ?r10
  case y10 => (intro wS hwS; (try dsimp only at hwS); go_split_ands; go_simp; try with_reducible rfl)
  try simp only [Act.put, List.getElem_toArray, List.getElem_cons_succ, List.getElem_cons_zero, List.setIfInBounds_toArray, List.set_cons_zero, List.set_cons_succ]
  refine anyF_last (i := 5) (by rfl) (by kernel_rfl) (by kernel_rfl) ?_
  intro K1 hK1
  have hKs1 := hid hK1; clear hK1
  refine step_call (by rfl) 20 _ _ (by rfl) Try.func20 (by kernel_rfl) (by kernel_rfl) [.pointer (some ⟨g, 0, none⟩), .int .i64 e, .int .i64 i] (by rfl) h1.out ?_
  rintro e' w1 ⟨rfl, hx⟩
  refine ⟨_, rfl, ?_⟩
  have hb1 := hX.out w1 hx
  refine hKs1.out _ _ (by exact ⟨hb1.c1, hb1.c2⟩) ?_
  clear hKs1 K1 hb1
  refine anyF_last (i := 11) (by rfl) (by kernel_rfl) (by kernel_rfl) ?_
  intro K1 hK1
  have hKs1 := hid hK1; clear hK1
  refine step_call (by rfl) 32 _ _ (by rfl) Try.func32 (by kernel_rfl) (by kernel_rfl) [.pointer (some ⟨g', 0, none⟩), .int .i64 e, .int .i64 i] (by rfl) (h2.out w1 hx) ?_
  rintro e' w2 ⟨rfl, hy⟩
  refine ⟨_, rfl, ?_⟩
  have hb1 := hY.out w2 hy
  refine hKs1.out _ _ (by exact ⟨hb1.c1, hb1.c2⟩) ?_
  clear hKs1 K1
  refine anyF_last (i := 12) (by rfl) (by kernel_rfl) (by kernel_rfl) ?_
  intro K1 hK1
  have hKs1 := hid hK1; clear hK1
  go_simp
  refine hKs1.out _ _ (by exact ⟨hb1.c1, hb1.c2⟩) ?_
  clear hKs1 K1
  refine anyF_last (i := 13) (by rfl) (by kernel_rfl) (by kernel_rfl) ?_
  intro K1 hK1
  have hKs1 := hid hK1; clear hK1
  go_simp
  refine hKs1.out _ _ (by exact ⟨hb1.c1, hb1.c2⟩) ?_
  clear hKs1 K1
  refine anyF_done (by kernel_rfl) (NoPanic.normal ?_) _
  go_wp2_with fail
  go_ret
  exact ⟨by simp, hy⟩

set_option maxRecDepth 100000 in
set_option maxHeartbeats 1600000 in
theorem step_again (g g' : Nat) (e i j n y : Int) (b : Value) (w : World) (v : Bool) (X Y : World → Prop)
    (hX : HidP (∀ w', X w' → Boxed w.heap.size 3 e i j n y b w')) (hY : HidP (∀ w', Y w' → Boxed w.heap.size 3 e i j n y b w'))
    (h1 : HidP (Calls Try.prog 21 #[.pointer (some ⟨g, 0, none⟩), .int .i64 e, .int .i64 i] (boxed w 3 e i j n y b).drew fun e' w' => e' = .returned (.bool v) ∧ X w'))
    (h2 : HidP (∀ w', X w' → Calls Try.prog 33 #[.pointer (some ⟨g', 0, none⟩), .int .i64 e, .int .i64 i] w' fun e' w'' => e' = .returned (.bool v) ∧ Y w'')) :
    Calls Try.prog 17 #[.pointer (some ⟨g, 0, none⟩), .pointer (some ⟨g', 0, none⟩), .agg #[.int .i64 3, .int .i64 e, .int .i64 i, .int .i64 j, .int .i64 n, .int .u8 y, b]] w fun e' w' => e' = .returned (.bool true) ∧ Y w' := by
  obtain ⟨c0, c1, c2, c3, c4, c5, c6⟩ := Boxed.of (k := 3) (e := e) (i := i) (j := j) (n := n) (y := y) (b := b) (heap_alloc_new w (.cells (opCells 3 e i j n y b) 44 (0, 0)))
  unfold boxed at h1
  unfold opCells at c0 c1 c2 c3 c4 c5 c6
  go_enter Try.func17, Try.ntmps17
  go_wp2_with fail
  refine wp_region_noPanic ?_
  refine wp_region_F (fun w' => w'.cell? ⟨w.heap.size, 1, none⟩ = some (.int .i64 e) ∧ w'.cell? ⟨w.heap.size, 2, none⟩ = some (.int .i64 i)) (fun w' => w' = (w.alloc (.cells #[.int .i64 3, .int .i64 e, .int .i64 i, .int .i64 j, .int .i64 n, .int .u8 y, b] 44 (0, 0))).drew) [5, 11, 12, 13] (by kernel_rfl) ?_
  refine anyF_takeT (i := 0) (v := ?v0) (by rfl) (by kernel_rfl) (by kernel_rfl) (by kernel_rfl) (by kernel_rfl) (by exact fun _ _ _ h => h) (Or.inl ⟨by rfl, ?y0⟩) (by exact ⟨c1, c2⟩) (by exact fun _ => rfl) ?r0
  case y0 => (intro wS hwS; (try dsimp only at hwS); go_split_ands; go_simp; try with_reducible rfl)
  try simp only [Act.put, List.getElem_toArray, List.getElem_cons_succ, List.getElem_cons_zero, List.setIfInBounds_toArray, List.set_cons_zero, List.set_cons_succ]
  refine anyF_takeT (i := 1) (v := ?v1) (by rfl) (by kernel_rfl) (by kernel_rfl) (by kernel_rfl) (by kernel_rfl) (by exact fun _ _ _ h => h) (Or.inl ⟨by rfl, ?y1⟩) (by exact ⟨c1, c2⟩) (by exact fun _ => rfl) ?r1
  case y1 => (intro wS hwS; (try dsimp only at hwS); go_split_ands; go_simp; try with_reducible rfl)
  try simp only [Act.put, List.getElem_toArray, List.getElem_cons_succ, List.getElem_cons_zero, List.setIfInBounds_toArray, List.set_cons_zero, List.set_cons_succ]
  refine anyF_takeT (i := 2) (v := ?v2) (by rfl) (by kernel_rfl) (by kernel_rfl) (by kernel_rfl) (by kernel_rfl) (by exact fun _ _ _ h => h) (Or.inl ⟨by rfl, ?y2⟩) (by exact ⟨c1, c2⟩) (by exact fun _ => rfl) ?r2
  case y2 => (intro wS hwS; (try dsimp only at hwS); go_split_ands; go_simp; try with_reducible rfl)
  try simp only [Act.put, List.getElem_toArray, List.getElem_cons_succ, List.getElem_cons_zero, List.setIfInBounds_toArray, List.set_cons_zero, List.set_cons_succ]
  refine anyF_takeT (i := 3) (v := ?v3) (by rfl) (by kernel_rfl) (by kernel_rfl) (by kernel_rfl) (by kernel_rfl) (by exact fun _ _ _ h => h) (Or.inl ⟨by rfl, ?y3⟩) (by exact ⟨c1, c2⟩) (by exact fun _ => rfl) ?r3
  case y3 => (intro wS hwS; (try dsimp only at hwS); go_split_ands; go_simp; try with_reducible rfl)
  try simp only [Act.put, List.getElem_toArray, List.getElem_cons_succ, List.getElem_cons_zero, List.setIfInBounds_toArray, List.set_cons_zero, List.set_cons_succ]
  refine anyF_takeT (i := 4) (v := ?v4) (by rfl) (by kernel_rfl) (by kernel_rfl) (by kernel_rfl) (by kernel_rfl) (by exact fun _ _ _ h => h) (Or.inl ⟨by rfl, ?y4⟩) (by exact ⟨c1, c2⟩) (by exact fun _ => rfl) ?r4
  case y4 => (intro wS hwS; (try dsimp only at hwS); go_split_ands; go_simp; try with_reducible rfl)
  try simp only [Act.put, List.getElem_toArray, List.getElem_cons_succ, List.getElem_cons_zero, List.setIfInBounds_toArray, List.set_cons_zero, List.set_cons_succ]
  refine anyF_takeT (i := 6) (v := ?v6) (by rfl) (by kernel_rfl) (by kernel_rfl) (by kernel_rfl) (by kernel_rfl) (by exact fun _ _ _ h => h) (Or.inl ⟨by rfl, ?y6⟩) (by exact ⟨c1, c2⟩) (by exact fun _ => rfl) ?r6
  case y6 => (intro wS hwS; (try dsimp only at hwS); go_split_ands; go_simp; try with_reducible rfl)
  try simp only [Act.put, List.getElem_toArray, List.getElem_cons_succ, List.getElem_cons_zero, List.setIfInBounds_toArray, List.set_cons_zero, List.set_cons_succ]
  refine anyF_takeT (i := 7) (v := ?v7) (by rfl) (by kernel_rfl) (by kernel_rfl) (by kernel_rfl) (by kernel_rfl) (by exact fun _ _ _ h => h) (Or.inl ⟨by rfl, ?y7⟩) (by exact ⟨c1, c2⟩) (by exact fun _ => rfl) ?r7
  case y7 => (intro wS hwS; (try dsimp only at hwS); go_split_ands; go_simp; try with_reducible rfl)
  try simp only [Act.put, List.getElem_toArray, List.getElem_cons_succ, List.getElem_cons_zero, List.setIfInBounds_toArray, List.set_cons_zero, List.set_cons_succ]
  refine anyF_takeT (i := 8) (v := ?v8) (by rfl) (by kernel_rfl) (by kernel_rfl) (by kernel_rfl) (by kernel_rfl) (by exact fun _ _ _ h => h) (Or.inl ⟨by rfl, ?y8⟩) (by exact ⟨c1, c2⟩) (by exact fun _ => rfl) ?r8
  case y8 => (intro wS hwS; (try dsimp only at hwS); go_split_ands; go_simp; try with_reducible rfl)
  try simp only [Act.put, List.getElem_toArray, List.getElem_cons_succ, List.getElem_cons_zero, List.setIfInBounds_toArray, List.set_cons_zero, List.set_cons_succ]
  refine anyF_takeT (i := 9) (v := ?v9) (by rfl) (by kernel_rfl) (by kernel_rfl) (by kernel_rfl) (by kernel_rfl) (by exact fun _ _ _ h => h) (Or.inl ⟨by rfl, ?y9⟩) (by exact ⟨c1, c2⟩) (by exact fun _ => rfl) ?r9
  case y9 => (intro wS hwS; (try dsimp only at hwS); go_split_ands; go_simp; try with_reducible rfl)
  try simp only [Act.put, List.getElem_toArray, List.getElem_cons_succ, List.getElem_cons_zero, List.setIfInBounds_toArray, List.set_cons_zero, List.set_cons_succ]
  refine anyF_takeT (i := 10) (v := ?v10) (by rfl) (by kernel_rfl) (by kernel_rfl) (by kernel_rfl) (by kernel_rfl) (by exact fun _ _ _ h => h) (Or.inl ⟨by rfl, ?y10⟩) (by exact ⟨c1, c2⟩) (by exact fun _ => rfl) ?r10
  case y10 => (intro wS hwS; (try dsimp only at hwS); go_split_ands; go_simp; try with_reducible rfl)
  try simp only [Act.put, List.getElem_toArray, List.getElem_cons_succ, List.getElem_cons_zero, List.setIfInBounds_toArray, List.set_cons_zero, List.set_cons_succ]
  refine anyF_last (i := 5) (by rfl) (by kernel_rfl) (by kernel_rfl) ?_
  intro K1 hK1
  have hKs1 := hid hK1; clear hK1
  refine step_call (by rfl) 21 _ _ (by rfl) Try.func21 (by kernel_rfl) (by kernel_rfl) [.pointer (some ⟨g, 0, none⟩), .int .i64 e, .int .i64 i] (by rfl) h1.out ?_
  rintro e' w1 ⟨rfl, hx⟩
  refine ⟨_, rfl, ?_⟩
  have hb1 := hX.out w1 hx
  refine hKs1.out _ _ (by exact ⟨hb1.c1, hb1.c2⟩) ?_
  clear hKs1 K1 hb1
  refine anyF_last (i := 11) (by rfl) (by kernel_rfl) (by kernel_rfl) ?_
  intro K1 hK1
  have hKs1 := hid hK1; clear hK1
  refine step_call (by rfl) 33 _ _ (by rfl) Try.func33 (by kernel_rfl) (by kernel_rfl) [.pointer (some ⟨g', 0, none⟩), .int .i64 e, .int .i64 i] (by rfl) (h2.out w1 hx) ?_
  rintro e' w2 ⟨rfl, hy⟩
  refine ⟨_, rfl, ?_⟩
  have hb1 := hY.out w2 hy
  refine hKs1.out _ _ (by exact ⟨hb1.c1, hb1.c2⟩) ?_
  clear hKs1 K1
  refine anyF_last (i := 12) (by rfl) (by kernel_rfl) (by kernel_rfl) ?_
  intro K1 hK1
  have hKs1 := hid hK1; clear hK1
  go_simp
  refine hKs1.out _ _ (by exact ⟨hb1.c1, hb1.c2⟩) ?_
  clear hKs1 K1
  refine anyF_last (i := 13) (by rfl) (by kernel_rfl) (by kernel_rfl) ?_
  intro K1 hK1
  have hKs1 := hid hK1; clear hK1
  go_simp
  refine hKs1.out _ _ (by exact ⟨hb1.c1, hb1.c2⟩) ?_
  clear hKs1 K1
  refine anyF_done (by kernel_rfl) (NoPanic.normal ?_) _
  go_wp2_with fail
  go_ret
  exact ⟨by simp, hy⟩

set_option maxRecDepth 100000 in
set_option maxHeartbeats 1600000 in
theorem step_swap (g g' : Nat) (e i j n y : Int) (b : Value) (w : World) (v : Bool) (X Y : World → Prop)
    (hX : HidP (∀ w', X w' → Boxed w.heap.size 4 e i j n y b w')) (hY : HidP (∀ w', Y w' → Boxed w.heap.size 4 e i j n y b w'))
    (h1 : HidP (Calls Try.prog 22 #[.pointer (some ⟨g, 0, none⟩), .int .i64 e, .int .i64 i, .int .i64 j] (boxed w 4 e i j n y b).drew fun e' w' => e' = .returned (.bool v) ∧ X w'))
    (h2 : HidP (∀ w', X w' → Calls Try.prog 34 #[.pointer (some ⟨g', 0, none⟩), .int .i64 e, .int .i64 i, .int .i64 j] w' fun e' w'' => e' = .returned (.bool v) ∧ Y w'')) :
    Calls Try.prog 17 #[.pointer (some ⟨g, 0, none⟩), .pointer (some ⟨g', 0, none⟩), .agg #[.int .i64 4, .int .i64 e, .int .i64 i, .int .i64 j, .int .i64 n, .int .u8 y, b]] w fun e' w' => e' = .returned (.bool true) ∧ Y w' := by
  obtain ⟨c0, c1, c2, c3, c4, c5, c6⟩ := Boxed.of (k := 4) (e := e) (i := i) (j := j) (n := n) (y := y) (b := b) (heap_alloc_new w (.cells (opCells 4 e i j n y b) 44 (0, 0)))
  unfold boxed at h1
  unfold opCells at c0 c1 c2 c3 c4 c5 c6
  go_enter Try.func17, Try.ntmps17
  go_wp2_with fail
  refine wp_region_noPanic ?_
  refine wp_region_F (fun w' => w'.cell? ⟨w.heap.size, 1, none⟩ = some (.int .i64 e) ∧ w'.cell? ⟨w.heap.size, 2, none⟩ = some (.int .i64 i) ∧ w'.cell? ⟨w.heap.size, 3, none⟩ = some (.int .i64 j)) (fun w' => w' = (w.alloc (.cells #[.int .i64 4, .int .i64 e, .int .i64 i, .int .i64 j, .int .i64 n, .int .u8 y, b] 44 (0, 0))).drew) [7, 15, 16, 17] (by kernel_rfl) ?_
  refine anyF_takeT (i := 0) (v := ?v0) (by rfl) (by kernel_rfl) (by kernel_rfl) (by kernel_rfl) (by kernel_rfl) (by exact fun _ _ _ h => h) (Or.inl ⟨by rfl, ?y0⟩) (by exact ⟨c1, c2, c3⟩) (by exact fun _ => rfl) ?r0
  case y0 => (intro wS hwS; (try dsimp only at hwS); go_split_ands; go_simp; try with_reducible rfl)
  try simp only [Act.put, List.getElem_toArray, List.getElem_cons_succ, List.getElem_cons_zero, List.setIfInBounds_toArray, List.set_cons_zero, List.set_cons_succ]
  refine anyF_takeT (i := 1) (v := ?v1) (by rfl) (by kernel_rfl) (by kernel_rfl) (by kernel_rfl) (by kernel_rfl) (by exact fun _ _ _ h => h) (Or.inl ⟨by rfl, ?y1⟩) (by exact ⟨c1, c2, c3⟩) (by exact fun _ => rfl) ?r1
  case y1 => (intro wS hwS; (try dsimp only at hwS); go_split_ands; go_simp; try with_reducible rfl)
  try simp only [Act.put, List.getElem_toArray, List.getElem_cons_succ, List.getElem_cons_zero, List.setIfInBounds_toArray, List.set_cons_zero, List.set_cons_succ]
  refine anyF_takeT (i := 2) (v := ?v2) (by rfl) (by kernel_rfl) (by kernel_rfl) (by kernel_rfl) (by kernel_rfl) (by exact fun _ _ _ h => h) (Or.inl ⟨by rfl, ?y2⟩) (by exact ⟨c1, c2, c3⟩) (by exact fun _ => rfl) ?r2
  case y2 => (intro wS hwS; (try dsimp only at hwS); go_split_ands; go_simp; try with_reducible rfl)
  try simp only [Act.put, List.getElem_toArray, List.getElem_cons_succ, List.getElem_cons_zero, List.setIfInBounds_toArray, List.set_cons_zero, List.set_cons_succ]
  refine anyF_takeT (i := 3) (v := ?v3) (by rfl) (by kernel_rfl) (by kernel_rfl) (by kernel_rfl) (by kernel_rfl) (by exact fun _ _ _ h => h) (Or.inl ⟨by rfl, ?y3⟩) (by exact ⟨c1, c2, c3⟩) (by exact fun _ => rfl) ?r3
  case y3 => (intro wS hwS; (try dsimp only at hwS); go_split_ands; go_simp; try with_reducible rfl)
  try simp only [Act.put, List.getElem_toArray, List.getElem_cons_succ, List.getElem_cons_zero, List.setIfInBounds_toArray, List.set_cons_zero, List.set_cons_succ]
  refine anyF_takeT (i := 4) (v := ?v4) (by rfl) (by kernel_rfl) (by kernel_rfl) (by kernel_rfl) (by kernel_rfl) (by exact fun _ _ _ h => h) (Or.inl ⟨by rfl, ?y4⟩) (by exact ⟨c1, c2, c3⟩) (by exact fun _ => rfl) ?r4
  case y4 => (intro wS hwS; (try dsimp only at hwS); go_split_ands; go_simp; try with_reducible rfl)
  try simp only [Act.put, List.getElem_toArray, List.getElem_cons_succ, List.getElem_cons_zero, List.setIfInBounds_toArray, List.set_cons_zero, List.set_cons_succ]
  refine anyF_takeT (i := 5) (v := ?v5) (by rfl) (by kernel_rfl) (by kernel_rfl) (by kernel_rfl) (by kernel_rfl) (by exact fun _ _ _ h => h) (Or.inl ⟨by rfl, ?y5⟩) (by exact ⟨c1, c2, c3⟩) (by exact fun _ => rfl) ?r5
  case y5 => (intro wS hwS; (try dsimp only at hwS); go_split_ands; go_simp; try with_reducible rfl)
  try simp only [Act.put, List.getElem_toArray, List.getElem_cons_succ, List.getElem_cons_zero, List.setIfInBounds_toArray, List.set_cons_zero, List.set_cons_succ]
  refine anyF_takeT (i := 6) (v := ?v6) (by rfl) (by kernel_rfl) (by kernel_rfl) (by kernel_rfl) (by kernel_rfl) (by exact fun _ _ _ h => h) (Or.inl ⟨by rfl, ?y6⟩) (by exact ⟨c1, c2, c3⟩) (by exact fun _ => rfl) ?r6
  case y6 => (intro wS hwS; (try dsimp only at hwS); go_split_ands; go_simp; try with_reducible rfl)
  try simp only [Act.put, List.getElem_toArray, List.getElem_cons_succ, List.getElem_cons_zero, List.setIfInBounds_toArray, List.set_cons_zero, List.set_cons_succ]
  refine anyF_takeT (i := 8) (v := ?v8) (by rfl) (by kernel_rfl) (by kernel_rfl) (by kernel_rfl) (by kernel_rfl) (by exact fun _ _ _ h => h) (Or.inl ⟨by rfl, ?y8⟩) (by exact ⟨c1, c2, c3⟩) (by exact fun _ => rfl) ?r8
  case y8 => (intro wS hwS; (try dsimp only at hwS); go_split_ands; go_simp; try with_reducible rfl)
  try simp only [Act.put, List.getElem_toArray, List.getElem_cons_succ, List.getElem_cons_zero, List.setIfInBounds_toArray, List.set_cons_zero, List.set_cons_succ]
  refine anyF_takeT (i := 9) (v := ?v9) (by rfl) (by kernel_rfl) (by kernel_rfl) (by kernel_rfl) (by kernel_rfl) (by exact fun _ _ _ h => h) (Or.inl ⟨by rfl, ?y9⟩) (by exact ⟨c1, c2, c3⟩) (by exact fun _ => rfl) ?r9
  case y9 => (intro wS hwS; (try dsimp only at hwS); go_split_ands; go_simp; try with_reducible rfl)
  try simp only [Act.put, List.getElem_toArray, List.getElem_cons_succ, List.getElem_cons_zero, List.setIfInBounds_toArray, List.set_cons_zero, List.set_cons_succ]
  refine anyF_takeT (i := 10) (v := ?v10) (by rfl) (by kernel_rfl) (by kernel_rfl) (by kernel_rfl) (by kernel_rfl) (by exact fun _ _ _ h => h) (Or.inl ⟨by rfl, ?y10⟩) (by exact ⟨c1, c2, c3⟩) (by exact fun _ => rfl) ?r10
  case y10 => (intro wS hwS; (try dsimp only at hwS); go_split_ands; go_simp; try with_reducible rfl)
  try simp only [Act.put, List.getElem_toArray, List.getElem_cons_succ, List.getElem_cons_zero, List.setIfInBounds_toArray, List.set_cons_zero, List.set_cons_succ]
  refine anyF_takeT (i := 11) (v := ?v11) (by rfl) (by kernel_rfl) (by kernel_rfl) (by kernel_rfl) (by kernel_rfl) (by exact fun _ _ _ h => h) (Or.inl ⟨by rfl, ?y11⟩) (by exact ⟨c1, c2, c3⟩) (by exact fun _ => rfl) ?r11
  case y11 => (intro wS hwS; (try dsimp only at hwS); go_split_ands; go_simp; try with_reducible rfl)
  try simp only [Act.put, List.getElem_toArray, List.getElem_cons_succ, List.getElem_cons_zero, List.setIfInBounds_toArray, List.set_cons_zero, List.set_cons_succ]
  refine anyF_takeT (i := 12) (v := ?v12) (by rfl) (by kernel_rfl) (by kernel_rfl) (by kernel_rfl) (by kernel_rfl) (by exact fun _ _ _ h => h) (Or.inl ⟨by rfl, ?y12⟩) (by exact ⟨c1, c2, c3⟩) (by exact fun _ => rfl) ?r12
  case y12 => (intro wS hwS; (try dsimp only at hwS); go_split_ands; go_simp; try with_reducible rfl)
  try simp only [Act.put, List.getElem_toArray, List.getElem_cons_succ, List.getElem_cons_zero, List.setIfInBounds_toArray, List.set_cons_zero, List.set_cons_succ]
  refine anyF_takeT (i := 13) (v := ?v13) (by rfl) (by kernel_rfl) (by kernel_rfl) (by kernel_rfl) (by kernel_rfl) (by exact fun _ _ _ h => h) (Or.inl ⟨by rfl, ?y13⟩) (by exact ⟨c1, c2, c3⟩) (by exact fun _ => rfl) ?r13
  case y13 => (intro wS hwS; (try dsimp only at hwS); go_split_ands; go_simp; try with_reducible rfl)
  try simp only [Act.put, List.getElem_toArray, List.getElem_cons_succ, List.getElem_cons_zero, List.setIfInBounds_toArray, List.set_cons_zero, List.set_cons_succ]
  refine anyF_takeT (i := 14) (v := ?v14) (by rfl) (by kernel_rfl) (by kernel_rfl) (by kernel_rfl) (by kernel_rfl) (by exact fun _ _ _ h => h) (Or.inl ⟨by rfl, ?y14⟩) (by exact ⟨c1, c2, c3⟩) (by exact fun _ => rfl) ?r14
  case y14 => (intro wS hwS; (try dsimp only at hwS); go_split_ands; go_simp; try with_reducible rfl)
  try simp only [Act.put, List.getElem_toArray, List.getElem_cons_succ, List.getElem_cons_zero, List.setIfInBounds_toArray, List.set_cons_zero, List.set_cons_succ]
  refine anyF_last (i := 7) (by rfl) (by kernel_rfl) (by kernel_rfl) ?_
  intro K1 hK1
  have hKs1 := hid hK1; clear hK1
  refine step_call (by rfl) 22 _ _ (by rfl) Try.func22 (by kernel_rfl) (by kernel_rfl) [.pointer (some ⟨g, 0, none⟩), .int .i64 e, .int .i64 i, .int .i64 j] (by rfl) h1.out ?_
  rintro e' w1 ⟨rfl, hx⟩
  refine ⟨_, rfl, ?_⟩
  have hb1 := hX.out w1 hx
  refine hKs1.out _ _ (by exact ⟨hb1.c1, hb1.c2, hb1.c3⟩) ?_
  clear hKs1 K1 hb1
  refine anyF_last (i := 15) (by rfl) (by kernel_rfl) (by kernel_rfl) ?_
  intro K1 hK1
  have hKs1 := hid hK1; clear hK1
  refine step_call (by rfl) 34 _ _ (by rfl) Try.func34 (by kernel_rfl) (by kernel_rfl) [.pointer (some ⟨g', 0, none⟩), .int .i64 e, .int .i64 i, .int .i64 j] (by rfl) (h2.out w1 hx) ?_
  rintro e' w2 ⟨rfl, hy⟩
  refine ⟨_, rfl, ?_⟩
  have hb1 := hY.out w2 hy
  refine hKs1.out _ _ (by exact ⟨hb1.c1, hb1.c2, hb1.c3⟩) ?_
  clear hKs1 K1
  refine anyF_last (i := 16) (by rfl) (by kernel_rfl) (by kernel_rfl) ?_
  intro K1 hK1
  have hKs1 := hid hK1; clear hK1
  go_simp
  refine hKs1.out _ _ (by exact ⟨hb1.c1, hb1.c2, hb1.c3⟩) ?_
  clear hKs1 K1
  refine anyF_last (i := 17) (by rfl) (by kernel_rfl) (by kernel_rfl) ?_
  intro K1 hK1
  have hKs1 := hid hK1; clear hK1
  go_simp
  refine hKs1.out _ _ (by exact ⟨hb1.c1, hb1.c2, hb1.c3⟩) ?_
  clear hKs1 K1
  refine anyF_done (by kernel_rfl) (NoPanic.normal ?_) _
  go_wp2_with fail
  go_ret
  exact ⟨by simp, hy⟩

set_option maxRecDepth 100000 in
set_option maxHeartbeats 1600000 in
theorem step_turn (g g' : Nat) (e i j n y : Int) (b : Value) (w : World) (v : Bool) (X Y : World → Prop)
    (hX : HidP (∀ w', X w' → Boxed w.heap.size 5 e i j n y b w')) (hY : HidP (∀ w', Y w' → Boxed w.heap.size 5 e i j n y b w'))
    (h1 : HidP (Calls Try.prog 23 #[.pointer (some ⟨g, 0, none⟩), .int .i64 e, .int .i64 i, .int .i64 j, .int .u8 y] (boxed w 5 e i j n y b).drew fun e' w' => e' = .returned (.bool v) ∧ X w'))
    (h2 : HidP (∀ w', X w' → Calls Try.prog 35 #[.pointer (some ⟨g', 0, none⟩), .int .i64 e, .int .i64 i, .int .i64 j, .int .u8 y] w' fun e' w'' => e' = .returned (.bool v) ∧ Y w'')) :
    Calls Try.prog 17 #[.pointer (some ⟨g, 0, none⟩), .pointer (some ⟨g', 0, none⟩), .agg #[.int .i64 5, .int .i64 e, .int .i64 i, .int .i64 j, .int .i64 n, .int .u8 y, b]] w fun e' w' => e' = .returned (.bool true) ∧ Y w' := by
  obtain ⟨c0, c1, c2, c3, c4, c5, c6⟩ := Boxed.of (k := 5) (e := e) (i := i) (j := j) (n := n) (y := y) (b := b) (heap_alloc_new w (.cells (opCells 5 e i j n y b) 44 (0, 0)))
  unfold boxed at h1
  unfold opCells at c0 c1 c2 c3 c4 c5 c6
  go_enter Try.func17, Try.ntmps17
  go_wp2_with fail
  refine wp_region_noPanic ?_
  refine wp_region_F (fun w' => w'.cell? ⟨w.heap.size, 1, none⟩ = some (.int .i64 e) ∧ w'.cell? ⟨w.heap.size, 2, none⟩ = some (.int .i64 i) ∧ w'.cell? ⟨w.heap.size, 3, none⟩ = some (.int .i64 j) ∧ w'.cell? ⟨w.heap.size, 5, none⟩ = some (.int .u8 y)) (fun w' => w' = (w.alloc (.cells #[.int .i64 5, .int .i64 e, .int .i64 i, .int .i64 j, .int .i64 n, .int .u8 y, b] 44 (0, 0))).drew) [9, 19, 20, 21] (by kernel_rfl) ?_
  refine anyF_takeT (i := 0) (v := ?v0) (by rfl) (by kernel_rfl) (by kernel_rfl) (by kernel_rfl) (by kernel_rfl) (by exact fun _ _ _ h => h) (Or.inl ⟨by rfl, ?y0⟩) (by exact ⟨c1, c2, c3, c5⟩) (by exact fun _ => rfl) ?r0
  case y0 => (intro wS hwS; (try dsimp only at hwS); go_split_ands; go_simp; try with_reducible rfl)
  try simp only [Act.put, List.getElem_toArray, List.getElem_cons_succ, List.getElem_cons_zero, List.setIfInBounds_toArray, List.set_cons_zero, List.set_cons_succ]
  refine anyF_takeT (i := 1) (v := ?v1) (by rfl) (by kernel_rfl) (by kernel_rfl) (by kernel_rfl) (by kernel_rfl) (by exact fun _ _ _ h => h) (Or.inl ⟨by rfl, ?y1⟩) (by exact ⟨c1, c2, c3, c5⟩) (by exact fun _ => rfl) ?r1
  case y1 => (intro wS hwS; (try dsimp only at hwS); go_split_ands; go_simp; try with_reducible rfl)
  try simp only [Act.put, List.getElem_toArray, List.getElem_cons_succ, List.getElem_cons_zero, List.setIfInBounds_toArray, List.set_cons_zero, List.set_cons_succ]
  refine anyF_takeT (i := 2) (v := ?v2) (by rfl) (by kernel_rfl) (by kernel_rfl) (by kernel_rfl) (by kernel_rfl) (by exact fun _ _ _ h => h) (Or.inl ⟨by rfl, ?y2⟩) (by exact ⟨c1, c2, c3, c5⟩) (by exact fun _ => rfl) ?r2
  case y2 => (intro wS hwS; (try dsimp only at hwS); go_split_ands; go_simp; try with_reducible rfl)
  try simp only [Act.put, List.getElem_toArray, List.getElem_cons_succ, List.getElem_cons_zero, List.setIfInBounds_toArray, List.set_cons_zero, List.set_cons_succ]
  refine anyF_takeT (i := 3) (v := ?v3) (by rfl) (by kernel_rfl) (by kernel_rfl) (by kernel_rfl) (by kernel_rfl) (by exact fun _ _ _ h => h) (Or.inl ⟨by rfl, ?y3⟩) (by exact ⟨c1, c2, c3, c5⟩) (by exact fun _ => rfl) ?r3
  case y3 => (intro wS hwS; (try dsimp only at hwS); go_split_ands; go_simp; try with_reducible rfl)
  try simp only [Act.put, List.getElem_toArray, List.getElem_cons_succ, List.getElem_cons_zero, List.setIfInBounds_toArray, List.set_cons_zero, List.set_cons_succ]
  refine anyF_takeT (i := 4) (v := ?v4) (by rfl) (by kernel_rfl) (by kernel_rfl) (by kernel_rfl) (by kernel_rfl) (by exact fun _ _ _ h => h) (Or.inl ⟨by rfl, ?y4⟩) (by exact ⟨c1, c2, c3, c5⟩) (by exact fun _ => rfl) ?r4
  case y4 => (intro wS hwS; (try dsimp only at hwS); go_split_ands; go_simp; try with_reducible rfl)
  try simp only [Act.put, List.getElem_toArray, List.getElem_cons_succ, List.getElem_cons_zero, List.setIfInBounds_toArray, List.set_cons_zero, List.set_cons_succ]
  refine anyF_takeT (i := 5) (v := ?v5) (by rfl) (by kernel_rfl) (by kernel_rfl) (by kernel_rfl) (by kernel_rfl) (by exact fun _ _ _ h => h) (Or.inl ⟨by rfl, ?y5⟩) (by exact ⟨c1, c2, c3, c5⟩) (by exact fun _ => rfl) ?r5
  case y5 => (intro wS hwS; (try dsimp only at hwS); go_split_ands; go_simp; try with_reducible rfl)
  try simp only [Act.put, List.getElem_toArray, List.getElem_cons_succ, List.getElem_cons_zero, List.setIfInBounds_toArray, List.set_cons_zero, List.set_cons_succ]
  refine anyF_takeT (i := 6) (v := ?v6) (by rfl) (by kernel_rfl) (by kernel_rfl) (by kernel_rfl) (by kernel_rfl) (by exact fun _ _ _ h => h) (Or.inl ⟨by rfl, ?y6⟩) (by exact ⟨c1, c2, c3, c5⟩) (by exact fun _ => rfl) ?r6
  case y6 => (intro wS hwS; (try dsimp only at hwS); go_split_ands; go_simp; try with_reducible rfl)
  try simp only [Act.put, List.getElem_toArray, List.getElem_cons_succ, List.getElem_cons_zero, List.setIfInBounds_toArray, List.set_cons_zero, List.set_cons_succ]
  refine anyF_takeT (i := 7) (v := ?v7) (by rfl) (by kernel_rfl) (by kernel_rfl) (by kernel_rfl) (by kernel_rfl) (by exact fun _ _ _ h => h) (Or.inl ⟨by rfl, ?y7⟩) (by exact ⟨c1, c2, c3, c5⟩) (by exact fun _ => rfl) ?r7
  case y7 => (intro wS hwS; (try dsimp only at hwS); go_split_ands; go_simp; try with_reducible rfl)
  try simp only [Act.put, List.getElem_toArray, List.getElem_cons_succ, List.getElem_cons_zero, List.setIfInBounds_toArray, List.set_cons_zero, List.set_cons_succ]
  refine anyF_takeT (i := 8) (v := ?v8) (by rfl) (by kernel_rfl) (by kernel_rfl) (by kernel_rfl) (by kernel_rfl) (by exact fun _ _ _ h => h) (Or.inl ⟨by rfl, ?y8⟩) (by exact ⟨c1, c2, c3, c5⟩) (by exact fun _ => rfl) ?r8
  case y8 => (intro wS hwS; (try dsimp only at hwS); go_split_ands; go_simp; try with_reducible rfl)
  try simp only [Act.put, List.getElem_toArray, List.getElem_cons_succ, List.getElem_cons_zero, List.setIfInBounds_toArray, List.set_cons_zero, List.set_cons_succ]
  refine anyF_takeT (i := 10) (v := ?v10) (by rfl) (by kernel_rfl) (by kernel_rfl) (by kernel_rfl) (by kernel_rfl) (by exact fun _ _ _ h => h) (Or.inl ⟨by rfl, ?y10⟩) (by exact ⟨c1, c2, c3, c5⟩) (by exact fun _ => rfl) ?r10
  case y10 => (intro wS hwS; (try dsimp only at hwS); go_split_ands; go_simp; try with_reducible rfl)
  try simp only [Act.put, List.getElem_toArray, List.getElem_cons_succ, List.getElem_cons_zero, List.setIfInBounds_toArray, List.set_cons_zero, List.set_cons_succ]
  refine anyF_takeT (i := 11) (v := ?v11) (by rfl) (by kernel_rfl) (by kernel_rfl) (by kernel_rfl) (by kernel_rfl) (by exact fun _ _ _ h => h) (Or.inl ⟨by rfl, ?y11⟩) (by exact ⟨c1, c2, c3, c5⟩) (by exact fun _ => rfl) ?r11
  case y11 => (intro wS hwS; (try dsimp only at hwS); go_split_ands; go_simp; try with_reducible rfl)
  try simp only [Act.put, List.getElem_toArray, List.getElem_cons_succ, List.getElem_cons_zero, List.setIfInBounds_toArray, List.set_cons_zero, List.set_cons_succ]
  refine anyF_takeT (i := 12) (v := ?v12) (by rfl) (by kernel_rfl) (by kernel_rfl) (by kernel_rfl) (by kernel_rfl) (by exact fun _ _ _ h => h) (Or.inl ⟨by rfl, ?y12⟩) (by exact ⟨c1, c2, c3, c5⟩) (by exact fun _ => rfl) ?r12
  case y12 => (intro wS hwS; (try dsimp only at hwS); go_split_ands; go_simp; try with_reducible rfl)
  try simp only [Act.put, List.getElem_toArray, List.getElem_cons_succ, List.getElem_cons_zero, List.setIfInBounds_toArray, List.set_cons_zero, List.set_cons_succ]
  refine anyF_takeT (i := 13) (v := ?v13) (by rfl) (by kernel_rfl) (by kernel_rfl) (by kernel_rfl) (by kernel_rfl) (by exact fun _ _ _ h => h) (Or.inl ⟨by rfl, ?y13⟩) (by exact ⟨c1, c2, c3, c5⟩) (by exact fun _ => rfl) ?r13
  case y13 => (intro wS hwS; (try dsimp only at hwS); go_split_ands; go_simp; try with_reducible rfl)
  try simp only [Act.put, List.getElem_toArray, List.getElem_cons_succ, List.getElem_cons_zero, List.setIfInBounds_toArray, List.set_cons_zero, List.set_cons_succ]
  refine anyF_takeT (i := 14) (v := ?v14) (by rfl) (by kernel_rfl) (by kernel_rfl) (by kernel_rfl) (by kernel_rfl) (by exact fun _ _ _ h => h) (Or.inl ⟨by rfl, ?y14⟩) (by exact ⟨c1, c2, c3, c5⟩) (by exact fun _ => rfl) ?r14
  case y14 => (intro wS hwS; (try dsimp only at hwS); go_split_ands; go_simp; try with_reducible rfl)
  try simp only [Act.put, List.getElem_toArray, List.getElem_cons_succ, List.getElem_cons_zero, List.setIfInBounds_toArray, List.set_cons_zero, List.set_cons_succ]
  refine anyF_takeT (i := 15) (v := ?v15) (by rfl) (by kernel_rfl) (by kernel_rfl) (by kernel_rfl) (by kernel_rfl) (by exact fun _ _ _ h => h) (Or.inl ⟨by rfl, ?y15⟩) (by exact ⟨c1, c2, c3, c5⟩) (by exact fun _ => rfl) ?r15
  case y15 => (intro wS hwS; (try dsimp only at hwS); go_split_ands; go_simp; try with_reducible rfl)
  try simp only [Act.put, List.getElem_toArray, List.getElem_cons_succ, List.getElem_cons_zero, List.setIfInBounds_toArray, List.set_cons_zero, List.set_cons_succ]
  refine anyF_takeT (i := 16) (v := ?v16) (by rfl) (by kernel_rfl) (by kernel_rfl) (by kernel_rfl) (by kernel_rfl) (by exact fun _ _ _ h => h) (Or.inl ⟨by rfl, ?y16⟩) (by exact ⟨c1, c2, c3, c5⟩) (by exact fun _ => rfl) ?r16
  case y16 => (intro wS hwS; (try dsimp only at hwS); go_split_ands; go_simp; try with_reducible rfl)
  try simp only [Act.put, List.getElem_toArray, List.getElem_cons_succ, List.getElem_cons_zero, List.setIfInBounds_toArray, List.set_cons_zero, List.set_cons_succ]
  refine anyF_takeT (i := 17) (v := ?v17) (by rfl) (by kernel_rfl) (by kernel_rfl) (by kernel_rfl) (by kernel_rfl) (by exact fun _ _ _ h => h) (Or.inl ⟨by rfl, ?y17⟩) (by exact ⟨c1, c2, c3, c5⟩) (by exact fun _ => rfl) ?r17
  case y17 => (intro wS hwS; (try dsimp only at hwS); go_split_ands; go_simp; try with_reducible rfl)
  try simp only [Act.put, List.getElem_toArray, List.getElem_cons_succ, List.getElem_cons_zero, List.setIfInBounds_toArray, List.set_cons_zero, List.set_cons_succ]
  refine anyF_takeT (i := 18) (v := ?v18) (by rfl) (by kernel_rfl) (by kernel_rfl) (by kernel_rfl) (by kernel_rfl) (by exact fun _ _ _ h => h) (Or.inl ⟨by rfl, ?y18⟩) (by exact ⟨c1, c2, c3, c5⟩) (by exact fun _ => rfl) ?r18
  case y18 => (intro wS hwS; (try dsimp only at hwS); go_split_ands; go_simp; try with_reducible rfl)
  try simp only [Act.put, List.getElem_toArray, List.getElem_cons_succ, List.getElem_cons_zero, List.setIfInBounds_toArray, List.set_cons_zero, List.set_cons_succ]
  refine anyF_last (i := 9) (by rfl) (by kernel_rfl) (by kernel_rfl) ?_
  intro K1 hK1
  have hKs1 := hid hK1; clear hK1
  refine step_call (by rfl) 23 _ _ (by rfl) Try.func23 (by kernel_rfl) (by kernel_rfl) [.pointer (some ⟨g, 0, none⟩), .int .i64 e, .int .i64 i, .int .i64 j, .int .u8 y] (by rfl) h1.out ?_
  rintro e' w1 ⟨rfl, hx⟩
  refine ⟨_, rfl, ?_⟩
  have hb1 := hX.out w1 hx
  refine hKs1.out _ _ (by exact ⟨hb1.c1, hb1.c2, hb1.c3, hb1.c5⟩) ?_
  clear hKs1 K1 hb1
  refine anyF_last (i := 19) (by rfl) (by kernel_rfl) (by kernel_rfl) ?_
  intro K1 hK1
  have hKs1 := hid hK1; clear hK1
  refine step_call (by rfl) 35 _ _ (by rfl) Try.func35 (by kernel_rfl) (by kernel_rfl) [.pointer (some ⟨g', 0, none⟩), .int .i64 e, .int .i64 i, .int .i64 j, .int .u8 y] (by rfl) (h2.out w1 hx) ?_
  rintro e' w2 ⟨rfl, hy⟩
  refine ⟨_, rfl, ?_⟩
  have hb1 := hY.out w2 hy
  refine hKs1.out _ _ (by exact ⟨hb1.c1, hb1.c2, hb1.c3, hb1.c5⟩) ?_
  clear hKs1 K1
  refine anyF_last (i := 20) (by rfl) (by kernel_rfl) (by kernel_rfl) ?_
  intro K1 hK1
  have hKs1 := hid hK1; clear hK1
  go_simp
  refine hKs1.out _ _ (by exact ⟨hb1.c1, hb1.c2, hb1.c3, hb1.c5⟩) ?_
  clear hKs1 K1
  refine anyF_last (i := 21) (by rfl) (by kernel_rfl) (by kernel_rfl) ?_
  intro K1 hK1
  have hKs1 := hid hK1; clear hK1
  go_simp
  refine hKs1.out _ _ (by exact ⟨hb1.c1, hb1.c2, hb1.c3, hb1.c5⟩) ?_
  clear hKs1 K1
  refine anyF_done (by kernel_rfl) (NoPanic.normal ?_) _
  go_wp2_with fail
  go_ret
  exact ⟨by simp, hy⟩

set_option maxRecDepth 100000 in
set_option maxHeartbeats 1600000 in
theorem step_forge (g g' : Nat) (e i j n y : Int) (b : Value) (w : World) (v : Int) (X Y : World → Prop)
    (hX : HidP (∀ w', X w' → Boxed w.heap.size 6 e i j n y b w')) (hY : HidP (∀ w', Y w' → Boxed w.heap.size 6 e i j n y b w'))
    (h1 : HidP (Calls Try.prog 19 #[.pointer (some ⟨g, 0, none⟩), .int .i64 e, b] (boxed w 6 e i j n y b).drew fun e' w' => e' = .returned (.int .i64 v) ∧ X w'))
    (h2 : HidP (∀ w', X w' → Calls Try.prog 36 #[.pointer (some ⟨g', 0, none⟩), .int .i64 e, b] w' fun e' w'' => e' = .returned (.int .i64 v) ∧ Y w'')) :
    Calls Try.prog 17 #[.pointer (some ⟨g, 0, none⟩), .pointer (some ⟨g', 0, none⟩), .agg #[.int .i64 6, .int .i64 e, .int .i64 i, .int .i64 j, .int .i64 n, .int .u8 y, b]] w fun e' w' => e' = .returned (.bool true) ∧ Y w' := by
  obtain ⟨c0, c1, c2, c3, c4, c5, c6⟩ := Boxed.of (k := 6) (e := e) (i := i) (j := j) (n := n) (y := y) (b := b) (heap_alloc_new w (.cells (opCells 6 e i j n y b) 44 (0, 0)))
  unfold boxed at h1
  unfold opCells at c0 c1 c2 c3 c4 c5 c6
  go_enter Try.func17, Try.ntmps17
  go_wp2_with fail
  refine wp_region_noPanic ?_
  refine wp_region_F (fun w' => w'.cell? ⟨w.heap.size, 1, none⟩ = some (.int .i64 e) ∧ w'.cell? ⟨w.heap.size, 6, none⟩ = some (b)) (fun w' => w' = (w.alloc (.cells #[.int .i64 6, .int .i64 e, .int .i64 i, .int .i64 j, .int .i64 n, .int .u8 y, b] 44 (0, 0))).drew) [5, 11, 12, 13] (by kernel_rfl) ?_
  refine anyF_takeT (i := 0) (v := ?v0) (by rfl) (by kernel_rfl) (by kernel_rfl) (by kernel_rfl) (by kernel_rfl) (by exact fun _ _ _ h => h) (Or.inl ⟨by rfl, ?y0⟩) (by exact ⟨c1, c6⟩) (by exact fun _ => rfl) ?r0
  case y0 => (intro wS hwS; (try dsimp only at hwS); go_split_ands; go_simp; try with_reducible rfl)
  try simp only [Act.put, List.getElem_toArray, List.getElem_cons_succ, List.getElem_cons_zero, List.setIfInBounds_toArray, List.set_cons_zero, List.set_cons_succ]
  refine anyF_takeT (i := 1) (v := ?v1) (by rfl) (by kernel_rfl) (by kernel_rfl) (by kernel_rfl) (by kernel_rfl) (by exact fun _ _ _ h => h) (Or.inl ⟨by rfl, ?y1⟩) (by exact ⟨c1, c6⟩) (by exact fun _ => rfl) ?r1
  case y1 => (intro wS hwS; (try dsimp only at hwS); go_split_ands; go_simp; try with_reducible rfl)
  try simp only [Act.put, List.getElem_toArray, List.getElem_cons_succ, List.getElem_cons_zero, List.setIfInBounds_toArray, List.set_cons_zero, List.set_cons_succ]
  refine anyF_takeT (i := 2) (v := ?v2) (by rfl) (by kernel_rfl) (by kernel_rfl) (by kernel_rfl) (by kernel_rfl) (by exact fun _ _ _ h => h) (Or.inl ⟨by rfl, ?y2⟩) (by exact ⟨c1, c6⟩) (by exact fun _ => rfl) ?r2
  case y2 => (intro wS hwS; (try dsimp only at hwS); go_split_ands; go_simp; try with_reducible rfl)
  try simp only [Act.put, List.getElem_toArray, List.getElem_cons_succ, List.getElem_cons_zero, List.setIfInBounds_toArray, List.set_cons_zero, List.set_cons_succ]
  refine anyF_takeT (i := 3) (v := ?v3) (by rfl) (by kernel_rfl) (by kernel_rfl) (by kernel_rfl) (by kernel_rfl) (by exact fun _ _ _ h => h) (Or.inl ⟨by rfl, ?y3⟩) (by exact ⟨c1, c6⟩) (by exact fun _ => rfl) ?r3
  case y3 => (intro wS hwS; (try dsimp only at hwS); go_split_ands; go_simp; try with_reducible rfl)
  try simp only [Act.put, List.getElem_toArray, List.getElem_cons_succ, List.getElem_cons_zero, List.setIfInBounds_toArray, List.set_cons_zero, List.set_cons_succ]
  refine anyF_takeT (i := 4) (v := ?v4) (by rfl) (by kernel_rfl) (by kernel_rfl) (by kernel_rfl) (by kernel_rfl) (by exact fun _ _ _ h => h) (Or.inl ⟨by rfl, ?y4⟩) (by exact ⟨c1, c6⟩) (by exact fun _ => rfl) ?r4
  case y4 => (intro wS hwS; (try dsimp only at hwS); go_split_ands; go_simp; try with_reducible rfl)
  try simp only [Act.put, List.getElem_toArray, List.getElem_cons_succ, List.getElem_cons_zero, List.setIfInBounds_toArray, List.set_cons_zero, List.set_cons_succ]
  refine anyF_takeT (i := 6) (v := ?v6) (by rfl) (by kernel_rfl) (by kernel_rfl) (by kernel_rfl) (by kernel_rfl) (by exact fun _ _ _ h => h) (Or.inl ⟨by rfl, ?y6⟩) (by exact ⟨c1, c6⟩) (by exact fun _ => rfl) ?r6
  case y6 => (intro wS hwS; (try dsimp only at hwS); go_split_ands; go_simp; try with_reducible rfl)
  try simp only [Act.put, List.getElem_toArray, List.getElem_cons_succ, List.getElem_cons_zero, List.setIfInBounds_toArray, List.set_cons_zero, List.set_cons_succ]
  refine anyF_takeT (i := 7) (v := ?v7) (by rfl) (by kernel_rfl) (by kernel_rfl) (by kernel_rfl) (by kernel_rfl) (by exact fun _ _ _ h => h) (Or.inl ⟨by rfl, ?y7⟩) (by exact ⟨c1, c6⟩) (by exact fun _ => rfl) ?r7
  case y7 => (intro wS hwS; (try dsimp only at hwS); go_split_ands; go_simp; try with_reducible rfl)
  try simp only [Act.put, List.getElem_toArray, List.getElem_cons_succ, List.getElem_cons_zero, List.setIfInBounds_toArray, List.set_cons_zero, List.set_cons_succ]
  refine anyF_takeT (i := 8) (v := ?v8) (by rfl) (by kernel_rfl) (by kernel_rfl) (by kernel_rfl) (by kernel_rfl) (by exact fun _ _ _ h => h) (Or.inl ⟨by rfl, ?y8⟩) (by exact ⟨c1, c6⟩) (by exact fun _ => rfl) ?r8
  case y8 => (intro wS hwS; (try dsimp only at hwS); go_split_ands; go_simp; try with_reducible rfl)
  try simp only [Act.put, List.getElem_toArray, List.getElem_cons_succ, List.getElem_cons_zero, List.setIfInBounds_toArray, List.set_cons_zero, List.set_cons_succ]
  refine anyF_takeT (i := 9) (v := ?v9) (by rfl) (by kernel_rfl) (by kernel_rfl) (by kernel_rfl) (by kernel_rfl) (by exact fun _ _ _ h => h) (Or.inl ⟨by rfl, ?y9⟩) (by exact ⟨c1, c6⟩) (by exact fun _ => rfl) ?r9
  case y9 => (intro wS hwS; (try dsimp only at hwS); go_split_ands; go_simp; try with_reducible rfl)
  try simp only [Act.put, List.getElem_toArray, List.getElem_cons_succ, List.getElem_cons_zero, List.setIfInBounds_toArray, List.set_cons_zero, List.set_cons_succ]
  refine anyF_takeT (i := 10) (v := ?v10) (by rfl) (by kernel_rfl) (by kernel_rfl) (by kernel_rfl) (by kernel_rfl) (by exact fun _ _ _ h => h) (Or.inl ⟨by rfl, ?y10⟩) (by exact ⟨c1, c6⟩) (by exact fun _ => rfl) ?r10
  case y10 => (intro wS hwS; (try dsimp only at hwS); go_split_ands; go_simp; try with_reducible rfl)
  try simp only [Act.put, List.getElem_toArray, List.getElem_cons_succ, List.getElem_cons_zero, List.setIfInBounds_toArray, List.set_cons_zero, List.set_cons_succ]
  refine anyF_last (i := 5) (by rfl) (by kernel_rfl) (by kernel_rfl) ?_
  intro K1 hK1
  have hKs1 := hid hK1; clear hK1
  refine step_call (by rfl) 19 _ _ (by rfl) Try.func19 (by kernel_rfl) (by kernel_rfl) [.pointer (some ⟨g, 0, none⟩), .int .i64 e, b] (by rfl) h1.out ?_
  rintro e' w1 ⟨rfl, hx⟩
  refine ⟨_, rfl, ?_⟩
  have hb1 := hX.out w1 hx
  refine hKs1.out _ _ (by exact ⟨hb1.c1, hb1.c6⟩) ?_
  clear hKs1 K1 hb1
  refine anyF_last (i := 11) (by rfl) (by kernel_rfl) (by kernel_rfl) ?_
  intro K1 hK1
  have hKs1 := hid hK1; clear hK1
  refine step_call (by rfl) 36 _ _ (by rfl) Try.func36 (by kernel_rfl) (by kernel_rfl) [.pointer (some ⟨g', 0, none⟩), .int .i64 e, b] (by rfl) (h2.out w1 hx) ?_
  rintro e' w2 ⟨rfl, hy⟩
  refine ⟨_, rfl, ?_⟩
  have hb1 := hY.out w2 hy
  refine hKs1.out _ _ (by exact ⟨hb1.c1, hb1.c6⟩) ?_
  clear hKs1 K1
  refine anyF_last (i := 12) (by rfl) (by kernel_rfl) (by kernel_rfl) ?_
  intro K1 hK1
  have hKs1 := hid hK1; clear hK1
  go_simp
  refine hKs1.out _ _ (by exact ⟨hb1.c1, hb1.c6⟩) ?_
  clear hKs1 K1
  refine anyF_last (i := 13) (by rfl) (by kernel_rfl) (by kernel_rfl) ?_
  intro K1 hK1
  have hKs1 := hid hK1; clear hK1
  go_simp
  refine hKs1.out _ _ (by exact ⟨hb1.c1, hb1.c6⟩) ?_
  clear hKs1 K1
  refine anyF_done (by kernel_rfl) (NoPanic.normal ?_) _
  go_wp2_with fail
  go_ret
  exact ⟨by simp, hy⟩

end Go.Proofs.Ytodbnmigdnmjnaa
