/- bytes.Clone; what a message is -/
import Derived.Test.YtodbnmigdnmjnaaRows
import Derived.Test.YtodbnmigdnmjnaaB
import Derived.Deep.RegionHeld3
namespace Go.Proofs.Ytodbnmigdnmjnaa
open Go.RowKit

def nums (xs : List Int) : List Value := xs.map (.int .u8)
theorem nums_length (xs : List Int) : (nums xs).length = xs.length := by simp [nums]
theorem nums_one (xs : List Int) : ∀ u ∈ nums xs, u.oneCell' = true := by simp [nums, Value.oneCell']

theorem info5 : (Try.prog.info? 5).map (fun i => (i.zero, i.size, i.bytes)) = some (some (.int .u8 0), 1, 1) := by kernel_rfl
theorem info28 : (Try.prog.info? 28).map (fun i => (i.zero, i.size, i.bytes)) = some (some (.slice none 0 0), 1, 24) := by kernel_rfl

@[go_sem] theorem eql28 (a : Option Addr) (n c : Nat) (w : World) : (binOp .eql 28 (.slice a n c) (.slice none 0 0)).run Try.prog w = .ok (.bool a.isNone) w := Lib.run_eql_slice_nil w 28 5 a n c 0 0 Try.underlying28

theorem Src.string {w : World} {v : Value} {bs : List Int} (h : Src w 1 v (nums bs)) : (convert 28 9 v).run Try.prog w = .ok (.string (strOfNums bs)) w := by
  obtain ⟨A, n, c, rfl, hl, hn, h0, hh⟩ := h
  have hlb := nums_length bs
  obtain rfl : n = bs.length := by omega
  cases A with
  | none =>
    have hc := h0 rfl
    subst hc
    have : bs = [] := List.eq_nil_of_length_eq_zero (by omega)
    subst this
    exact run_convert_bytes_nil w 28 5 Try.underlying28 Try.underlying5 0 0 9 Try.underlying9
  | some a =>
    rw [run_convert_bytes_string w 28 9 5 _ bs.length c Try.underlying28 Try.underlying5 Try.underlying9]
    have hl2 : (loadCells a bs.length).run Try.prog w = .ok (bs.map (Value.int .u8)).toArray w := by
      have := run_loadCells_list (P := Try.prog) w a (nums bs) (fun j u hj => by
        obtain ⟨a', ha, hc⟩ := hh j u hj
        cases ha; exact hc)
      rw [nums_length] at this
      exact this
    rw [run_bytesToString w a bs.length c bs hl2, foldl_push_bytes]
    simp [strOfNums, ByteArray.empty, ByteArray.emptyWithCapacity]
    rfl

set_option maxHeartbeats 400000 in
theorem clone_any (b : Value) (bs : List Int) (w : World) (hb : Src w 1 b (nums bs)) (hn : bs.length ≤ 140737488355328) :
    Calls Try.prog 44 #[b] w fun e w' => ∃ vA vn vc, e = .returned (.slice vA vn vc) ∧ Row w' 5 1 (.slice vA vn vc) (nums bs) ∧ Below w.heap.size w w' ∧ ∀ k, (Value.slice vA vn vc).ownBlock = some k → w.heap.size ≤ k := by
  obtain ⟨i0, hi, hz0, hz1, hz2⟩ := info_parts info5
  have hsl := nums_length bs
  have h1 := nums_one bs
  obtain ⟨A, n, c, rfl, hl, hnc, h0, hc⟩ := id hb
  cases A with
  | none =>
    have hc0 := h0 rfl
    subst hc0
    have hn0 : n = 0 := by omega
    subst hn0
    have : bs = [] := List.eq_nil_of_length_eq_zero (by omega)
    subst this
    go_enter Try.func44, Try.ntmps44
    go_wp2_with fail
    go_ret
    exact ⟨_, _, _, rfl, Row.nil _ _ _, Below.refl _ _, by simp [Value.ownBlock]⟩
  | some a =>
    have hrow : Row (w.alloc (.cells #[] 5 (0, 0))) 5 1 (.slice (some ⟨w.heap.size, 0, none⟩) 0 0) [] := Row.ofBlock (n := 0) (heap_alloc_new w _) (by simp) (by simp)
    have hsrc := hb.below ((Below.refl w.heap.size w).alloc (Nat.le_refl _) (.cells #[] 5 (0, 0)))
    clear h0 hc
    have hc1 : ([] : List Value).length + (nums bs).length ≤ maxLen := by simp only [List.length_nil, maxLen]; omega
    have hc2 : (([] : List Value).length + (nums bs).length) * 1 ≤ 140737488355328 := by simp only [List.length_nil]; omega
    go_enter Try.func44, Try.ntmps44
    go_wp2_with (at_builtin; refine wpList_append_row _ rfl _ _ 28 rfl 5 i0 (.int .u8 0) 1 1 Try.underlying28 hi hz0 hz1 hz2 rfl (by decide) (.slice (some ⟨w.heap.size, 0, none⟩) 0 0) [] rfl hrow (.slice (some a) n c) (nums bs) rfl hsrc h1 hc1 hc2 ?_; intro vA vn vc w' hr hg ha)
    go_ret
    refine ⟨vA, vn, vc, rfl, by simpa using hr, ((Below.refl w.heap.size w).alloc (Nat.le_refl _) _).grown hg (by simp) (by simp [Value.ownBlock]), ?_⟩
    intro k hk
    rcases ha with ha | ha
    · rw [ha] at hk; simp [Value.ownBlock] at hk; omega
    · rw [ha] at hk; simp at hk; omega

end Go.Proofs.Ytodbnmigdnmjnaa
