/- bytes: bytes.Clone, hayloftref01.Bytes -/
import Derived.Test.YtfbbjfbnkcklgaaGreatDoorB3
import Derived.Deep.RegionHeld3
import Derived.Deep.LoopGhost
import Derived.BigQuiet
import Derived.Lib.Slices
import Derived.Test.YtfbbjfbnkcklgaaGreatDoorChecked
namespace Go.Proofs.YtfbbjfbnkcklgaaGreatDoor
open Go.RowKit

def nums (xs : List Int) : List Value := xs.map (.int .u8)
theorem nums_length (xs : List Int) : (nums xs).length = xs.length := by simp [nums]
theorem nums_one (xs : List Int) : ∀ u ∈ nums xs, u.oneCell' = true := by simp [nums, Value.oneCell']

theorem info5 : (Tryz.prog.info? 5).map (fun i => (i.zero, i.size, i.bytes)) = some (some (.int .u8 0), 1, 1) := by kernel_rfl
theorem info28 : (Tryz.prog.info? 40).map (fun i => (i.zero, i.size, i.bytes)) = some (some (.slice none 0 0), 1, 24) := by kernel_rfl

@[go_sem] theorem eql28 (a : Option Addr) (n c : Nat) (w : World) : (binOp .eql 40 (.slice a n c) (.slice none 0 0)).run Tryz.prog w = .ok (.bool a.isNone) w := Lib.run_eql_slice_nil w 40 5 a n c 0 0 Tryz.underlying40

theorem Src.string {w : World} {v : Value} {bs : List Int} (h : Src w 1 v (nums bs)) : (convert 40 9 v).run Tryz.prog w = .ok (.string (strOfNums bs)) w := by
  obtain ⟨A, n, c, rfl, hl, hn, h0, hh⟩ := h
  have hlb := nums_length bs
  obtain rfl : n = bs.length := by omega
  cases A with
  | none =>
    have hc := h0 rfl
    subst hc
    have : bs = [] := List.eq_nil_of_length_eq_zero (by omega)
    subst this
    exact run_convert_bytes_nil w 40 5 Tryz.underlying40 Tryz.underlying5 0 0 9 Tryz.underlying9
  | some a =>
    rw [run_convert_bytes_string w 40 9 5 _ bs.length c Tryz.underlying40 Tryz.underlying5 Tryz.underlying9]
    have hl2 : (loadCells a bs.length).run Tryz.prog w = .ok (bs.map (Value.int .u8)).toArray w := by
      have := run_loadCells_list (P := Tryz.prog) w a (nums bs) (fun j u hj => by
        obtain ⟨a', ha, hc⟩ := hh j u hj
        cases ha; exact hc)
      rw [nums_length] at this
      exact this
    rw [run_bytesToString w a bs.length c bs hl2, foldl_push_bytes]
    simp [strOfNums, ByteArray.empty, ByteArray.emptyWithCapacity]
    rfl

set_option maxHeartbeats 400000 in
theorem clone_any (b : Value) (bs : List Int) (w : World) (hb : Src w 1 b (nums bs)) (hn : bs.length ≤ 140737488355328) :
    Calls Tryz.prog 90 #[b] w fun e w' => ∃ vA vn vc, e = .returned (.slice vA vn vc) ∧ Row w' 5 1 (.slice vA vn vc) (nums bs) ∧ Below w.heap.size w w' ∧ ∀ k, (Value.slice vA vn vc).ownBlock = some k → w.heap.size ≤ k := by
  obtain ⟨i0, hi, hz0, hz1, hz2⟩ := info_parts info5
  have hsl := nums_length bs
  have h1 := nums_one bs
  obtain ⟨A, n, c, rfl, hl, hnc, h0, hc⟩ := id hb
  cases A with
  | none =>
    have hc0 := h0 rfl
    subst hc0
    have hn0 : n = 0 := by omega
    subst hn0
    have : bs = [] := List.eq_nil_of_length_eq_zero (by omega)
    subst this
    go_enter Tryz.func90, Tryz.ntmps90
    go_wp2_with fail
    go_ret
    exact ⟨_, _, _, rfl, Row.nil _ _ _, Below.refl _ _, by simp [Value.ownBlock]⟩
  | some a =>
    have hrow : Row (w.alloc (.cells #[] 5 (0, 0))) 5 1 (.slice (some ⟨w.heap.size, 0, none⟩) 0 0) [] := Row.ofBlock (n := 0) (heap_alloc_new w _) (by simp) (by simp)
    have hsrc := hb.below ((Below.refl w.heap.size w).alloc (Nat.le_refl _) (.cells #[] 5 (0, 0)))
    clear h0 hc
    have hc1 : ([] : List Value).length + (nums bs).length ≤ maxLen := by simp only [List.length_nil, maxLen]; omega
    have hc2 : (([] : List Value).length + (nums bs).length) * 1 ≤ 140737488355328 := by simp only [List.length_nil]; omega
    go_enter Tryz.func90, Tryz.ntmps90
    go_wp2_with (at_builtin; refine wpList_append_row _ rfl _ _ 40 rfl 5 i0 (.int .u8 0) 1 1 Tryz.underlying40 hi hz0 hz1 hz2 rfl (by decide) (.slice (some ⟨w.heap.size, 0, none⟩) 0 0) [] rfl hrow (.slice (some a) n c) (nums bs) rfl hsrc h1 hc1 hc2 ?_; intro vA vn vc w' hr hg ha)
    go_ret
    refine ⟨vA, vn, vc, rfl, by simpa using hr, ((Below.refl w.heap.size w).alloc (Nat.le_refl _) _).grown hg (by simp) (by simp [Value.ownBlock]), ?_⟩
    intro k hk
    rcases ha with ha | ha
    · rw [ha] at hk; simp [Value.ownBlock] at hk; omega
    · rw [ha] at hk; simp at hk; omega

/-- the i-th of a source of bytes -/
theorem Src.byte {w : World} {A : Option Addr} {n c : Nat} {bs : List Int} (h : Src w 1 (.slice A n c) (nums bs)) {i : Nat} (hi : i < n) : ∃ a p, A = some a ∧ w.cell? (a.add i) = some (.int .u8 p) ∧ HidP (bs[i]? = some p) := by
  obtain ⟨_, _, _, hv, hl, _, _, hh⟩ := h
  cases hv
  have hlb := nums_length bs
  have hi' : i < bs.length := by omega
  obtain ⟨a, ha, hc⟩ := hh i (.int .u8 bs[i]) (by simp [nums, hi'])
  exact ⟨a, _, ha, hc, hid (by simp [hi'])⟩
theorem Src.len {w : World} {A : Option Addr} {n c : Nat} {bs : List Int} (h : Src w 1 (.slice A n c) (nums bs)) : n = bs.length := by
  obtain ⟨_, _, _, hv, hl, _⟩ := h
  cases hv
  have := nums_length bs
  omega

set_option maxHeartbeats 800000 in
theorem bytes_same (a b : Value) (xs ys : List Int) (w : World) (ha : Src w 1 a (nums xs)) (hb : Src w 1 b (nums ys)) (hm : xs.length ≤ 9223372036854775806) :
    Calls Tryz.prog 46 #[a, b] w fun e w' => e = .returned (.bool (decide (xs = ys))) ∧ ∃ n, w.drewN n = w' := by
  obtain ⟨aA, an, ac, rfl, _⟩ := id ha
  obtain ⟨bA, bn, bc, rfl, _⟩ := id hb
  obtain rfl := ha.len
  obtain rfl := hb.len
  by_cases hlen : xs.length = ys.length
  · have g1 : ((xs.length : Int) != (ys.length : Int)) = false := by simp [hlen]
    have hl2 := hid hlen
    clear hlen
    go_enter Tryz.func46, Tryz.ntmps46
    go_wp2_with fail
    go_loopg [5] xs.length (fun k i wr => ∃ j : Nat, j ≤ xs.length ∧ k = xs.length - j ∧ i = .int .i64 j ∧ xs.take j = ys.take j ∧ ∃ n, wr = w.drewN n)
    case atStart => exact ⟨0, Nat.zero_le _, rfl, rfl, rfl, 0, rfl⟩
    case round =>
      obtain ⟨j, hj, rfl, rfl, htk, n, rfl⟩ := hrel
      by_cases hlt : j < xs.length
      · obtain ⟨a, p, rfl, hca, hp⟩ := ha.byte hlt
        obtain ⟨b, q, rfl, hcb, hq⟩ := hb.byte (i := j) (by have := hl2.out; omega)
        have i0 : (0 : Int) ≤ (j : Int) := by omega
        have i1 : (j : Int) < (xs.length : Int) := by omega
        have i2 : (j : Int) < (ys.length : Int) := by have := hl2.out; omega
        have htk2 := hid htk
        clear htk
        by_cases hx : p = q
        · subst hx
          go_wp2_with fail
          go_quiet (fail)
          go_wp2_with fail
          go_roundg (xs.length - (j + 1))
          case measure => omega
          case rel => exact ⟨j + 1, by omega, rfl, by go_num, by rw [List.take_add_one, List.take_add_one, htk2.out, hp.out, hq.out], _, rfl⟩
        · have g2 : (p != q) = true := by simp [hx]
          have hx2 := hid hx
          clear hx
          go_wp2_with fail
          go_quiet (fail)
          go_wp2_with fail
          go_ret
          refine ⟨?_, _, drewN_two w n _⟩
          have hne : ¬ xs = ys := by
            rintro rfl
            have h1 := hp.out
            rw [hq.out] at h1
            exact hx2.out (Option.some.inj h1).symm
          simp [hne]
      · obtain rfl : j = xs.length := by omega
        have heq : xs = ys := by
          have := htk
          rw [List.take_length, hl2.out, List.take_length] at this
          exact this
        have heq2 := hid heq
        clear heq htk
        go_wp2_with fail
        go_ret
        exact ⟨by simp [heq2.out], _, rfl⟩
  · have g1 : ((xs.length : Int) != (ys.length : Int)) = true := by simp; omega
    have hne : ¬ xs = ys := by rintro rfl; exact hlen rfl
    have hne2 := hid hne
    clear hlen hne
    go_enter Tryz.func46, Tryz.ntmps46
    go_wp2_with fail
    go_ret
    exact ⟨by simp [hne2.out], 0, rfl⟩

end Go.Proofs.YtfbbjfbnkcklgaaGreatDoor
