/- where the first slash is -/
import Derived.Test.YtfbbjfbnkcklgaaGreatDoorT4
import Derived.Lib.Strings
import Derived.Lib.Slices
import Derived.Lib.Walk
import Derived.Lib.Bytealg
import Derived.RangeFuncNested
import Derived.RangeFuncBound
import Derived.RangeFuncCalls
import Derived.RangeFuncLeaves
import Derived.Shelf.Abstract
import Derived.Shelf.RegionOpen
import Derived.WalkKit
import Derived.OwnWalkIn
import Derived.TacticsInMore
import Derived.LoopNIn
import Derived.LoopIn
namespace Go.Proofs.YtfbbjfbnkcklgaaGreatDoor
open Go.RowKit

theorem indexByte_spec (l : List UInt8) (c : UInt8) : (Lib.indexByte l c = -1 ∧ c ∉ l) ∨ ∃ j : Nat, Lib.indexByte l c = j ∧ l[j]? = some c ∧ c ∉ l.take j := by
  induction l with
  | nil => exact .inl ⟨rfl, by simp⟩
  | cons b r ih =>
    unfold Lib.indexByte
    by_cases hb : b = c
    · subst hb
      exact .inr ⟨0, by simp, by simp, by simp⟩
    · have hb' : (b == c) = false := by simp [hb]
      rw [hb']
      rcases ih with ⟨h1, h2⟩ | ⟨j, h1, h2, h3⟩
      · exact .inl ⟨by simp [h1], by simp only [List.mem_cons, not_or]; exact ⟨Ne.symm hb, h2⟩⟩
      · refine .inr ⟨j + 1, ?_, by simpa using h2, by simp only [List.take_succ_cons, List.mem_cons, not_or]; exact ⟨Ne.symm hb, h3⟩⟩
        have : ((j : Int) == -1) = false := by simp
        rw [h1, this]
        simp

set_option maxHeartbeats 1000000 in
set_option maxRecDepth 100000 in
theorem indexByte_walk (s : ByteArray) (c : Int) (w : World) :
    Calls Tryz.prog 168 #[.string s, .int .u8 c] w fun e w' => e = .returned (.int .i64 (Lib.indexByte s.data.toList c.toNat.toUInt8)) ∧ w' = w := by
  go_enter Tryz.func168, Tryz.ntmps168
  go_wp2
  rw [run_callFunc_extern Tryz.func173 (by kernel_rfl) (by kernel_rfl) (by kernel_rfl) (e := Extern.BytealgIndexByte.indexByte) (by kernel_rfl), Lib.run_indexByteString]
  simp only [Result.andThen]
  rw [Oper.upon_value]
  go_wp2
  go_ret
  exact ⟨rfl, rfl⟩

set_option maxHeartbeats 2000000 in
set_option maxRecDepth 100000 in
theorem index_one (s : ByteArray) (c : UInt8) (w : World) :
    Calls Tryz.prog 161 #[.string s, .string ⟨#[c]⟩] w fun e w' => e = .returned (.int .i64 (Lib.indexByte s.data.toList c)) ∧ w' = w := by
  go_enter Tryz.func161, Tryz.ntmps161
  go_wp2_with (go_at_call 168; refine (indexByte_walk _ _ _).mono ?_; rintro e w' ⟨rfl, rfl⟩)
  · have h : ([c] == s.toList) = true := by assumption
    go_ret
    refine ⟨?_, rfl⟩
    have e : s.data.toList = [c] := by rw [← Lib.toList_data]; exact (beq_iff_eq.1 h).symm
    rw [e]
    simp [Lib.indexByte]
  · go_ret
    exact ⟨rfl, rfl⟩

set_option maxHeartbeats 400000 in
theorem index_slash (s : ByteArray) (w : World) :
    Calls Tryz.prog 142 #[.string s, .string ⟨#[47]⟩] w fun e w' => e = .returned (.int .i64 (Lib.indexByte s.toList 47)) ∧ w = w' := by
  have H := hid (index_one s 47 w)
  go_enter Tryz.func142, Tryz.ntmps142
  go_wp2_with fail
  refine H.out.mono ?_
  rintro e w' ⟨rfl, rfl⟩
  go_wp2_with fail
  go_ret
  exact ⟨by rw [ByteArray.toList_eq]; rfl, rfl⟩

end Go.Proofs.YtfbbjfbnkcklgaaGreatDoor

/- strings.SplitSeq's iterator at one slash: for whatever rounds -/
namespace Go.Proofs.YtfbbjfbnkcklgaaGreatDoor
open Go.RowKit Go.Shelf
attribute [local go_sem] Oper.semAt_some

/-- how long the text is that a cell holds -/
def leftOf (b : Nat) (w : World) : Nat := match w.cell? ⟨b, 0, none⟩ with | some (.string s) => s.size | _ => 0

set_option maxRecDepth 100000 in
set_option maxHeartbeats 2000000 in
theorem iter_walk (n : Nat) (hn : 1 ≤ n) (l sepB sB vB : Nat) (s : ByteArray) (hs140 : s.size ≤ 140737488351232) (J Jx : List ByteArray → World → Prop)
    (hcell : ∀ pre W, J pre W → W.cell? ⟨sepB, 0, none⟩ = some (.string ⟨#[47]⟩) ∧ W.cell? ⟨vB, 0, none⟩ = some (.int .i64 0) ∧ W.frozen? ⟨sB, 0, none⟩ = false)
    (hset : ∀ pre W v, J pre W → J pre (W.setCell ⟨sB, 0, none⟩ v))
    (hY : ∀ pre x W1 rest, J pre W1 → W1.cell? ⟨sB, 0, none⟩ = some (.string rest) → YieldAt Fence.wide (n - 1) Tryz.prog l #[.string x] W1 fun e W' =>
      (e = .returned (.bool true) ∧ J (pre ++ [x]) W' ∧ W'.cell? ⟨sB, 0, none⟩ = some (.string rest)) ∨ (e = .returned (.bool false) ∧ Jx (pre ++ [x]) W'))
    (W : World) (h0 : J [] W) (hs : W.cell? ⟨sB, 0, none⟩ = some (.string s)) :
    CallsIn Fence.wide n Tryz.prog 140 #[.func (.yield l) #[] #[], .pointer (some ⟨sepB, 0, none⟩), .pointer (some ⟨sB, 0, none⟩), .pointer (some ⟨vB, 0, none⟩)] W fun e W' => (∃ v, e = .returned v) ∧
      ((∃ xs : List ByteArray, xs.map (·.toList) = partsL s.toList ∧ J xs W') ∨ (∃ (pre : List ByteArray) (post : List (List UInt8)), pre.map (·.toList) ++ post = partsL s.toList ∧ Jx pre W')) := by
  obtain ⟨k1, k2, k3⟩ := hcell [] W h0
  refine callsIn_of_wp Tryz.func140 rfl trivial ?_ rfl
  simp only [Tryz.ntmps140, List.size_toArray, List.length_cons, List.length_nil, Nat.reduceAdd, Nat.reduceSub, Array.replicate_succ, Array.replicate_zero, List.push_toArray, List.append_toArray, List.nil_append, List.cons_append]
  gi_wp2
  gi_loopw [] (fun wr => ∃ (pre : List ByteArray) (rest : ByteArray), J pre wr ∧ wr.cell? ⟨sB, 0, none⟩ = some (.string rest) ∧ pre.map (·.toList) ++ partsL rest.toList = partsL s.toList) (fun wr => leftOf sB wr)
  case atStart => exact ⟨[], s, h0, hs, by simp⟩
  case round =>
    clear k1 k2 k3
    obtain ⟨pre, rest, hJ, hr, hp⟩ := hrel
    obtain ⟨k1, k2, k3⟩ := hcell pre wr hJ
    have HI := hid (index_slash rest wr)
    have hlr := str_len rest
    rcases indexByte_spec rest.toList 47 with ⟨hx, hno⟩ | ⟨j, hx, hj, hno⟩
    · rw [hx] at HI
      have HP := hid hp
      have HN := hid hno
      obtain ⟨fn, tmps, assign, body, hy, hR⟩ := hY pre rest wr rest hJ hr
      clear hp hno hx hY hcell hset
      gi_wp2_with (refine ⟨trivial, ?_⟩; gi_at_call 142; refine (callsIn_wide.2 HI.out).mono ?_; rintro e w' ⟨rfl, rfl⟩)
      refine hR.mono ?_
      rintro e W' (⟨rfl, hJ', hr'⟩ | ⟨rfl, hJx⟩)
      · gi_wp2
        go_end0
        exact ⟨⟨_, rfl⟩, .inl ⟨_, by rw [List.map_append, ← HP.out, partsL_none HN.out]; rfl, hJ'⟩⟩
      · gi_wp2
        go_end0
        exact ⟨⟨_, rfl⟩, .inr ⟨_, [], by rw [List.map_append, ← HP.out, partsL_none HN.out, List.append_nil]; rfl, hJx⟩⟩
    · rw [hx] at HI
      have hjl : j < rest.size := by rw [← hlr]; exact (List.getElem?_eq_some_iff.1 hj).1
      have hcut : partsL rest.toList = (rest.extract 0 j).toList :: partsL (rest.extract (j + 1) rest.size).toList := by
        have := parts_slash (l := rest.toList) (a := 0) (j := j) (x := 47) (by simpa using hno) (Nat.zero_le _) hj rfl
        simp only [List.drop_zero, Nat.sub_zero] at this
        rw [this, ext_list, ext_list, List.drop_zero, Nat.sub_zero, List.take_of_length_le (l := rest.toList.drop (j + 1)) (by rw [List.length_drop, hlr]; omega)]
      have hrs : rest.size ≤ s.size := by
        have h1 := partsL_size rest.toList
        have h2 := partsL_size s.toList
        rw [← hp, List.map_append, List.sum_append] at h2
        have := str_len s
        omega
      have hw0 : wrap64 (j : Int) = j := by unfold wrap64; omega
      have hw1 : wrap64 ((j : Int) + 1) = (j : Int) + 1 := by unfold wrap64; omega
      have HP := hid hp
      have HC := hid hcut
      have hsz : (rest.extract (j + 1) rest.size).size < rest.size := by simp; omega
      obtain ⟨fn, tmps, assign, body, hy, hR⟩ := hY pre (rest.extract 0 j) wr rest hJ hr
      have i0 : (0 : Int) ≤ (j : Int) := by omega
      have i1 : (j : Int) ≤ (rest.size : Int) := by omega
      have i2 : (j : Int) + 1 ≤ (rest.size : Int) := by omega
      have i3 : (0 : Int) ≤ (j : Int) + 1 := by omega
      clear hp hno hx hY hcut hj
      gi_wp2_with (refine ⟨trivial, ?_⟩; gi_at_call 142; refine (callsIn_wide.2 HI.out).mono ?_; rintro e w' ⟨rfl, rfl⟩)
      refine hR.mono ?_
      rintro e W' (⟨rfl, hJ', hr'⟩ | ⟨rfl, hJx⟩)
      · obtain ⟨k1', k2', k3'⟩ := hcell _ W' hJ'
        have hlW : leftOf sB (W'.setCell ⟨sB, 0, none⟩ (.string (rest.extract (j + 1) rest.size))) < leftOf sB wr := by
          unfold leftOf
          rw [hr, World.cell?_setCell_same' _ _ _ (by rw [hr']; rfl)]
          exact hsz
        have hcW : (W'.setCell ⟨sB, 0, none⟩ (.string (rest.extract (j + 1) rest.size))).cell? ⟨sB, 0, none⟩ = some (.string (rest.extract (j + 1) rest.size)) := World.cell?_setCell_same' _ _ _ (by rw [hr']; rfl)
        have hJW := hset _ W' (.string (rest.extract (j + 1) rest.size)) hJ'
        clear hcell hset k1 k2 k3 hr HI
        gi_wp2
        go_roundw
        case rel => exact ⟨pre ++ [rest.extract 0 j], rest.extract (j + 1) rest.size, hJW, hcW, by rw [List.map_append, ← HP.out, HC.out, List.append_assoc]; rfl⟩
        case measure => exact hlW
      · gi_wp2
        refine bodyPost_ret (results_none rfl _ _ _) rfl ?_
        exact ⟨⟨_, rfl⟩, .inr ⟨_, partsL (rest.extract (j + 1) rest.size).toList, by rw [List.map_append, ← HP.out, HC.out, List.append_assoc]; rfl, hJx⟩⟩

end Go.Proofs.YtfbbjfbnkcklgaaGreatDoor
