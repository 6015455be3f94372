/- tree.Bytes, Same -/
import Derived.Test.YtheccdidfkcbbaaDoorK8
namespace Go.Proofs.YtheccdidfkcbbaaDoor
open Go.RowKit

set_option maxRecDepth 100000 in
set_option maxHeartbeats 1600000 in
theorem bytes_walk (A : Option Addr) (c : Nat) (l : List Itm) (w : World) (h : Tr w A c l) (hs : bytesA (l.map Itm.abs) ≤ 140737488351232) :
    Calls Tryd.prog 12 #[.slice A l.length c] w fun e w' => e = .returned (.int .i64 (bytesA (l.map Itm.abs))) ∧ Below w.heap.size w w' := by
  have h48 := h.max
  have HS := hid hs
  clear hs
  go_enter Tryd.func12, Tryd.ntmps12
  go_wp2_with fail
  go_loopg [2, 7] l.length (fun k n i wr => ∃ j : Nat, j ≤ l.length ∧ k = l.length - j ∧ i = .int .i64 j ∧ n = .int .i64 (bytesA ((l.take j).map Itm.abs)) ∧ Below w.heap.size w wr)
  case atStart => exact ⟨0, Nat.zero_le _, rfl, rfl, rfl, Below.refl _ _⟩
  case round =>
    obtain ⟨j, hj, rfl, rfl, rfl, hb⟩ := hrel
    by_cases hlt : j < l.length
    · have i0 : (0 : Int) ≤ (j : Int) := by omega
      have i1 : (j : Int) < (l.length : Int) := by omega
      obtain ⟨b, off, hA, c0, c1, c2, hg⟩ := (h.below hb).at hlt
      have hn : bytesA ((l.take (j + 1)).map Itm.abs) = bytesA ((l.take j).map Itm.abs) + l[j].bs.length := by
        unfold bytesA
        rw [List.take_add_one, List.map_append, List.map_append, List.sum_append]
        simp [hlt, Itm.abs]
      have hle : bytesA ((l.take (j + 1)).map Itm.abs) ≤ bytesA (l.map Itm.abs) := by
        unfold bytesA
        conv => rhs; rw [← List.take_append_drop (j + 1) l, List.map_append, List.map_append, List.sum_append]
        omega
      have hs := HS.out
      have HN := hid hn
      have hbd : bytesA ((l.take j).map Itm.abs) + l[j].bs.length ≤ 140737488351232 := by omega
      subst hA
      clear hn hle hs h hg
      generalize bytesA ((l.take j).map Itm.abs) = B at *
      generalize l[j].bs.length = N at *
      go_wp2_with fail
      go_roundg (l.length - (j + 1))
      case measure => omega
      case rel => exact ⟨j + 1, by omega, rfl, by go_num, by rw [HN.out]; go_num, thenA hb _⟩
    · obtain rfl : j = l.length := by omega
      go_wp2_with fail
      go_ret
      exact ⟨by rw [List.take_length]; rfl, hb⟩

theorem str_eq {xs ys : List Int} (hx : ∀ b ∈ xs, 0 ≤ b ∧ b < 256) (hy : ∀ b ∈ ys, 0 ≤ b ∧ b < 256) : ((strOfNums xs).toList == (strOfNums ys).toList) = decide (xs = ys) := by
  rw [Bool.eq_iff_iff, beq_iff_eq, decide_eq_true_eq]
  constructor
  · intro h
    rw [ByteArray.toList_eq, ByteArray.toList_eq] at h
    simp only [strOfNums] at h
    have key : ∀ (xs ys : List Int), (∀ b ∈ xs, 0 ≤ b ∧ b < 256) → (∀ b ∈ ys, 0 ≤ b ∧ b < 256) → xs.map (fun n => UInt8.ofNat n.toNat) = ys.map (fun n => UInt8.ofNat n.toNat) → xs = ys := by
      intro xs
      induction xs with
      | nil => intro ys _ _ h; cases ys with | nil => rfl | cons _ _ => simp at h
      | cons x r ih =>
        intro ys hx hy h
        cases ys with
        | nil => simp at h
        | cons y s =>
          simp only [List.map_cons, List.cons.injEq] at h
          have h1 := hx x (by simp)
          have h2 := hy y (by simp)
          have h3 := congrArg UInt8.toNat h.1
          simp only [UInt8.toNat_ofNat'] at h3
          have : x = y := by omega
          rw [this, ih s (fun b hb => hx b (by simp [hb])) (fun b hb => hy b (by simp [hb])) h.2]
    exact key xs ys hx hy (by simpa using h)
  · rintro rfl; rfl

set_option maxHeartbeats 1600000 in
theorem bytesequal (a b : Value) (xs ys : List Int) (w : World) (ha : Src w 1 a (nums xs)) (hb : Src w 1 b (nums ys)) (hx : ∀ b ∈ xs, 0 ≤ b ∧ b < 256) (hy : ∀ b ∈ ys, 0 ≤ b ∧ b < 256) :
    Calls Tryd.prog 28 #[a, b] w fun e w' => e = .returned (.bool (decide (xs = ys))) ∧ w = w' := by
  have h1 := ha.string
  have h2 := hb.string
  have he := str_eq hx hy
  obtain ⟨aA, an, ac, rfl, _⟩ := id ha
  obtain ⟨bA, bn, bc, rfl, _⟩ := id hb
  rw [← he]
  clear he ha hb
  generalize strOfNums xs = S at *
  generalize strOfNums ys = T at *
  go_enter Tryd.func28, Tryd.ntmps28
  go_wp2_with fail
  go_ret
  exact ⟨rfl, rfl⟩

end Go.Proofs.YtheccdidfkcbbaaDoor
