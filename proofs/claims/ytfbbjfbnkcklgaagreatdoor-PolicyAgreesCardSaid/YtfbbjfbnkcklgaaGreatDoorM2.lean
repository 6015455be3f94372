/- (Tree).room; tree.Mkdir, Write, Remove -/
import Derived.Test.YtfbbjfbnkcklgaaGreatDoorM1
import Derived.Test.YtfbbjfbnkcklgaaGreatDoorI12
namespace Go.Proofs.YtfbbjfbnkcklgaaGreatDoor
open Go.RowKit

/-- what is wrong with a place for something -/
def roomA (t : List AIt) (p : List UInt8) : Int := if rightA t = false then 1 else if pathB p = false then 10 else dirA t p
theorem room_zero {t : List AIt} {p : List UInt8} (h : roomA t p = 0) : rightA t = true ∧ pathB p = true ∧ dirA t p = 0 := by
  unfold roomA at h
  cases hr : rightA t
  · rw [hr] at h; simp at h
  · cases hp : pathB p
    · rw [hr, hp] at h; simp at h
    · rw [hr, hp] at h; exact ⟨rfl, rfl, by simpa using h⟩
theorem mkdir_room {t : List AIt} {p : List UInt8} (h : roomA t p ≠ 0) : mkdirA t p = ([], roomA t p) := by
  unfold mkdirA roomA at *
  split
  · rfl
  · split
    · rfl
    · rename_i h1 h2; rw [if_neg h1, if_neg h2] at h; rw [if_pos h]
theorem write_room {t : List AIt} {p : List UInt8} {b : List Int} (h : roomA t p ≠ 0) : writeA t p b = ([], roomA t p) := by
  unfold writeA roomA at *
  split
  · rfl
  · split
    · rfl
    · rename_i h1 h2; rw [if_neg h1, if_neg h2] at h; rw [if_pos h]

theorem place_found (A : Option Addr) (c : Nat) (l : List Itm) (q : ByteArray) (w : World) (h : Tr w A c l) (hs : sortedI l) :
    Calls Tryz.prog 78 #[.slice A l.length c, .string q] w fun e w' => (∃ i : Nat, e = .returned (.tuple #[.int .i64 i, .bool (findA (l.map Itm.abs) q.toList).isSome]) ∧
      ((findA (l.map Itm.abs) q.toList).isSome = true → ∃ hi : i < l.length, findA (l.map Itm.abs) q.toList = some l[i].abs)) ∧ Below w.heap.size w w' := by
  refine (place_walk A c l q w h).mono ?_
  rintro e w' ⟨⟨i, rfl, hp⟩, hb⟩
  have hf := hp.find hs
  have e1 : findA (l.map Itm.abs) q.toList = if placeB l q.toList i then (l[i]?).map Itm.abs else none := by
    rw [find_abs, hf]; split <;> rfl
  cases hpb : placeB l q.toList i
  · rw [hpb] at e1
    exact ⟨⟨i, by rw [e1]; rfl, by rw [e1]; simp⟩, hb⟩
  · obtain ⟨hi, _⟩ := placeB_lt hpb
    rw [hpb, List.getElem?_eq_getElem hi] at e1
    exact ⟨⟨i, by rw [e1]; rfl, fun _ => ⟨hi, by rw [e1]; rfl⟩⟩, hb⟩

end Go.Proofs.YtfbbjfbnkcklgaaGreatDoor
