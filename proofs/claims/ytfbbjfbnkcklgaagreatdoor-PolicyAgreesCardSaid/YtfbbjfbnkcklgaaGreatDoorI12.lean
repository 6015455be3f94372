/- the reference's Rename -/
import Derived.Test.YtfbbjfbnkcklgaaGreatDoorI11
import Derived.Laws.Concat
namespace Go.Proofs.YtfbbjfbnkcklgaaGreatDoor
open Go.RowKit

/-- items, moved one by one into a tree -/
def moveL (frm to : List UInt8) : List AIt → List AIt → Option (List AIt)
  | [], out => some out
  | x :: r, out => if pathB (to ++ x.p.drop frm.length) then moveL frm to r (putA out ⟨to ++ x.p.drop frm.length, x.d, x.b⟩) else none
def renameA (t : List AIt) (frm to : List UInt8) : List AIt × Int :=
  if rightA t = false then ([], 1) else if pathB frm = false ∨ pathB to = false then ([], 10) else if (findA t frm).isSome = false then ([], 5) else if dirA t to ≠ 0 then ([], dirA t to) else
  if (findA t to).isSome = true ∧ frm ≠ to then ([], 6) else if frm ≠ to ∧ withinA frm to = true then ([], 1) else
  match moveL frm to (underA t frm) (withoutA t frm) with
  | none => ([], 10)
  | some o => (o, 0)
theorem within_len {p q : List UInt8} (h : withinA p q = true) : p.length ≤ q.length := by
  unfold withinA at h
  simp only [Bool.or_eq_true, beq_iff_eq, Bool.and_eq_true, decide_eq_true_eq] at h
  rcases h with (h | h) | h
  · rw [h]; exact Nat.le_refl _
  · rw [h]; exact Nat.zero_le _
  · omega
theorem right_path {t : List AIt} (h : rightA t = true) {x : AIt} (hx : x ∈ t) : pathB x.p = true := by
  obtain ⟨j, hj, e⟩ := List.getElem_of_mem hx
  have := (fine_parts (List.getElem?_eq_getElem hj)).1 ((right_fine h).2 j hj)
  rw [e] at this
  exact this.1
theorem putA_sorted {t : List AIt} (h : sortedA t) (x : AIt) : sortedA (putA t x) := by
  unfold sortedA putA
  rw [List.pairwise_append]
  refine ⟨h.filter _, ?_, ?_⟩
  · rw [List.pairwise_cons]
    exact ⟨fun y hy => (List.mem_filter.1 hy).2, h.filter _⟩
  · intro a ha b hb
    have h1 := (List.mem_filter.1 ha).2
    rcases List.mem_cons.1 hb with rfl | hb
    · exact h1
    · exact less_trans h1 (List.mem_filter.1 hb).2
theorem putA_len (t : List AIt) (x : AIt) : (putA t x).length ≤ t.length + 1 := by
  have key : ∀ (t : List AIt) (p q : AIt → Bool), (∀ y, p y = true → q y = false) → (t.filter p).length + (t.filter q).length ≤ t.length := by
    intro t p q hpq
    induction t with
    | nil => simp
    | cons y r ih =>
      rw [List.filter_cons, List.filter_cons]
      cases hp : p y <;> cases hq : q y <;> simp <;> try omega
      rw [hpq y hp] at hq; cases hq
  unfold putA
  rw [List.length_append, List.length_cons]
  have := key t (fun y => Op.bytesLess y.p x.p) (fun y => Op.bytesLess x.p y.p) (fun y hy => less_asymm hy)
  omega
theorem under_mem {l : List Itm} {q : List UInt8} {x : Itm} (h : x ∈ l.filter fun x => withinA q x.p.toList) : x ∈ l ∧ withinA q x.p.toList = true := by simpa using List.mem_filter.1 h
theorem app_toList (a b : ByteArray) : (a ++ b).toList = a.toList ++ b.toList := by
  rw [ByteArray.toList_eq, ByteArray.toList_eq, ByteArray.toList_eq]
  simp

end Go.Proofs.YtfbbjfbnkcklgaaGreatDoor
