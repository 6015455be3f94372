/- TreeLooks: the walk -/
import Derived.Test.YtheccdidfkcbbaaDoorN3
namespace Go.Proofs.YtheccdidfkcbbaaDoor
open Go.RowKit

theorem bytes_light {l : List Itm} {n : Nat} (h : lightB l n = true) : bytesA (l.map Itm.abs) ≤ n * 2100 := by
  unfold lightB at h
  rw [Bool.and_eq_true] at h
  have h1 := of_decide_eq_true h.1
  have h2 := h.2
  clear h
  have key : ∀ l : List Itm, (l.all fun x => decide (x.p.size ≤ 250) && decide (x.bs.length ≤ 2100)) = true → bytesA (l.map Itm.abs) ≤ l.length * 2100 := by
    intro l
    induction l with
    | nil => intro _; exact Nat.zero_le _
    | cons x r ih =>
      intro h
      rw [List.all_cons, Bool.and_eq_true] at h
      have h3 := ih h.2
      have h4 := h.1
      simp only [Bool.and_eq_true, decide_eq_true_eq] at h4
      unfold bytesA at h3 ⊢
      simp only [List.map_cons, List.sum_cons, List.length_cons]
      show x.bs.length + _ ≤ _
      omega
  exact Nat.le_trans (key l h2) (Nat.mul_le_mul_right _ h1)

theorem reffind_item (A : Option Addr) (c : Nat) (l : List Itm) (q : ByteArray) (w : World) (h : Tr w A c l) :
    Calls Tryd.prog 9 #[.slice A l.length c, .string q] w fun e w' => (∃ x : Itm, ∃ is : Bool, e = .returned (.tuple #[.agg #[.string x.p, .bool x.d, .slice x.dA x.bs.length x.dc], .bool is]) ∧ Good w' x ∧ (is = false → x.abs = ⟨[], false, []⟩) ∧
      (findA (l.map Itm.abs) q.toList).isSome = is ∧ (is = true → findA (l.map Itm.abs) q.toList = some x.abs)) ∧ Below w.heap.size w w' := by
  refine (reffind A c l q w h).mono ?_
  rw [find_abs]
  rintro e w' ⟨hb, (⟨x, hx, rfl⟩ | ⟨hx, rfl⟩)⟩
  · exact ⟨⟨x, true, rfl, (h.good x (List.mem_of_find?_eq_some hx)).below hb, (fun h => nomatch h), by rw [hx]; rfl, fun _ => by rw [hx]; rfl⟩, hb⟩
  · exact ⟨⟨⟨⟨#[]⟩, false, none, 0, []⟩, false, rfl, ⟨Nat.zero_le _, by simp, (Row.nil w' 5 1).src, by simp⟩, fun _ => by unfold Itm.abs; rw [ByteArray.toList_eq], by rw [hx]; rfl, (fun h => nomatch h)⟩, hb⟩

end Go.Proofs.YtheccdidfkcbbaaDoor
