/- rows of items that are written; slices.Clone; (Tree).own -/
import Derived.Test.YtfoedcmcdpekoaaDoorK2
namespace Go.Proofs.YtfoedcmcdpekoaaDoor
open Go.RowKit

theorem Row.at3 {w : World} {e : TypeId} {A : Option Addr} {n c : Nat} {l : List Itm} (h : Row w e 3 (.slice A n c) (l.flatMap Itm.cells)) {i : Nat} (hi : i < l.length) :
    ∃ b off, A = some ⟨b, off, none⟩ ∧ w.cell? ⟨b, off + i * 3, none⟩ = some (.string l[i].p) ∧ w.cell? ⟨b, off + i * 3 + 1, none⟩ = some (.bool l[i].d) ∧ w.cell? ⟨b, off + i * 3 + 2, none⟩ = some (.slice l[i].dA l[i].bs.length l[i].dc) ∧
      (∀ j, w.frozen? ⟨b, j, none⟩ = false) := by
  obtain ⟨A', n', c', hv, hl, hn, hc, hh⟩ := h
  cases hv
  rw [cells_len] at hl
  rcases hh with ⟨_, rfl⟩ | ⟨b, off, cs, rfl, hb, hs, ht⟩
  · omega
  · have key : ∀ k u, k < 3 → l[i].cells[k]? = some u → w.cell? ⟨b, off + (i * 3 + k), none⟩ = some u := by
      intro k u hk hu
      rw [blkCell hb, ← hu, ← cells_get l i l[i] k (List.getElem?_eq_getElem hi) hk, ← ht, List.getElem?_take, if_pos (by omega), List.getElem?_drop]
      simp
    exact ⟨b, off, rfl, key 0 _ (by omega) rfl, key 1 _ (by omega) rfl, key 2 _ (by omega) rfl, fun j => blkFree hb j⟩

theorem take_set {xs : List Value} {a k : Nat} {u : Value} : (xs.set k u).take a = (xs.take a).set k u := by
  rw [List.take_set]

/-- one cell of a row is written -/
theorem Row.set {w : World} {e : TypeId} {sz b off n c : Nat} {xs : List Value} (h : Row w e sz (.slice (some ⟨b, off, none⟩) n c) xs) (k : Nat) (u : Value) :
    Row (w.setCell ⟨b, off + k, none⟩ u) e sz (.slice (some ⟨b, off, none⟩) n c) (xs.set k u) := by
  obtain ⟨A', n', c', hv, hl, hn, hc, hh⟩ := h
  cases hv
  rcases hh with ⟨h, _⟩ | ⟨b', off', cs, h, hb, hs, ht⟩
  · cases h
  · cases h
    refine ⟨_, n, c, rfl, by rw [List.length_set]; exact hl, hn, hc, .inr ⟨b, off, _, rfl, blkSet hb (off + k) u, by simpa using hs, ?_⟩⟩
    rw [← ht, Array.toList_setIfInBounds, List.drop_set, if_neg (by omega), List.take_set, show off + k - off = k by omega]

/-- the bytes of an item get another place -/
theorem cells_set {l : List Itm} {i : Nat} (hi : i < l.length) (B : Option Addr) (d : Nat) : (l.flatMap Itm.cells).set (i * 3 + 2) (.slice B l[i].bs.length d) = (l.set i ⟨l[i].p, l[i].d, B, d, l[i].bs⟩).flatMap Itm.cells := by
  induction l generalizing i with
  | nil => simp at hi
  | cons x r ih =>
    cases i with
    | zero => simp [Itm.cells]
    | succ i =>
      have h1 := ih (i := i) (by simpa using hi)
      simp only [List.flatMap_cons, List.set_cons_succ, List.getElem_cons_succ]
      rw [List.set_append_right _ _ (by simp [Itm.cells]; omega), show (i + 1) * 3 + 2 - x.cells.length = i * 3 + 2 by simp [Itm.cells]; omega, h1]

@[go_sem] theorem eqlTree (a : Option Addr) (n c : Nat) (w : World) : (binOp .eql 40 (.slice a n c) (.slice none 0 0)).run Tryd.prog w = .ok (.bool a.isNone) w := Lib.run_eql_slice_nil w 40 30 a n c 0 0 Tryd.underlying40

set_option maxHeartbeats 400000 in
theorem slclone (A : Option Addr) (c : Nat) (l : List Itm) (w : World) (h : Tr w A c l) :
    Calls Tryd.prog 65 #[.slice A l.length c] w fun e w' => (∃ B d, e = .returned (.slice B l.length d) ∧ Row w' 30 3 (.slice B l.length d) (l.flatMap Itm.cells) ∧ (∀ k, (Value.slice B l.length d).ownBlock = some k → w.heap.size ≤ k)) ∧ Below w.heap.size w w' := by
  obtain ⟨i0, hi0, hz0, hz1, hz2⟩ := info_parts infoItem
  have hm := h.max
  cases A with
  | none =>
    have hc := h.nil rfl
    subst hc
    have hl : l.length = 0 := by have := h.cap; omega
    obtain rfl : l = [] := List.eq_nil_of_length_eq_zero hl
    go_enter Tryd.func65, Tryd.ntmps65
    go_wp2_with fail
    go_ret
    exact ⟨⟨none, 0, rfl, Row.nil _ _ _, by simp [Value.ownBlock]⟩, Below.refl _ _⟩
  | some a =>
    have hsrc := h.src.below ((Below.refl w.heap.size w).alloc (Nat.le_refl _) (.cells #[] 30 (0, 0)))
    have hrow : Row (w.alloc (.cells #[] 30 (0, 0))) 30 3 (.slice (some ⟨w.heap.size, 0, none⟩) 0 0) [] := Row.ofBlock (n := 0) (heap_alloc_new w _) (by simp) (by simp)
    have h1 := cells_one l
    have hlen := cells_len l
    have hc1 : ([] : List Value).length + (l.flatMap Itm.cells).length ≤ maxLen := by rw [hlen]; simp only [List.length_nil, maxLen]; omega
    have hc2 : (([] : List Value).length + (l.flatMap Itm.cells).length) * 48 ≤ 140737488355328 := by rw [hlen]; simp only [List.length_nil]; omega
    clear h hlen
    go_enter Tryd.func65, Tryd.ntmps65
    go_wp2_with (at_builtin; refine wpList_append_row _ rfl _ _ 40 rfl 30 i0 (.agg #[.string ByteArray.empty, .bool false, .slice none 0 0]) 3 48 Tryd.underlying40 hi0 hz0 hz1 hz2 rfl (by decide) (.slice (some ⟨w.heap.size, 0, none⟩) 0 0) [] rfl hrow (.slice (some a) l.length c) (l.flatMap Itm.cells) rfl hsrc h1 hc1 hc2 ?_; intro vA vn vc w' hr hg ha)
    go_ret
    rw [List.nil_append] at hr
    obtain rfl : vn = l.length := by
      obtain ⟨_, _, _, hv, hl, _⟩ := id hr
      cases hv
      rw [cells_len] at hl
      omega
    refine ⟨⟨vA, vc, rfl, hr, ?_⟩, ((Below.refl w.heap.size w).alloc (Nat.le_refl _) _).grown hg (by simp) (by simp [Value.ownBlock])⟩
    intro k hk
    rcases ha with ha | ha
    · rw [ha] at hk; simp [Value.ownBlock] at hk; omega
    · rw [ha] at hk; simp at hk; omega

end Go.Proofs.YtfoedcmcdpekoaaDoor
