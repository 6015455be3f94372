/- the reference's Drop, Again -/
import Derived.Test.YtodbnmigdnmjnaaY2
namespace Go.Proofs.Ytodbnmigdnmjnaa
open Go.RowKit

theorem take_erase {α : Type} (l : List α) (i k : Nat) (hk : k < l.length) : (l.take (k + 1)).eraseIdx i = if k = i then (l.take k).eraseIdx i else (l.take k).eraseIdx i ++ (if i < k + 1 ∧ i ≠ k ∨ k < i then [l[k]] else []) := by
  rw [List.take_add_one, List.getElem?_eq_getElem hk]
  have hl : (l.take k).length = k := by simp; omega
  by_cases h : k = i
  · subst h
    rw [if_pos rfl, List.eraseIdx_append_of_length_le (by omega), hl]
    simp only [Nat.sub_self, Option.toList_some, List.eraseIdx_cons_zero, List.append_nil]
    exact (List.eraseIdx_of_length_le (by omega)).symm
  · rw [if_neg h]
    by_cases h2 : i < k
    · rw [List.eraseIdx_append_of_lt_length (by omega), if_pos (.inl ⟨by omega, Ne.symm h⟩)]
      rfl
    · rw [List.eraseIdx_append_of_length_le (by omega), if_pos (.inr (by omega)), hl, List.eraseIdx_of_length_le (by simp; omega), List.eraseIdx_of_length_le (by omega)]
      rfl
theorem take_erase_eq {α : Type} (l : List α) (i : Nat) (hk : i < l.length) : (l.take (i + 1)).eraseIdx i = (l.take i).eraseIdx i := by rw [take_erase l i i hk, if_pos rfl]
theorem take_erase_ne {α : Type} (l : List α) (i k : Nat) (hk : k < l.length) (h : k ≠ i) : (l.take (k + 1)).eraseIdx i = (l.take k).eraseIdx i ++ [l[k]] := by
  rw [take_erase l i k hk, if_neg h, if_pos (by omega)]

set_option maxRecDepth 100000 in
set_option maxHeartbeats 1600000 in
theorem rdrop1 (g qb off n c i : Nat) (e : Int) (vs : List Value) (w : World) (h0 : 0 ≤ e) (h1 : e < 2) (H : HidP (Calls Try.prog 49 #[.pointer (some ⟨g, 0, none⟩), .int .i64 e, .int .i64 i] w fun e w' => e = .returned (.bool true) ∧ w = w'))
    (cg : w.cell? ⟨g, 1 + e.toNat, none⟩ = some (.slice (some ⟨qb, off, none⟩) n c)) (fg : w.frozen? ⟨g, 1 + e.toNat, none⟩ = false) (hr : Row w 28 1 (.slice (some ⟨qb, off, none⟩) n c) vs) (hs : ∀ v ∈ vs, ∃ A n c, v = .slice A n c) (hi : i < n) (hn : n ≤ 1000) :
    Calls Try.prog 32 #[.pointer (some ⟨g, 0, none⟩), .int .i64 e, .int .i64 i] w fun e' w' => e' = .returned (.bool true) ∧ ∃ q' w2, w' = w2.setCell ⟨g, 1 + e.toNat, none⟩ q' ∧ Row w2 28 1 q' (vs.eraseIdx i) ∧ Below w.heap.size w w2 ∧ (∀ k, q'.ownBlock = some k → w.heap.size ≤ k) := by
  obtain ⟨i0, hi0, hz0, hz1, hz2⟩ := info_parts info28
  have lg := World.block_lt_of_cell? w _ cg
  obtain rfl : n = vs.length := by obtain ⟨_, _, _, hv, hl, _⟩ := id hr; cases hv; omega
  go_enter Try.func32, Try.ntmps32
  go_wp2_with (go_at_call 49; refine H.out.mono ?_; rintro e w' ⟨rfl, rfl⟩)
  go_loopg [7, 8] vs.length (fun k q j wr => ∃ m : Nat, m ≤ vs.length ∧ k = vs.length - m ∧ j = .int .i64 m ∧ ∃ pA pn pc, q = .slice pA pn pc ∧ Row wr 28 1 q ((vs.take m).eraseIdx i) ∧ Below w.heap.size w wr ∧ (∀ k, q.ownBlock = some k → w.heap.size ≤ k))
  case atStart => exact ⟨0, Nat.zero_le _, rfl, rfl, none, 0, 0, rfl, by simpa using Row.nil _ _ _, Below.refl _ _, by simp [Value.ownBlock]⟩
  case round =>
    obtain ⟨m, hm, rfl, rfl, pA, pn, pc, rfl, hrow, hbel, hfr⟩ := hrel
    have cgr : wr.cell? ⟨g, 1 + e.toNat, none⟩ = some (.slice (some ⟨qb, off, none⟩) vs.length c) := (hbel.cell (p := ⟨g, 1 + e.toNat, none⟩) lg).trans cg
    have fgr : wr.frozen? ⟨g, 1 + e.toNat, none⟩ = false := (hbel.frozen (p := ⟨g, 1 + e.toNat, none⟩) lg).trans fg
    have hrr := hr.below hbel
    by_cases hlt : m < vs.length
    · have g1 : decide ((m : Int) < (vs.length : Int)) = true := by simp; omega
      have i0' : (0 : Int) ≤ (m : Int) := by omega
      have i1' : (m : Int) < (vs.length : Int) := by omega
      by_cases hmi : m = i
      · have g2 : ((m : Int) != (i : Int)) = false := by simp [hmi]
        have hmi2 := hid hmi
        clear hmi
        go_wp2_with fail
        go_roundg (vs.length - (m + 1))
        case measure => omega
        case rel => exact ⟨m + 1, by omega, rfl, by go_num, _, _, _, rfl, by rw [show (vs.take (m + 1)).eraseIdx i = (vs.take m).eraseIdx i by rw [hmi2.out]; exact take_erase_eq vs i hi]; exact hrow, hbel, hfr⟩
      · have g2 : ((m : Int) != (i : Int)) = true := by simp; omega
        have hmi2 := hid hmi
        clear hmi
        have hmem : vs[m]? = some vs[m] := List.getElem?_eq_getElem hlt
        have cm := (hrr.cellAt hmem).1
        obtain ⟨vA, vn, vc, hvm⟩ := hs vs[m] (List.getElem_mem hlt)
        have hte := hid (take_erase_ne vs i m hlt hmi2.out)
        rw [hvm] at cm hte
        have hlen : ((vs.take m).eraseIdx i).length + 1 ≤ 1001 := by
          have := List.length_eraseIdx_le (vs.take m) i
          simp at this; omega
        have hc1 : ((vs.take m).eraseIdx i).length + 1 ≤ maxLen := by simp only [maxLen]; omega
        have hc2 : (((vs.take m).eraseIdx i).length + 1) * 24 ≤ 140737488355328 := by omega
        go_wp2_with (at_builtin; refine wpList_append_row _ rfl _ _ 22 rfl 28 i0 (.slice none 0 0) 1 24 Try.underlying22 hi0 hz0 hz1 hz2 rfl (by decide) (.slice pA pn pc) ((vs.take m).eraseIdx i) rfl (by exact hrow.keep fun k hk => Below.heap_alloc wr _ _ (hrow.lt k hk)) (.slice (some ⟨wr.heap.size, 0, none⟩) 1 1) [.slice vA vn vc] rfl (Src.one (heap_alloc_new _ _)) (by simp [Value.oneCell']) hc1 hc2 ?_; intro bA bn bc w2 hr2 hg2 ha2)
        have hb2 : Below w.heap.size w w2 := Below.grownNew (hbel.alloc hbel.size (.cells #[.slice vA vn vc] 28 (0, 0))) hg2 (by have := hbel.size; simp; omega) hfr
        have hf2 := fresh_of ha2 hfr (by have := hbel.size; simp; omega)
        clear hg2 ha2
        go_wp2_with fail
        go_roundg (vs.length - (m + 1))
        case measure => omega
        case rel => exact ⟨m + 1, by omega, rfl, by go_num, _, _, _, rfl, by rw [hte.out]; exact hr2, hb2, hf2⟩
    · have g1 : decide ((m : Int) < (vs.length : Int)) = false := by simp; omega
      obtain rfl : m = vs.length := by omega
      go_wp2_with fail
      go_ret
      exact ⟨rfl, _, _, rfl, by rw [List.take_length] at hrow; exact hrow, hbel, hfr⟩

theorem RN.has {w : World} {R : Nat → Prop} {g : Nat} {room : Int} {q : Bool → Value} {cut : Bool} {sent bytes : Int} {vs : Bool → List Value} {ms : Bool → List (List Int)} (h : RN w R g room q cut sent bytes vs ms) (e i : Int) (x : Bool)
    (hx : (offEnd e ∧ x = false) ∨ ∃ t, e = endI t ∧ x = decide (0 ≤ i ∧ i < (ms t).length)) : Calls Try.prog 49 #[.pointer (some ⟨g, 0, none⟩), .int .i64 e, .int .i64 i] w fun e w' => e = .returned (.bool x) ∧ w = w' := by
  rcases hx with ⟨hx, rfl⟩ | ⟨t, rfl, rfl⟩
  · exact rhas_off _ e i w hx
  · obtain ⟨A, c, _, hq, _⟩ := h.q_at t
    exact rhas_in g t i _ _ _ w hq

set_option maxHeartbeats 400000 in
theorem rdrop_no {w : World} {R : Nat → Prop} {g : Nat} {room : Int} {q : Bool → Value} {cut : Bool} {sent bytes : Int} {vs : Bool → List Value} {ms : Bool → List (List Int)} (h : RN w R g room q cut sent bytes vs ms) (e i : Int)
    (hi : offEnd e ∨ ∃ t, e = endI t ∧ ¬ (0 ≤ i ∧ i < (ms t).length)) : Calls Try.prog 32 #[.pointer (some ⟨g, 0, none⟩), .int .i64 e, .int .i64 i] w fun e w' => e = .returned (.bool false) ∧ w = w' := by
  have H := hid (h.has e i false (by
    rcases hi with hi | ⟨t, rfl, hi⟩
    · exact .inl ⟨hi, rfl⟩
    · exact .inr ⟨t, rfl, by simp only [hi, decide_false]⟩))
  clear h hi
  go_enter Try.func32, Try.ntmps32
  go_wp2_with (go_at_call 49; refine H.out.mono ?_; rintro e w' ⟨rfl, rfl⟩)
  go_ret
  exact ⟨rfl, rfl⟩

theorem eraseIdx_at {α : Type} (l : List α) (i j : Nat) : (l.eraseIdx i)[j]? = l[if j < i then j else j + 1]? := by
  rw [List.getElem?_eraseIdx]; split <;> rfl

theorem rdrop_yes {w : World} {R : Nat → Prop} {g : Nat} {room : Int} {q : Bool → Value} {cut : Bool} {sent bytes : Int} {vs : Bool → List Value} {ms : Bool → List (List Int)} (h : RN w R g room q cut sent bytes vs ms) (e : Int) (t : Bool) (he : e = endI t) (i : Nat)
    (hi : i < (ms t).length) (hr1 : (ms t).length ≤ 1000) : Calls Try.prog 32 #[.pointer (some ⟨g, 0, none⟩), .int .i64 e, .int .i64 i] w fun e w' => e = .returned (.bool true) ∧
      (∃ q' vs', RN w' (ext R w w') g room q' cut sent bytes vs' (upd ms t ((ms t).eraseIdx i))) ∧ Keep (· ≠ g) w w' := by
  subst he
  have ⟨e0, e1⟩ := endI_range t
  obtain ⟨A, c, hqt, hq, hr⟩ := h.q_at t
  obtain ⟨qb, off, rfl⟩ := hr.someOf (by omega)
  have H := h.has (endI t) i true (.inr ⟨t, rfl, by simp [hi]⟩)
  refine (rdrop1 g qb off (ms t).length c i (endI t) (vs t) w e0 e1 (hid H) hq (h.free _) hr (h.slices t) hi hr1).mono ?_
  rintro e w' ⟨rfl, q', w2, hw', hrow, hbel, hfr⟩
  have hlen := h.len t
  have hX := h.queue t hw' hbel hrow (fun k hk => .inr (hfr k hk)) (ms' := (ms t).eraseIdx i) (by rw [List.length_eraseIdx, List.length_eraseIdx, hlen]) (fun j u m hu hm => by
      rw [eraseIdx_at] at hu hm
      exact (h.msg t _ u m hu hm).below hbel) (fun j u k hu hk => by
      rw [eraseIdx_at] at hu
      exact .inl (h.mR t _ u k hu hk))
  exact ⟨rfl, ⟨_, _, hX.1⟩, hX.2⟩

end Go.Proofs.Ytodbnmigdnmjnaa
