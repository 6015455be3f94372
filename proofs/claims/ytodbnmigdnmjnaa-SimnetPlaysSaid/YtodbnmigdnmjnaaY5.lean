/- the reference's Turn -/
import Derived.Test.YtodbnmigdnmjnaaY4
namespace Go.Proofs.Ytodbnmigdnmjnaa
open Go.RowKit

set_option maxHeartbeats 400000 in
theorem rturn_n1 (a : Addr) (e i at_ y : Int) (w : World) (H : HidP (Calls Try.prog 49 #[.pointer (some a), .int .i64 e, .int .i64 i] w fun e w' => e = .returned (.bool false) ∧ w = w')) :
    Calls Try.prog 35 #[.pointer (some a), .int .i64 e, .int .i64 i, .int .i64 at_, .int .u8 y] w fun e w' => e = .returned (.bool false) ∧ w = w' := by
  go_enter Try.func35, Try.ntmps35
  go_wp2_with fail
  refine H.out.mono ?_; rintro e w' ⟨rfl, rfl⟩
  go_wp2_with fail
  go_ret
  exact ⟨rfl, rfl⟩

set_option maxHeartbeats 400000 in
theorem rturn_n2 (a : Addr) (e i at_ y : Int) (w : World) (H : HidP (Calls Try.prog 49 #[.pointer (some a), .int .i64 e, .int .i64 i] w fun e w' => e = .returned (.bool true) ∧ w = w')) (g1 : decide (at_ < 0) = true) :
    Calls Try.prog 35 #[.pointer (some a), .int .i64 e, .int .i64 i, .int .i64 at_, .int .u8 y] w fun e w' => e = .returned (.bool false) ∧ w = w' := by
  go_enter Try.func35, Try.ntmps35
  go_wp2_with fail
  refine H.out.mono ?_; rintro e w' ⟨rfl, rfl⟩
  go_wp2_with fail
  go_ret
  exact ⟨rfl, rfl⟩

set_option maxHeartbeats 800000 in
theorem rturn_n3 (g qb off n c L mc : Nat) (mA : Option Addr) (e i at_ y : Int) (w : World) (h0 : 0 ≤ e) (h1 : e < 2) (H : HidP (Calls Try.prog 49 #[.pointer (some ⟨g, 0, none⟩), .int .i64 e, .int .i64 i] w fun e w' => e = .returned (.bool true) ∧ w = w')) (g1 : decide (at_ < 0) = false) (g2 : decide (at_ ≥ (L : Int)) = true)
    (cg : w.cell? ⟨g, 1 + e.toNat, none⟩ = some (.slice (some ⟨qb, off, none⟩) n c)) (i0 : 0 ≤ i) (i1 : i < (n : Int)) (cm : w.cell? ⟨qb, off + i.toNat, none⟩ = some (.slice mA L mc)) :
    Calls Try.prog 35 #[.pointer (some ⟨g, 0, none⟩), .int .i64 e, .int .i64 i, .int .i64 at_, .int .u8 y] w fun e w' => e = .returned (.bool false) ∧ w = w' := by
  go_enter Try.func35, Try.ntmps35
  go_wp2_with fail
  refine H.out.mono ?_; rintro e w' ⟨rfl, rfl⟩
  go_wp2_with fail
  go_ret
  exact ⟨rfl, rfl⟩

theorem rturn_no {w : World} {R : Nat → Prop} {g : Nat} {room : Int} {q : Bool → Value} {cut : Bool} {sent bytes : Int} {vs : Bool → List Value} {ms : Bool → List (List Int)} (h : RN w R g room q cut sent bytes vs ms) (e i a y : Int)
    (hi : offEnd e ∨ ∃ t, e = endI t ∧ ∀ k : Nat, i = k → ∀ hk : k < (ms t).length, ¬ (0 ≤ a ∧ a < (ms t)[k].length)) : Calls Try.prog 35 #[.pointer (some ⟨g, 0, none⟩), .int .i64 e, .int .i64 i, .int .i64 a, .int .u8 y] w fun e w' => e = .returned (.bool false) ∧ w = w' := by
  rcases hi with hi | ⟨t, rfl, hi⟩
  · exact rturn_n1 _ e i a y w (hid (h.has e i false (.inl ⟨hi, rfl⟩)))
  · by_cases hX : 0 ≤ i ∧ i < (ms t).length
    · have H := h.has (endI t) i true (.inr ⟨t, rfl, (decide_eq_true hX).symm⟩)
      obtain ⟨k, rfl⟩ : ∃ k : Nat, i = k := ⟨i.toNat, by omega⟩
      have hk : k < (ms t).length := by omega
      have hA := hi k rfl hk
      by_cases ha : a < 0
      · exact rturn_n2 _ _ _ a y w (hid H) (decide_eq_true ha)
      · obtain ⟨A, c, hqt, hq, hr⟩ := h.q_at t
        obtain ⟨qb, off, rfl⟩ := hr.someOf (by omega)
        obtain ⟨mA, mc, hvi, hri⟩ := h.msg_at t hk
        have cm := (hr.cellAt hvi).1
        have ⟨e0, e1⟩ := endI_range t
        exact rturn_n3 g qb off (ms t).length c (ms t)[k].length mc mA (endI t) k a y w e0 e1 (hid H) (decide_eq_false ha) (decide_eq_true (by omega)) hq (by omega) (by omega) cm
    · exact rturn_n1 _ _ i a y w (hid (h.has _ i false (.inr ⟨t, rfl, (decide_eq_false hX).symm⟩)))

set_option maxRecDepth 100000 in
set_option maxHeartbeats 1600000 in
theorem rturn1 (g qb off n c i a mb mo mc : Nat) (e y : Int) (vs : List Value) (m : List Int) (w : World) (h0 : 0 ≤ e) (h1 : e < 2) (H : HidP (Calls Try.prog 49 #[.pointer (some ⟨g, 0, none⟩), .int .i64 e, .int .i64 i] w fun e w' => e = .returned (.bool true) ∧ w = w'))
    (cg : w.cell? ⟨g, 1 + e.toNat, none⟩ = some (.slice (some ⟨qb, off, none⟩) n c)) (fg : w.frozen? ⟨g, 1 + e.toNat, none⟩ = false) (hr : Row w 28 1 (.slice (some ⟨qb, off, none⟩) n c) vs) (hs : ∀ v ∈ vs, ∃ A n c, v = .slice A n c) (hi : i < vs.length) (hn : vs.length ≤ 1000)
    (hv : vs[i]? = some (.slice (some ⟨mb, mo, none⟩) m.length mc)) (hm : Row w 5 1 (.slice (some ⟨mb, mo, none⟩) m.length mc) (nums m)) (ha : a < m.length) (hml : m.length ≤ 60000) :
    Calls Try.prog 35 #[.pointer (some ⟨g, 0, none⟩), .int .i64 e, .int .i64 i, .int .i64 a, .int .u8 y] w fun e' w' => e' = .returned (.bool true) ∧ ∃ q' b w2, w' = w2.setCell ⟨g, 1 + e.toNat, none⟩ q' ∧ Row w2 5 1 b (nums (m.set a (bits .xor .u8 m[a] y))) ∧ Row w2 28 1 q' (vs.set i b) ∧ Below w.heap.size w w2 ∧ (∀ k, q'.ownBlock = some k → w.heap.size ≤ k) ∧ (∀ k, b.ownBlock = some k → w.heap.size ≤ k) := by
  obtain ⟨i0, hi0, hz0, hz1, hz2⟩ := info_parts info28
  obtain ⟨j0, hj0, hy0, hy1, hy2⟩ := info_parts info5
  have lg := World.block_lt_of_cell? w _ cg
  obtain rfl : n = vs.length := by obtain ⟨_, _, _, hv, hl, _⟩ := id hr; cases hv; omega
  have o1 := slices_one hs
  have hc1 : ([] : List Value).length + vs.length ≤ maxLen := by simp only [List.length_nil, maxLen]; omega
  have hc2 : (([] : List Value).length + vs.length) * 24 ≤ 140737488355328 := by simp only [List.length_nil]; omega
  have hd1 : ([] : List Value).length + (nums m).length ≤ maxLen := by simp only [List.length_nil, nums_length, maxLen]; omega
  have hd2 : (([] : List Value).length + (nums m).length) * 1 ≤ 140737488355328 := by simp only [List.length_nil, nums_length]; omega
  have hB1 : Below w.heap.size w (w.alloc (.cells #[] 5 (0, 0))) := (Below.refl _ _).alloc (Nat.le_refl _) _
  have cg1 := cellA cg (.cells #[] 5 (0, 0))
  have cv := (hr.cellAt hv).1
  have cv1 := cellA cv (.cells #[] 5 (0, 0))
  have i1 : (0 : Int) ≤ (i : Int) := by omega
  have i2 : (i : Int) < (vs.length : Int) := by omega
  have a1 : (0 : Int) ≤ (a : Int) := by omega
  have a2 : (a : Int) < (m.length : Int) := by omega
  have g1 : decide ((a : Int) < 0) = false := by simp
  have g2 : decide ((a : Int) ≥ (m.length : Int)) = false := by simp; omega
  go_enter Try.func35, Try.ntmps35
  go_wp2_with fail
  refine H.out.mono ?_; rintro e w' ⟨rfl, rfl⟩
  go_wp2_with (at_builtin; refine wpList_append_row _ rfl _ _ 28 rfl 5 j0 (.int .u8 0) 1 1 Try.underlying28 hj0 hy0 hy1 hy2 rfl (by decide) (.slice (some ⟨w.heap.size, 0, none⟩) 0 0) [] rfl (Row.ofBlock (n := 0) (heap_alloc_new w _) rfl (by decide)) (.slice (some ⟨mb, mo, none⟩) m.length mc) (nums m) rfl (by exact (hm.below hB1).src) (nums_one m) hd1 hd2 ?_; intro bA bn bc w2 hr2 hg2 ha2)
  have hb2 : Below w.heap.size w w2 := Below.grownNew hB1 hg2 (by simp) (by intro k hk; simp [Value.ownBlock] at hk; omega)
  have hf2 : ∀ k, (Value.slice bA bn bc).ownBlock = some k → w.heap.size ≤ k := fresh_of (B := w.heap.size) ha2 (by intro k hk; simp [Value.ownBlock] at hk; omega) (by simp)
  clear hg2 ha2
  rw [List.nil_append] at hr2
  obtain rfl : bn = m.length := by obtain ⟨_, _, _, hv, hl, _⟩ := id hr2; cases hv; simpa [nums] using hl.symm
  obtain ⟨b2, o2, rfl⟩ := hr2.someOf (by omega)
  have hge := hf2 b2 rfl
  obtain ⟨cp, fz⟩ := hr2.cellAt (i := a) (u := .int .u8 m[a]) (by simp [nums, ha])
  have fp := fz (o2 + a)
  have hr3 := hr2.setOne (.int .u8 (bits .xor .u8 m[a] y)) ha
  rw [show (nums m).set a (.int .u8 (bits .xor .u8 m[a] y)) = nums (m.set a (bits .xor .u8 m[a] y)) by simp [nums, List.map_set]] at hr3
  have hb3 := hb2.setCell (p := ⟨b2, o2 + a, none⟩) hge (.int .u8 (bits .xor .u8 m[a] y))
  generalize hw3 : w2.setCell ⟨b2, o2 + a, none⟩ (.int .u8 (bits .xor .u8 m[a] y)) = w3 at hr3 hb3
  have cg3 := (hb3.cell (p := ⟨g, 1 + e.toNat, none⟩) lg).trans cg
  have cg3a := cellA cg3 (.cells #[] 28 (0, 0))
  have hB3 := hb3.alloc hb3.size (.cells #[] 28 (0, 0))
  have hrB := (hr.below hB3).src
  clear hr2 fz hB1 cg1 cv1 hm hd1 hd2 hb2 hs
  go_simp
  go_wp2_with (at_builtin; refine wpList_append_row _ rfl _ _ 22 rfl 28 i0 (.slice none 0 0) 1 24 Try.underlying22 hi0 hz0 hz1 hz2 rfl (by decide) (.slice (some ⟨w3.heap.size, 0, none⟩) 0 0) [] rfl (Row.ofBlock (n := 0) (heap_alloc_new w3 _) rfl (by decide)) (.slice (some ⟨qb, off, none⟩) vs.length c) vs rfl (by exact hrB) o1 hc1 hc2 ?_; intro qA qn qc w4 hr4 hg4 ha4)
  have hb4 : Below w.heap.size w w4 := Below.grownNew hB3 hg4 (by have := hb3.size; simp; omega) (by have := hb3.size; intro k hk; simp [Value.ownBlock] at hk; omega)
  have hf4 : ∀ k, (Value.slice qA qn qc).ownBlock = some k → w.heap.size ≤ k := fresh_of (B := w.heap.size) ha4 (by have := hb3.size; intro k hk; simp [Value.ownBlock] at hk; omega) (by have := hb3.size; simp; omega)
  have hr3' : Row w4 5 1 (.slice (some ⟨b2, o2, none⟩) m.length bc) (nums (m.set a (bits .xor .u8 m[a] y))) := (hr3.keep fun k hk => Below.heap_alloc w3 _ _ (hr3.lt k hk)).keep fun k hk => hg4.block k (by have := hr3.lt k hk; simp; omega) (by have := hr3.lt k hk; intro e; simp [Value.ownBlock] at e; omega)
  clear hg4 ha4
  rw [List.nil_append] at hr4
  obtain rfl : qn = vs.length := by obtain ⟨_, _, _, hv, hl, _⟩ := id hr4; cases hv; omega
  obtain ⟨b4, o4, rfl⟩ := hr4.someOf (by omega)
  have hge4 := hf4 b4 rfl
  obtain ⟨ci, fz⟩ := hr4.cellAt hv
  have fi := fz (o4 + i)
  have hr5 := hr4.setOne (.slice (some ⟨b2, o2, none⟩) m.length bc) hi
  have hb5 := hb4.setCell (p := ⟨b4, o4 + i, none⟩) hge4 (.slice (some ⟨b2, o2, none⟩) m.length bc)
  have hr3'' : Row (w4.setCell ⟨b4, o4 + i, none⟩ (.slice (some ⟨b2, o2, none⟩) m.length bc)) 5 1 (.slice (some ⟨b2, o2, none⟩) m.length bc) (nums (m.set a (bits .xor .u8 m[a] y))) := hr3'.keep fun k hk => Below.heap_setCell _ _ _ _ (by
    rintro rfl; exact hr3'.neRow hr4 (by decide) hk rfl)
  have cg5 := (hb5.cell (p := ⟨g, 1 + e.toNat, none⟩) lg).trans cg
  have fg5 := (hb5.frozen (p := ⟨g, 1 + e.toNat, none⟩) lg).trans fg
  have HR := hid hr5
  have HM := hid hr3''
  clear hr4 hr5 hr3 hr3' hr3'' hv hr o1 fz hrB
  go_wp2_with fail
  try go_simp
  go_wp2_with fail
  go_ret
  exact ⟨rfl, _, _, _, rfl, HM.out, HR.out, hb5, hf4, hf2⟩

theorem rturn_yes {w : World} {R : Nat → Prop} {g : Nat} {room : Int} {q : Bool → Value} {cut : Bool} {sent bytes : Int} {vs : Bool → List Value} {ms : Bool → List (List Int)} (h : RN w R g room q cut sent bytes vs ms) (e : Int) (t : Bool) (he : e = endI t) (i a : Nat) (y : Int)
    (hi : i < (ms t).length) (ha : a < (ms t)[i].length) (hn : (ms t).length ≤ 1000) (hml : (ms t)[i].length ≤ 60000) : Calls Try.prog 35 #[.pointer (some ⟨g, 0, none⟩), .int .i64 e, .int .i64 i, .int .i64 a, .int .u8 y] w fun e w' => e = .returned (.bool true) ∧
      (∃ q' vs', RN w' (ext R w w') g room q' cut sent bytes vs' (upd ms t ((ms t).set i ((ms t)[i].set a (bits .xor .u8 (ms t)[i][a] y))))) ∧ Keep (· ≠ g) w w' := by
  subst he
  have ⟨e0, e1⟩ := endI_range t
  obtain ⟨A, c, hqt, hq, hr⟩ := h.q_at t
  obtain ⟨qb, off, rfl⟩ := hr.someOf (by omega)
  have H := h.has (endI t) i true (.inr ⟨t, rfl, by simp [hi]⟩)
  have hlen := h.len t
  obtain ⟨mA, mc, hvi, hri⟩ := h.msg_at t hi
  obtain ⟨mb, mo, rfl⟩ := hri.someOf (by omega)
  refine (rturn1 g qb off (ms t).length c i a mb mo mc (endI t) y (vs t) (ms t)[i] w e0 e1 (hid H) hq (h.free _) hr (h.slices t) (by omega) (by omega) hvi hri ha hml).mono ?_
  rintro e w' ⟨rfl, q', b, w2, hw', hb, hrow, hbel, hfr, hfb⟩
  have hX := h.queue t hw' hbel hrow (fun k hk => .inr (hfr k hk)) (ms' := (ms t).set i ((ms t)[i].set a (bits .xor .u8 (ms t)[i][a] y))) (by simp [hlen]) (fun j u m hu hm => by
      by_cases hj : i = j
      · subst hj
        rw [List.getElem?_set_self (by omega)] at hu hm
        cases hu; cases hm
        exact hb
      · rw [List.getElem?_set_ne hj] at hu hm
        exact (h.msg t j u m hu hm).below hbel) (fun j u k hu hk => by
      by_cases hj : i = j
      · subst hj
        rw [List.getElem?_set_self (by omega)] at hu
        cases hu
        exact .inr (hfb k hk)
      · rw [List.getElem?_set_ne hj] at hu
        exact .inl (h.mR t j u k hu hk))
  exact ⟨rfl, ⟨_, _, hX.1⟩, hX.2⟩

end Go.Proofs.Ytodbnmigdnmjnaa
