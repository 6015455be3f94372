/- the reference's Again, Swap -/
import Derived.Test.YtodbnmigdnmjnaaY3
namespace Go.Proofs.Ytodbnmigdnmjnaa
open Go.RowKit

set_option maxHeartbeats 400000 in
theorem ragain_no {w : World} {R : Nat → Prop} {g : Nat} {room : Int} {q : Bool → Value} {cut : Bool} {sent bytes : Int} {vs : Bool → List Value} {ms : Bool → List (List Int)} (h : RN w R g room q cut sent bytes vs ms) (e i : Int)
    (hi : offEnd e ∨ ∃ t, e = endI t ∧ ¬ (0 ≤ i ∧ i < (ms t).length)) : Calls Try.prog 33 #[.pointer (some ⟨g, 0, none⟩), .int .i64 e, .int .i64 i] w fun e w' => e = .returned (.bool false) ∧ w = w' := by
  have H := hid (h.has e i false (by
    rcases hi with hi | ⟨t, rfl, hi⟩
    · exact .inl ⟨hi, rfl⟩
    · exact .inr ⟨t, rfl, by simp only [hi, decide_false]⟩))
  clear h hi
  go_enter Try.func33, Try.ntmps33
  go_wp2_with (go_at_call 49; refine H.out.mono ?_; rintro e w' ⟨rfl, rfl⟩)
  go_ret
  exact ⟨rfl, rfl⟩

set_option maxHeartbeats 400000 in
theorem ragain_run {w : World} {R : Nat → Prop} {g : Nat} {room : Int} {q : Bool → Value} {cut : Bool} {sent bytes : Int} {vs : Bool → List Value} {ms : Bool → List (List Int)} (h : RN w R g room q cut sent bytes vs ms) (e : Int) (t : Bool) (he : e = endI t) (i : Nat)
    (hi : i < (ms t).length) (f : Int) (r : World → Prop)
    (hput : ∀ (v : Value), Src w 1 v (nums (ms t)[i]) → Calls Try.prog 48 #[.pointer (some ⟨g, 0, none⟩), .int .i64 e, v] w fun e w' => e = .returned (.int .i64 f) ∧ r w') :
    Calls Try.prog 33 #[.pointer (some ⟨g, 0, none⟩), .int .i64 e, .int .i64 i] w fun e w' => e = .returned (.bool (f == 0)) ∧ r w' := by
  subst he
  have ⟨e0, e1⟩ := endI_range t
  obtain ⟨A, c, hqt, hq, hr⟩ := h.q_at t
  obtain ⟨qb, off, rfl⟩ := hr.someOf (by omega)
  have H := hid (h.has (endI t) i true (.inr ⟨t, rfl, by simp [hi]⟩))
  obtain ⟨vA, vc, hv, hrm⟩ := h.msg_at t hi
  have cm := (hr.cellAt hv).1
  have H2 := hid (hput _ hrm.src)
  have i0 : (0 : Int) ≤ (i : Int) := by omega
  have i1 : (i : Int) < ((ms t).length : Int) := by omega
  clear hput hrm hv hr hqt h
  go_enter Try.func33, Try.ntmps33
  go_wp2_with (go_at_call 49; refine H.out.mono ?_; rintro e w' ⟨rfl, rfl⟩)
  refine H2.out.mono ?_
  rintro e w' ⟨rfl, hr⟩
  go_wp2_with fail
  go_ret
  exact ⟨rfl, hr⟩

set_option maxHeartbeats 800000 in
theorem rswap_no {w : World} {R : Nat → Prop} {g : Nat} {room : Int} {q : Bool → Value} {cut : Bool} {sent bytes : Int} {vs : Bool → List Value} {ms : Bool → List (List Int)} (h : RN w R g room q cut sent bytes vs ms) (e i j : Int)
    (hi : offEnd e ∨ ∃ t, e = endI t ∧ (¬ (0 ≤ i ∧ i < (ms t).length) ∨ ¬ (0 ≤ j ∧ j < (ms t).length))) : Calls Try.prog 34 #[.pointer (some ⟨g, 0, none⟩), .int .i64 e, .int .i64 i, .int .i64 j] w fun e w' => e = .returned (.bool false) ∧ w = w' := by
  by_cases hX : ∃ t, e = endI t ∧ (0 ≤ i ∧ i < (ms t).length)
  · obtain ⟨t, he, hX⟩ := hX
    have hJ : ¬ (0 ≤ j ∧ j < (ms t).length) := by
      rcases hi with hi | ⟨t', he', hi⟩
      · subst he; exact absurd hi (by cases t <;> simp [offEnd, endI])
      · have : t' = t := by rw [he] at he'; cases t <;> cases t' <;> simp_all [endI]
        subst this
        rcases hi with hi | hi
        · exact absurd hX hi
        · exact hi
    have H := hid (h.has e i true (.inr ⟨t, he, by simp only [hX]; simp⟩))
    have H2 := hid (h.has e j false (.inr ⟨t, he, by simp only [hJ, decide_false]⟩))
    clear h hi hX hJ he
    go_enter Try.func34, Try.ntmps34
    go_wp2_with fail
    refine H.out.mono ?_; rintro e w' ⟨rfl, rfl⟩
    go_wp2_with fail
    refine H2.out.mono ?_; rintro e w' ⟨rfl, rfl⟩
    go_wp2_with fail
    go_ret
    exact ⟨rfl, rfl⟩
  · have H := hid (h.has e i false (by
      rcases hi with hi | ⟨t, he, _⟩
      · exact .inl ⟨hi, rfl⟩
      · exact .inr ⟨t, he, by rw [decide_eq_false]; exact fun hh => hX ⟨t, he, hh⟩⟩))
    clear h hi hX
    go_enter Try.func34, Try.ntmps34
    go_wp2_with fail
    refine H.out.mono ?_; rintro e w' ⟨rfl, rfl⟩
    go_wp2_with fail
    go_ret
    exact ⟨rfl, rfl⟩

set_option maxRecDepth 100000 in
set_option maxHeartbeats 1600000 in
theorem rswap1 (g qb off n c i j : Nat) (e : Int) (vs : List Value) (w : World) (h0 : 0 ≤ e) (h1 : e < 2) (H : HidP (Calls Try.prog 49 #[.pointer (some ⟨g, 0, none⟩), .int .i64 e, .int .i64 i] w fun e w' => e = .returned (.bool true) ∧ w = w'))
    (H2 : HidP (Calls Try.prog 49 #[.pointer (some ⟨g, 0, none⟩), .int .i64 e, .int .i64 j] w fun e w' => e = .returned (.bool true) ∧ w = w'))
    (cg : w.cell? ⟨g, 1 + e.toNat, none⟩ = some (.slice (some ⟨qb, off, none⟩) n c)) (fg : w.frozen? ⟨g, 1 + e.toNat, none⟩ = false) (hr : Row w 28 1 (.slice (some ⟨qb, off, none⟩) n c) vs) (hs : ∀ v ∈ vs, ∃ A n c, v = .slice A n c) (hi : i < vs.length) (hj : j < vs.length) (hn : vs.length ≤ 1000) :
    Calls Try.prog 34 #[.pointer (some ⟨g, 0, none⟩), .int .i64 e, .int .i64 i, .int .i64 j] w fun e' w' => e' = .returned (.bool true) ∧ ∃ q' w2, w' = w2.setCell ⟨g, 1 + e.toNat, none⟩ q' ∧ Row w2 28 1 q' (swapped vs i j hi hj) ∧ Below w.heap.size w w2 ∧ (∀ k, q'.ownBlock = some k → w.heap.size ≤ k) := by
  obtain ⟨i0, hi0, hz0, hz1, hz2⟩ := info_parts info28
  have lg := World.block_lt_of_cell? w _ cg
  obtain rfl : n = vs.length := by obtain ⟨_, _, _, hv, hl, _⟩ := id hr; cases hv; omega
  have o1 := slices_one hs
  have hc1 : ([] : List Value).length + vs.length ≤ maxLen := by simp only [List.length_nil, maxLen]; omega
  have hc2 : (([] : List Value).length + vs.length) * 24 ≤ 140737488355328 := by simp only [List.length_nil]; omega
  have hB1 : Below w.heap.size w (w.alloc (.cells #[] 28 (0, 0))) := (Below.refl _ _).alloc (Nat.le_refl _) _
  have cg1 := cellA cg (.cells #[] 28 (0, 0))
  obtain ⟨iA, in_, ic, hvi⟩ := hs vs[i] (List.getElem_mem hi)
  obtain ⟨jA, jn, jc, hvj⟩ := hs vs[j] (List.getElem_mem hj)
  have hvi2 : vs[i]? = some (.slice iA in_ ic) := by rw [← hvi]; exact List.getElem?_eq_getElem hi
  have hvj2 : vs[j]? = some (.slice jA jn jc) := by rw [← hvj]; exact List.getElem?_eq_getElem hj
  have hsw0 : swapped vs i j hi hj = (vs.set i (.slice jA jn jc)).set j (.slice iA in_ ic) := by unfold swapped; rw [hvi, hvj]
  have i1 : (0 : Int) ≤ (i : Int) := by omega
  have i2 : (i : Int) < (vs.length : Int) := by omega
  have j1 : (0 : Int) ≤ (j : Int) := by omega
  have j2 : (j : Int) < (vs.length : Int) := by omega
  have hsw := hid hsw0
  clear hsw0 hvi hvj
  go_enter Try.func34, Try.ntmps34
  go_wp2_with fail
  refine H.out.mono ?_; rintro e w' ⟨rfl, rfl⟩
  go_wp2_with fail
  refine H2.out.mono ?_; rintro e w' ⟨rfl, rfl⟩
  go_wp2_with (at_builtin; refine wpList_append_row _ rfl _ _ 22 rfl 28 i0 (.slice none 0 0) 1 24 Try.underlying22 hi0 hz0 hz1 hz2 rfl (by decide) (.slice (some ⟨w.heap.size, 0, none⟩) 0 0) [] rfl (Row.ofBlock (n := 0) (heap_alloc_new w _) rfl (by decide)) (.slice (some ⟨qb, off, none⟩) vs.length c) vs rfl (by exact (hr.below hB1).src) o1 hc1 hc2 ?_; intro bA bn bc w2 hr2 hg2 ha2)
  have hb2 : Below w.heap.size w w2 := Below.grownNew hB1 hg2 (by simp) (by intro k hk; simp [Value.ownBlock] at hk; omega)
  have hf2 : ∀ k, (Value.slice bA bn bc).ownBlock = some k → w.heap.size ≤ k := fresh_of (B := w.heap.size) ha2 (by intro k hk; simp [Value.ownBlock] at hk; omega) (by simp)
  clear hg2 ha2
  rw [List.nil_append] at hr2
  obtain rfl : bn = vs.length := by obtain ⟨_, _, _, hv, hl, _⟩ := id hr2; cases hv; omega
  obtain ⟨b2, o2, rfl⟩ := hr2.someOf (by omega)
  have hge := hf2 b2 rfl
  obtain ⟨ci, fz⟩ := hr2.cellAt hvi2
  have cj := (hr2.cellAt hvj2).1
  have fi := fz (o2 + i)
  have hr3 := hr2.setOne (.slice jA jn jc) hi
  obtain ⟨u3, cj3⟩ : ∃ u, (w2.setCell ⟨b2, o2 + i, none⟩ (.slice jA jn jc)).cell? ⟨b2, o2 + j, none⟩ = some u := ⟨_, (hr3.cellAt (i := j) (List.getElem?_eq_getElem (by simpa using hj))).1⟩
  have fj3 := (hr3.cellAt (i := j) (List.getElem?_eq_getElem (by simpa using hj))).2 (o2 + j)
  have hr4 := hr3.setOne (.slice iA in_ ic) hj
  have hb3 := hb2.setCell (p := ⟨b2, o2 + i, none⟩) hge (.slice jA jn jc)
  have hb4 := hb3.setCell (p := ⟨b2, o2 + j, none⟩) hge (.slice iA in_ ic)
  have cg4 := (hb4.cell (p := ⟨g, 1 + e.toNat, none⟩) lg).trans cg
  have fg4 := (hb4.frozen (p := ⟨g, 1 + e.toNat, none⟩) lg).trans fg
  rw [← hsw.out] at hr4
  have HR := hid hr4
  clear hr2 hr3 hr4 hvi2 hvj2 hr o1 fz hc1 hc2 hs hb2 hb3 hi0 hz0 hz1 hz2 cg1 hB1 hn hge hsw cg fg
  go_wp2_with fail
  go_simp
  go_wp2_with fail
  go_ret
  exact ⟨rfl, _, _, rfl, HR.out, hb4, hf2⟩

theorem rswap_yes {w : World} {R : Nat → Prop} {g : Nat} {room : Int} {q : Bool → Value} {cut : Bool} {sent bytes : Int} {vs : Bool → List Value} {ms : Bool → List (List Int)} (h : RN w R g room q cut sent bytes vs ms) (e : Int) (t : Bool) (he : e = endI t) (i j : Nat)
    (hi : i < (ms t).length) (hj : j < (ms t).length) (hr1 : (ms t).length ≤ 1000) : Calls Try.prog 34 #[.pointer (some ⟨g, 0, none⟩), .int .i64 e, .int .i64 i, .int .i64 j] w fun e w' => e = .returned (.bool true) ∧
      (∃ q' vs', RN w' (ext R w w') g room q' cut sent bytes vs' (upd ms t (swapped (ms t) i j hi hj))) ∧ Keep (· ≠ g) w w' := by
  subst he
  have ⟨e0, e1⟩ := endI_range t
  obtain ⟨A, c, hqt, hq, hr⟩ := h.q_at t
  obtain ⟨qb, off, rfl⟩ := hr.someOf (by omega)
  have H := h.has (endI t) i true (.inr ⟨t, rfl, by simp [hi]⟩)
  have H2 := h.has (endI t) j true (.inr ⟨t, rfl, by simp [hj]⟩)
  have hlen := h.len t
  refine (rswap1 g qb off (ms t).length c i j (endI t) (vs t) w e0 e1 (hid H) (hid H2) hq (h.free _) hr (h.slices t) (by omega) (by omega) (by omega)).mono ?_
  rintro e w' ⟨rfl, q', w2, hw', hrow, hbel, hfr⟩
  have hX := h.queue t hw' hbel hrow (fun k hk => .inr (hfr k hk)) (ms' := swapped (ms t) i j hi hj) (by simp [swapped, hlen]) (fun k u m hu hm =>
      (h.msg t _ u m (swapped_get hu) (swapped_get hm)).below hbel) (fun k u b hu hk => .inl (h.mR t _ u b (swapped_get hu) hk))
  exact ⟨rfl, ⟨_, _, hX.1⟩, hX.2⟩

end Go.Proofs.Ytodbnmigdnmjnaa
