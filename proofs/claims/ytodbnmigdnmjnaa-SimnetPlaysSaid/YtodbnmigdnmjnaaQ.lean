/- Drop, Again, Swap, Turn of a net that is there -/
import Derived.Test.YtodbnmigdnmjnaaO
import Derived.StillTailTactics
namespace Go.Proofs.Ytodbnmigdnmjnaa
open Go.RowKit

theorem Row.someOf {w : World} {e : TypeId} {A : Option Addr} {n c : Nat} {xs : List Value} (h : Row w e 1 (.slice A n c) xs) (hn : 0 < n) : ∃ b off, A = some ⟨b, off, none⟩ := by
  obtain ⟨_, _, _, hv, hl, hnc, hcm, hh⟩ := h
  cases hv
  rcases hh with ⟨h1, h2⟩ | ⟨b, off, cs, h1, _⟩
  · omega
  · exact ⟨b, off, h1⟩

theorem Core.slices {w : World} {R : Nat → Prop} {q : Bool → Value} {vs : Bool → List Value} {ms : Bool → List (List Int)} (h : Core w R q vs ms) (t : Bool) : ∀ v ∈ vs t, ∃ A n c, v = .slice A n c := by
  intro v hv
  obtain ⟨i, hi, rfl⟩ := List.getElem_of_mem hv
  obtain ⟨m, _, hr⟩ := h.some_msg (e := t) (i := i) (v := (vs t)[i]) (by simp [hi])
  obtain ⟨A, n, c, hv', _⟩ := hr
  exact ⟨A, n, c, hv'⟩

set_option maxRecDepth 100000 in
set_option maxHeartbeats 1600000 in
theorem drop1_any (g k B qb off n c i : Nat) (vs : List Value) (cs : Array Value) (w : World) (hg : w.heap[g]? = some (.cells cs 59 (0, 0))) (hB : w.heap[B]? = some (.cells #[.int .i64 i] 3 (0, 0)))
    (hq : cs[1 + k]? = some (.slice (some ⟨qb, off, none⟩) n c)) (hr : Row w 28 1 (.slice (some ⟨qb, off, none⟩) n c) vs) (hi : i < n) (hn : vs.length ≤ 1000) (hs : ∀ v ∈ vs, ∃ A n c, v = .slice A n c) :
    Calls Try.prog 38 #[.pointer (some ⟨g, 1 + k, none⟩), .pointer (some ⟨B, 0, none⟩)] w fun e w' => e = .returned (.bool true) ∧
      ∃ q' w2, w' = w2.setCell ⟨g, 1 + k, none⟩ q' ∧ Row w2 28 1 q' (vs.eraseIdx i) ∧ Below w.heap.size w w2 ∧ ∃ kk, q'.ownBlock = some kk ∧ w.heap.size ≤ kk := by
  obtain rfl : n = vs.length := by obtain ⟨_, _, _, hv, hl, _⟩ := id hr; cases hv; omega
  have cg : w.cell? ⟨g, 1 + k, none⟩ = some (.slice (some ⟨qb, off, none⟩) vs.length c) := (blkCell hg _).trans hq
  have cB : w.cell? ⟨B, 0, none⟩ = some (.int .i64 i) := (blkCell hB 0).trans rfl
  have fg := blkFree hg (1 + k)
  have lg := blkLt hg
  have lB := blkLt hB
  have hi1 : (i : Int) + 1 ≤ 1000 := by omega
  have hi0 : (0 : Int) ≤ (i : Int) := by omega
  have hsrc := hr.src
  have HG := hid hg
  clear hg hq hB
  go_enter Try.func38, Try.ntmps38
  go_wp2_with fail
  have hw : IntKind.i64.wrap ((i : Int) + 1) = (i : Int) + 1 := IntWalk.i64_in _ (by omega)
  go_region_law (first | (refine step_call (by rfl) 40 _ _ (by rfl) Try.func40 (by kernel_rfl) (by kernel_rfl) [.slice (some ⟨qb, off, none⟩) vs.length c] (by rfl) (clone2_any ⟨qb, off, none⟩ vs.length c vs _ (by exact hsrc.keep (fun _ _ _ => rfl)) hn hs) ?_; rintro e w1 ⟨vA, vc, rfl, hr1, hb1, hf1⟩; replace hb1 : Below w.heap.size w w1 := ⟨hb1.os, hb1.tape, hb1.output, hb1.size, hb1.block⟩; replace hf1 : ∀ k, (Value.slice vA vs.length vc).ownBlock = some k → w.heap.size ≤ k := hf1; refine ⟨_, rfl, ?_⟩; obtain ⟨b1, o1, rfl⟩ := hr1.someOf (by omega); have cB1 : w1.cell? ⟨B, 0, none⟩ = some (.int .i64 i) := (hb1.cell (p := ⟨B, 0, none⟩) lB).trans cB) | (refine step_call (by rfl) 39 _ _ (by rfl) Try.func39 (by kernel_rfl) (by kernel_rfl) [.slice (some ⟨b1, o1, none⟩) vs.length vc, .int .i64 i, .int .i64 (i + 1)] (by rfl) (delete_any b1 o1 vs.length vc i vs _ hr1 hn hs hi) ?_; rintro e w2 ⟨rfl, hr2, hk2⟩; refine ⟨_, rfl, ?_⟩; have hb2 : Below w.heap.size w w2 := ⟨hk2.os.trans hb1.os, hk2.tape.trans hb1.tape, hk2.output.trans hb1.output, Nat.le_trans hb1.size hk2.size, fun k hk => (hk2.block k (Nat.lt_of_lt_of_le hk hb1.size) (by have := hf1 b1 rfl; omega)).trans (hb1.block k hk)⟩; have fg2 : w2.frozen? ⟨g, 1 + k, none⟩ = false := (hb2.frozen (p := ⟨g, 1 + k, none⟩) lg).trans fg; have cg2 : w2.cell? ⟨g, 1 + k, none⟩ = some (.slice (some ⟨qb, off, none⟩) vs.length c) := (hb2.cell (p := ⟨g, 1 + k, none⟩) lg).trans cg) | fail)
  all_goals
    clear hw
    go_wp2_with fail
    go_ret
    exact ⟨rfl, _, w2, rfl, hr2, hb2, b1, rfl, hf1 b1 rfl⟩

theorem PN.index {w : World} {R : Nat → Prop} {g : Nat} {room : Int} {q : Bool → Value} {cut : Bool} {sent bytes : Int} {vs : Bool → List Value} {ms : Bool → List (List Int)} (h : PN w R g room q cut sent bytes vs ms) (t : Bool) (hn : 0 < (ms t).length) :
    ∃ b off c, q t = .slice (some ⟨b, off, none⟩) (ms t).length c ∧ (netCells room q cut sent bytes)[1 + (endI t).toNat]? = some (.slice (some ⟨b, off, none⟩) (ms t).length c) ∧ Row w 28 1 (.slice (some ⟨b, off, none⟩) (ms t).length c) (vs t) := by
  obtain ⟨A, c, hq, _⟩ := h.q_at t
  have hr := h.core.row t
  rw [hq] at hr
  obtain ⟨b, off, rfl⟩ := hr.someOf hn
  exact ⟨b, off, c, hq, (netCells_q _ _ _ _ _ t).trans (by rw [hq]), hr⟩

/-- i is in the queue at that end; or not -/
theorem do_none_pn {w : World} {R : Nat → Prop} {g : Nat} {room : Int} {q : Bool → Value} {cut : Bool} {sent bytes : Int} {vs : Bool → List Value} {ms : Bool → List (List Int)} (h : PN w R g room q cut sent bytes vs ms) (e i : Int) (f : Value)
    (hi : offEnd e ∨ ∃ t, e = endI t ∧ ¬ (0 ≤ i ∧ i < (ms t).length)) : Calls Try.prog 28 #[.pointer (some ⟨g, 0, none⟩), .int .i64 e, .int .i64 i, f] w fun e w' => e = .returned (.bool false) ∧ w = w' := by
  rcases hi with hi | ⟨t, rfl, ht⟩
  · exact do_off _ _ _ _ _ hi
  · obtain ⟨A, c, hq, hcell⟩ := h.q_at t
    have ⟨e0, e1⟩ := endI_range t
    exact do_none g (endI t) i A (ms t).length c f w e0 e1 hcell ht

set_option maxHeartbeats 400000 in
theorem drop_no {w : World} {R : Nat → Prop} {g : Nat} {room : Int} {q : Bool → Value} {cut : Bool} {sent bytes : Int} {vs : Bool → List Value} {ms : Bool → List (List Int)} (h : PN w R g room q cut sent bytes vs ms) (e i : Int)
    (hi : offEnd e ∨ ∃ t, e = endI t ∧ ¬ (0 ≤ i ∧ i < (ms t).length)) : Calls Try.prog 20 #[.pointer (some ⟨g, 0, none⟩), .int .i64 e, .int .i64 i] w fun e w' => e = .returned (.bool false) ∧ PN w' R g room q cut sent bytes vs ms ∧ Below w.heap.size w w' := by
  have hmf := mkf
  have hp := h.alloc (.cells #[.int .i64 i] 3 (0, 0))
  have H := hid (do_none_pn hp e i (.func (.func 38) #[] #[.pointer (some ⟨w.heap.size, 0, none⟩)]) hi)
  clear h hi
  go_enter Try.func20, Try.ntmps20
  go_wp2_with (go_at_call 28; refine H.out.mono ?_; rintro e w' ⟨rfl, rfl⟩)
  go_ret
  exact ⟨rfl, hp, (Below.refl _ _).alloc (Nat.le_refl _) _⟩

set_option maxHeartbeats 800000 in
theorem drop_yes {w : World} {R : Nat → Prop} {g : Nat} {room : Int} {q : Bool → Value} {cut : Bool} {sent bytes : Int} {vs : Bool → List Value} {ms : Bool → List (List Int)} (h : PN w R g room q cut sent bytes vs ms) (e : Int) (t : Bool) (he : e = endI t) (i : Nat)
    (hi : i < (ms t).length) (hr1 : (ms t).length ≤ 1000) : Calls Try.prog 20 #[.pointer (some ⟨g, 0, none⟩), .int .i64 e, .int .i64 i] w fun e w' => e = .returned (.bool true) ∧
      (∃ q' vs', PN w' R g room q' cut sent bytes vs' (upd ms t ((ms t).eraseIdx i))) ∧ Keep R w w' := by
  subst he
  have hmf := mkf
  have hp := h.alloc (.cells #[.int .i64 i] 3 (0, 0))
  obtain ⟨b, off, c, hq, hqc, hrow⟩ := hp.index t (by omega)
  have ⟨e0, e1⟩ := endI_range t
  have hlv := h.core.len t
  have H := hid (do_some g (endI t) i (some ⟨b, off, none⟩) (ms t).length c 38 Try.f38 [.pointer (some ⟨w.heap.size, 0, none⟩)] _ true (w.alloc (.cells #[.int .i64 i] 3 (0, 0))) e0 e1 ((blkCell hp.net _).trans hqc) (by omega) (by omega) Try.func38 (by kernel_rfl) (by kernel_rfl)
    (drop1_any g (endI t).toNat w.heap.size b off (ms t).length c i (vs t) _ _ hp.net (heap_alloc_new w _) hqc hrow hi (by omega) (h.core.slices t)))
  clear hqc hrow
  go_enter Try.func20, Try.ntmps20
  go_wp2_with (go_at_call 28; refine H.out.mono ?_; rintro e w' ⟨rfl, q', w2, rfl, hr2, hb2, kk, hkk, hkl⟩)
  go_ret
  have hg2 : w2.heap[g]? = _ := (hb2.block g (blkLt hp.net)).trans hp.net
  have hk2 : Keep R w (w2.setCell ⟨g, 1 + (endI t).toNat, none⟩ q') := (((Keep.refl R w).alloc (.cells #[.int .i64 i] 3 (0, 0))).below hb2 fun k hk _ => by simp; omega).setCell (p := ⟨g, _, none⟩) (.inl h.gR) _
  refine ⟨rfl, ⟨upd q t q', upd vs t ((vs t).eraseIdx i), ?_, h.gR, fun k hk => Nat.lt_of_lt_of_le (h.Rlt k hk) hk2.size, ?_⟩, hk2⟩
  · have := blkSet hg2 (1 + (endI t).toNat) q'
    rw [netCells_set] at this; exact this
  · refine Core.set ?_ hg2 (by decide) (by decide) _ _
    refine hp.core.re (t := t) hp.Rlt (fun j => if j < i then j else j + 1) ?_ ?_ ?_ ?_ hr2 ⟨hb2.os, hb2.tape, hb2.output, hb2.size, fun k hk _ => hb2.block k hk⟩ (.inr ⟨kk, hkk, hkl⟩)
    · intro j v hv; rw [List.getElem?_eraseIdx] at hv; by_cases hj : j < i <;> simp [hj] at hv ⊢ <;> exact hv
    · intro j v hv; rw [List.getElem?_eraseIdx] at hv; by_cases hj : j < i <;> simp [hj] at hv ⊢ <;> exact hv
    · rw [List.length_eraseIdx, List.length_eraseIdx, hlv]
    · intro j j' _ _ hjj; by_cases h1 : j < i <;> by_cases h2 : j' < i <;> simp [h1, h2] at hjj <;> omega

set_option maxRecDepth 100000 in
set_option maxHeartbeats 1600000 in
theorem again1_any (g k B0 B1 B2 qb off n c i : Nat) (e0 f : Int) (vA : Option Addr) (vn vc : Nat) (w : World) (r : World → Prop)
    (cg : w.cell? ⟨g, 1 + k, none⟩ = some (.slice (some ⟨qb, off, none⟩) n c)) (c2 : w.cell? ⟨B2, 0, none⟩ = some (.func (.func 24) #[.pointer (some ⟨g, 0, none⟩)] #[])) (c0 : w.cell? ⟨B0, 0, none⟩ = some (.int .i64 e0)) (c1 : w.cell? ⟨B1, 0, none⟩ = some (.int .i64 i))
    (hv : w.cell? ⟨qb, off + i, none⟩ = some (.slice vA vn vc)) (hi : i < n) (hput : Calls Try.prog 24 #[.pointer (some ⟨g, 0, none⟩), .int .i64 e0, .slice vA vn vc] w.drew fun e w' => e = .returned (.int .i64 f) ∧ r w') :
    Calls Try.prog 41 #[.pointer (some ⟨g, 1 + k, none⟩), .pointer (some ⟨B2, 0, none⟩), .pointer (some ⟨B0, 0, none⟩), .pointer (some ⟨B1, 0, none⟩)] w fun e w' => e = .returned (.bool (f == 0)) ∧ r w' := by
  have i0 : (0 : Int) ≤ (i : Int) := by omega
  have i1 : (i : Int) < (n : Int) := by omega
  have HP := hid hput
  clear hput
  go_enter Try.func41, Try.ntmps41
  go_wp2_with fail
  go_still_tail 8, (by kernel_rfl)
  go_wp2_with fail
  refine HP.out.mono ?_
  rintro e w' ⟨rfl, hr⟩
  go_wp2_with fail
  go_ret
  exact ⟨rfl, hr⟩

theorem beq0 (f : Int) : (f == 0) = decide (f = 0) := by by_cases h : f = 0 <;> simp [h]

/-- the world in which Again's closure runs -/
def againW (w : World) (g : Nat) (e i : Int) : World := ((w.alloc (.cells #[.int .i64 e] 3 (0, 0))).alloc (.cells #[.int .i64 i] 3 (0, 0))).alloc (.cells #[.func (.func 24) #[.pointer (some ⟨g, 0, none⟩)] #[]] 29 (0, 0))
theorem againW_below (w : World) (g : Nat) (e i : Int) : Below w.heap.size w (againW w g e i) := (((Below.refl _ _).alloc (Nat.le_refl _) _).alloc (by simp) _).alloc (by simp; omega) _
theorem againW_cells (w : World) (g : Nat) (e i : Int) : (againW w g e i).cell? ⟨w.heap.size, 0, none⟩ = some (.int .i64 e) ∧ (againW w g e i).cell? ⟨w.heap.size + 1, 0, none⟩ = some (.int .i64 i) ∧
    (againW w g e i).cell? ⟨w.heap.size + 2, 0, none⟩ = some (.func (.func 24) #[.pointer (some ⟨g, 0, none⟩)] #[]) := by
  have h0 : (w.alloc (.cells #[.int .i64 e] 3 (0, 0))).cell? ⟨w.heap.size, 0, none⟩ = some (.int .i64 e) := blkCell (heap_alloc_new w _) 0
  have h1 : ((w.alloc (.cells #[.int .i64 e] 3 (0, 0))).alloc (.cells #[.int .i64 i] 3 (0, 0))).cell? ⟨w.heap.size + 1, 0, none⟩ = some (.int .i64 i) := by
    have := blkCell (heap_alloc_new (w.alloc (.cells #[.int .i64 e] 3 (0, 0))) (.cells #[.int .i64 i] 3 (0, 0))) 0
    simp
  refine ⟨cellA (cellA h0 _) _, cellA h1 _, ?_⟩
  have := blkCell (heap_alloc_new ((w.alloc (.cells #[.int .i64 e] 3 (0, 0))).alloc (.cells #[.int .i64 i] 3 (0, 0))) (.cells #[.func (.func 24) #[.pointer (some ⟨g, 0, none⟩)] #[]] 29 (0, 0))) 0
  simpa [againW] using this

theorem PN.below {w w' : World} {R : Nat → Prop} {g : Nat} {room : Int} {q : Bool → Value} {cut : Bool} {sent bytes : Int} {vs : Bool → List Value} {ms : Bool → List (List Int)} (h : PN w R g room q cut sent bytes vs ms) (hb : Below w.heap.size w w') : PN w' R g room q cut sent bytes vs ms :=
  ⟨(hb.block g (blkLt h.net)).trans h.net, h.gR, fun k hk => Nat.lt_of_lt_of_le (h.Rlt k hk) hb.size, h.core.keep fun k hk _ _ => hb.block k hk⟩

set_option maxHeartbeats 400000 in
theorem again_no {w : World} {R : Nat → Prop} {g : Nat} {room : Int} {q : Bool → Value} {cut : Bool} {sent bytes : Int} {vs : Bool → List Value} {ms : Bool → List (List Int)} (h : PN w R g room q cut sent bytes vs ms) (e i : Int)
    (hi : offEnd e ∨ ∃ t, e = endI t ∧ ¬ (0 ≤ i ∧ i < (ms t).length)) : Calls Try.prog 21 #[.pointer (some ⟨g, 0, none⟩), .int .i64 e, .int .i64 i] w fun e w' => e = .returned (.bool false) ∧ PN w' R g room q cut sent bytes vs ms ∧ Below w.heap.size w w' := by
  have hmf := mkf
  have hp := h.below (againW_below w g e i)
  have hbl := againW_below w g e i
  have H := do_none_pn hp e i (.func (.func 41) #[] #[.pointer (some ⟨w.heap.size + 2, 0, none⟩), .pointer (some ⟨w.heap.size, 0, none⟩), .pointer (some ⟨w.heap.size + 1, 0, none⟩)]) hi
  unfold againW at H hp hbl
  have HH := hid H
  clear h hi H
  go_enter Try.func21, Try.ntmps21
  go_wp2_with (go_at_call 28; refine HH.out.mono ?_; rintro e w' ⟨rfl, rfl⟩)
  go_ret
  exact ⟨rfl, hp, hbl⟩

theorem again_run {w : World} {R : Nat → Prop} {g : Nat} {room : Int} {q : Bool → Value} {cut : Bool} {sent bytes : Int} {vs : Bool → List Value} {ms : Bool → List (List Int)} (h : PN w R g room q cut sent bytes vs ms) (e : Int) (t : Bool) (he : e = endI t) (i : Nat)
    (hi : i < (ms t).length) (f : Int) (r : World → Prop)
    (hput : ∀ (W : World) (v : Value), PN W R g room q cut sent bytes vs ms → Keep R w W → Src W 1 v (nums (ms t)[i]) → Calls Try.prog 24 #[.pointer (some ⟨g, 0, none⟩), .int .i64 e, v] W fun e w' => e = .returned (.int .i64 f) ∧ r w') :
    Calls Try.prog 21 #[.pointer (some ⟨g, 0, none⟩), .int .i64 e, .int .i64 i] w fun e w' => e = .returned (.bool (f == 0)) ∧ r w' := by
  subst he
  have hmf := mkf
  have hbl := againW_below w g (endI t) i
  have hp := h.below hbl
  obtain ⟨b, off, c, hq, hqc, hrow⟩ := hp.index t (by omega)
  have ⟨e0, e1⟩ := endI_range t
  have hlv := h.core.len t
  obtain ⟨c0, c1, c2⟩ := againW_cells w g (endI t) i
  obtain ⟨v, hv⟩ : ∃ v, (vs t)[i]? = some v := ⟨(vs t)[i]'(by omega), by simp⟩
  have hrv := hp.core.msg t i v _ hv (by simp [hi] : (ms t)[i]? = some (ms t)[i])
  obtain ⟨vA, vn, vc, rfl, _⟩ := id hrv
  have hsv := hrow.src
  obtain ⟨_, _, _, hh, _, _, _, hcell⟩ := hsv
  cases hh
  obtain ⟨a, ha, hc⟩ := hcell i _ hv
  cases ha
  rw [add_lit'] at hc
  have H1 := again1_any g (endI t).toNat w.heap.size (w.heap.size + 1) (w.heap.size + 2) b off (ms t).length c i (endI t) f vA vn vc (againW w g (endI t) i) r ((blkCell hp.net _).trans hqc) c2 c0 c1 hc hi
    (hput _ _ (hp.drewN 1) ((Keep.ofBelow hbl fun k hk _ => hk).drewN 1) (hrv.src.keep fun _ _ _ => rfl))
  have H := do_some g (endI t) i (some ⟨b, off, none⟩) (ms t).length c 41 Try.f41 [.pointer (some ⟨w.heap.size + 2, 0, none⟩), .pointer (some ⟨w.heap.size, 0, none⟩), .pointer (some ⟨w.heap.size + 1, 0, none⟩)] r (f == 0) (againW w g (endI t) i) e0 e1 ((blkCell hp.net _).trans hqc) (by omega) (by omega) Try.func41 (by kernel_rfl) (by kernel_rfl) H1
  clear c0 c1 c2 hp hbl H1
  unfold againW at H
  have HH := hid H
  clear h H hrow hcell hrv hput hqc hq hlv hv hc
  go_enter Try.func21, Try.ntmps21
  go_wp2_with (go_at_call 28; refine HH.out.mono ?_; rintro e w' ⟨rfl, hr⟩)
  go_ret
  exact ⟨rfl, hr⟩

end Go.Proofs.Ytodbnmigdnmjnaa
