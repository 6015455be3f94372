/- tree.Path -/
import Derived.Test.YtfbbjfbnkcklgaaGreatDoorT5b
import Derived.Test.YtfbbjfbnkcklgaaGreatDoorR1
import Derived.Test.YtfbbjfbnkcklgaaGreatDoorB4
namespace Go.Proofs.YtfbbjfbnkcklgaaGreatDoor
open Go.RowKit Go.Shelf
attribute [local go_sem] Oper.semAt_some

set_option maxHeartbeats 400000 in
theorem splitseq (s : ByteArray) (w : World) : Calls Tryz.prog 75 #[.string s, .string ⟨#[47]⟩] w fun e w' => e = .returned (.func (.func 140) #[] #[.pointer (some ⟨w.heap.size + 1, 0, none⟩), .pointer (some ⟨w.heap.size, 0, none⟩), .pointer (some ⟨w.heap.size + 2, 0, none⟩)]) ∧
    w' = ((w.alloc (.cells #[.string s] 9 (0, 0))).alloc (.cells #[.string ⟨#[47]⟩] 9 (0, 0))).alloc (.cells #[.int .i64 0] 3 (0, 0)) := by
  have H : Calls Tryz.prog 101 #[.string s, .string ⟨#[47]⟩, .int .i64 0] w fun e w' => e = .returned (.func (.func 140) #[] #[.pointer (some ⟨w.heap.size + 1, 0, none⟩), .pointer (some ⟨w.heap.size, 0, none⟩), .pointer (some ⟨w.heap.size + 2, 0, none⟩)]) ∧
      w' = ((w.alloc (.cells #[.string s] 9 (0, 0))).alloc (.cells #[.string ⟨#[47]⟩] 9 (0, 0))).alloc (.cells #[.int .i64 0] 3 (0, 0)) := by
    go_enter Tryz.func101, Tryz.ntmps101
    go_wp2_with fail
    go_ret
    exact ⟨rfl, rfl⟩
  have H := hid H
  go_enter Tryz.func75, Tryz.ntmps75
  go_wp2_with fail
  refine H.out.mono ?_
  rintro e w' ⟨rfl, rfl⟩
  go_wp2_with fail
  go_ret
  exact ⟨rfl, rfl⟩

/-- between two rounds: the boxes of Path and of the iterator, the loop's record -/
structure PJ (w : World) (s : ByteArray) (rec : LoopState → Option Code → Loop) (pre : List ByteArray) (W : World) : Prop where
  res : W.heap[w.heap.size]? = some (.cells #[.bool false] 4 (0, 0))
  cnt : W.heap[w.heap.size + 1]? = some (.cells #[.int .i64 pre.length] 3 (0, 0))
  str : ∃ v, W.heap[w.heap.size + 2]? = some (.cells #[v] 9 (0, 0))
  sep : W.heap[w.heap.size + 3]? = some (.cells #[.string ⟨#[47]⟩] 9 (0, 0))
  save : W.heap[w.heap.size + 4]? = some (.cells #[.int .i64 0] 3 (0, 0))
  defer : W.heap[w.heap.size + 5]? = some (.deferred (some []))
  loop : W.heap[w.heap.size + 6]? = some (.loop (rec .ready none))
  good : (pre.map (·.toList)).all partB = true
  few : pre.length ≤ 6
  below : Below w.heap.size w W
/-- a round has said no more -/
structure PX (w : World) (rec : LoopState → Option Code → Loop) (pre : List ByteArray) (W : World) : Prop where
  res : W.heap[w.heap.size]? = some (.cells #[.bool false] 4 (0, 0))
  defer : W.heap[w.heap.size + 5]? = some (.deferred (some []))
  loop : W.heap[w.heap.size + 6]? = some (.loop (rec .done (some .ret)))
  bad : (pre.map (·.toList)).all partB = false ∨ 6 < pre.length
  below : Below w.heap.size w W

theorem putBelow {w V : World} (h : Below w.heap.size w V) (o : Obj) : Below w.heap.size w (V.putObj (w.heap.size + 6) o) :=
  ⟨h.os, h.tape, h.output, by simpa using h.size, fun k hk => (World.putObj_heap_other (by omega)).trans (h.block k hk)⟩
theorem round_out {w V : World} {s : ByteArray} {rec : LoopState → Option Code → Loop} {pre : List ByteArray} {x rest : ByteArray} {a : Act} {fn D : Nat} {tmps : Array Value} {ps : Array Tmp} {assign body : Code} (hrec : rec = readyAt fn tmps ps assign body D)
    (h6 : V.heap[w.heap.size + 6]? = some (.loop (rec .busy none))) (h5 : V.heap[w.heap.size + 5]? = some (.deferred (some []))) (h0 : V.heap[w.heap.size]? = some (.cells #[.bool false] 4 (0, 0))) (hb : Below w.heap.size w V)
    (hbad : ((pre ++ [x]).map (·.toList)).all partB = false ∨ 6 < (pre ++ [x]).length) :
    roundPost Tryz.prog (w.heap.size + 6) (fun e W' => (e = .returned (.bool true) ∧ PJ w s rec (pre ++ [x]) W' ∧ W'.cell? ⟨w.heap.size + 2, 0, none⟩ = some (.string rest)) ∨ (e = .returned (.bool false) ∧ PX w rec (pre ++ [x]) W')) .ret a V := by
  subst hrec
  refine ⟨_, _, end_round (some .ret) h6, .inr ⟨rfl, (World.putObj_heap_other (by omega)).trans h0, (World.putObj_heap_other (by omega)).trans h5, World.putObj_heap_same (blkLt h6), hbad, putBelow hb _⟩⟩

theorem round_on {w V : World} {s : ByteArray} {rec : LoopState → Option Code → Loop} {pre : List ByteArray} {x rest : ByteArray} {a : Act} {fn D : Nat} {tmps : Array Value} {ps : Array Tmp} {assign body : Code} (hrec : rec = readyAt fn tmps ps assign body D)
    (h6 : V.heap[w.heap.size + 6]? = some (.loop (rec .busy none))) (h5 : V.heap[w.heap.size + 5]? = some (.deferred (some []))) (h4 : V.heap[w.heap.size + 4]? = some (.cells #[.int .i64 0] 3 (0, 0))) (h3 : V.heap[w.heap.size + 3]? = some (.cells #[.string ⟨#[47]⟩] 9 (0, 0)))
    (h2 : V.heap[w.heap.size + 2]? = some (.cells #[.string rest] 9 (0, 0))) (h1 : V.heap[w.heap.size + 1]? = some (.cells (#[.int .i64 pre.length].setIfInBounds 0 (.int .i64 ((pre.length : Int) + 1))) 3 (0, 0))) (h0 : V.heap[w.heap.size]? = some (.cells #[.bool false] 4 (0, 0))) (hb : Below w.heap.size w V)
    (hg : ((pre ++ [x]).map (·.toList)).all partB = true) (hf : pre.length + 1 ≤ 6) :
    roundPost Tryz.prog (w.heap.size + 6) (fun e W' => (e = .returned (.bool true) ∧ PJ w s rec (pre ++ [x]) W' ∧ W'.cell? ⟨w.heap.size + 2, 0, none⟩ = some (.string rest)) ∨ (e = .returned (.bool false) ∧ PX w rec (pre ++ [x]) W')) .normal a V := by
  subst hrec
  have far : ∀ {k : Nat} {o o' : Obj}, V.heap[k]? = some o → k ≠ w.heap.size + 6 → (V.putObj (w.heap.size + 6) o').heap[k]? = some o := fun hk hne => (World.putObj_heap_other hne).trans hk
  refine ⟨_, _, end_round none h6, .inl ⟨rfl, ⟨far h0 (by omega), ?_, ⟨_, far h2 (by omega)⟩, far h3 (by omega), far h4 (by omega), far h5 (by omega), World.putObj_heap_same (blkLt h6), hg, by simpa using hf, putBelow hb _⟩, (blkCell (far h2 (by omega)) 0).trans rfl⟩⟩
  rw [List.length_append]
  exact far h1 (by omega)

set_option maxRecDepth 100000 in
set_option maxHeartbeats 2000000 in
theorem path_walk (s : ByteArray) (hs : s.size ≤ 140737488351232) (w : World) : Calls Tryz.prog 43 #[.string s] w fun e w' => e = .returned (.bool (pathB s.toList)) ∧ Below w.heap.size w w' := by
  refine (callsIn_wide (n := 5)).1 ?_
  refine callsIn_of_wp_marks Tryz.func43 rfl trivial ?_ rfl
  simp only [Tryz.ntmps43, List.size_toArray, List.length_cons, List.length_nil, Nat.reduceAdd, Nat.reduceSub, Array.replicate_succ, Array.replicate_zero, List.push_toArray, List.append_toArray, List.nil_append, List.cons_append]
  gi_wp2_with (refine ⟨trivial, ?_⟩; gi_at_call 75; refine (callsIn_wide.2 (splitseq s _)).mono ?_; rintro e w' ⟨rfl, rfl⟩)
  obtain ⟨W1, hW1⟩ : ∃ W1, (((((w.alloc (.cells #[.bool false] 4 (0, 0))).alloc (.cells #[.int .i64 0] 3 (0, 0))).alloc (.cells #[.string s] 9 (0, 0))).alloc (.cells #[.string ⟨#[47]⟩] 9 (0, 0))).alloc (.cells #[.int .i64 0] 3 (0, 0))) = W1 := ⟨_, rfl⟩
  have hsz : W1.heap.size = w.heap.size + 5 := by rw [← hW1]; simp
  rw [hW1]
  refine enter_range rfl (by decide) (gf := 140) (lb := #[.pointer (some ⟨w.heap.size + 3, 0, none⟩), .pointer (some ⟨w.heap.size + 2, 0, none⟩), .pointer (some ⟨w.heap.size + 4, 0, none⟩)]) rfl trivial (enters_of Tryz.func140 (by kernel_rfl) rfl) ?_
  intro fn rec hfn hrec
  rw [hsz] at hrec ⊢
  refine (iter_walk 4 (by decide) (w.heap.size + 6) (w.heap.size + 3) (w.heap.size + 2) (w.heap.size + 4) s hs (PJ w s rec) (PX w rec) ?hcell ?hset ?hY _ ?h0 ?hs).mono ?fin
  case hcell => exact fun pre W h => ⟨(blkCell h.sep 0).trans rfl, (blkCell h.save 0).trans rfl, by obtain ⟨v, hv⟩ := h.str; exact blkFree hv 0⟩
  case hset =>
    intro pre W v h
    obtain ⟨u, hu⟩ := h.str
    exact ⟨blkFar h.res (by simp) _, blkFar h.cnt (by simp) _, ⟨v, blkSet hu 0 v⟩, blkFar h.sep (by simp) _, blkFar h.save (by simp) _, blkFar h.defer (by simp) _, blkFar h.loop (by simp) _, h.good, h.few, h.below.setCell (by simp) _⟩
  case h0 =>
    have e0 := hrec
    clear hrec
    refine ⟨?_, ?_, ⟨.string s, ?_⟩, ?_, ?_, ?_, ?_, by simp, by simp, ?_⟩
    all_goals first | (rw [← hW1]; simp only [heap_alloc_if, World.size_alloc]; repeat (first | rw [if_true] | rw [if_neg (by omega)] | rw [if_pos (by omega)])) | skip
    all_goals try rfl
    have hb0 : Below w.heap.size w W1 := by
      rw [← hW1]
      exact (((((Below.refl _ w).alloc (Nat.le_refl _) _).alloc (by simp) _).alloc (by simp; omega) _).alloc (by simp; omega) _).alloc (by simp; omega) _
    exact (hb0.alloc (by omega) _).alloc (by simp; omega) _
  case hs =>
    clear hrec
    refine (blkCell (cs := #[.string s]) (t := 9) ?_ 0).trans rfl
    rw [← hW1]; simp only [heap_alloc_if, World.size_alloc]; repeat (first | rw [if_true] | rw [if_neg (by omega)] | rw [if_pos (by omega)])
  case hY =>
    clear hW1 hsz W1
    intro pre x W rest h hrest
    rw [hrec] at h ⊢
    have hJ := hid h
    obtain ⟨v, hv⟩ := h.str
    refine round_at h.loop rfl hfn _ (by
      intro K hK
      gi_wp2
      exact hK) ?_
    have hlt := blkLt h.loop
    have far : ∀ {k : Nat} {o o' : Obj}, W.heap[k]? = some o → k ≠ w.heap.size + 6 → (W.putObj (w.heap.size + 6) o').heap[k]? = some o := fun hk hne => (World.putObj_heap_other hne).trans hk
    have b0 := fun o' => far (o' := o') h.res (by omega)
    have b1 := fun o' => far (o' := o') h.cnt (by omega)
    have b2 := fun o' => far (o' := o') hv (by omega)
    have b3 := fun o' => far (o' := o') h.sep (by omega)
    have b4 := fun o' => far (o' := o') h.save (by omega)
    have b5 := fun o' => far (o' := o') h.defer (by omega)
    have b6 := fun o' => World.putObj_heap_same (w := W) (o := o') hlt
    have bb : ∀ o', Below w.heap.size w (W.putObj (w.heap.size + 6) o') := fun o' => ⟨h.below.os, h.below.tape, h.below.output, by simpa using h.below.size, fun k hk => (World.putObj_heap_other (by omega)).trans (h.below.block k hk)⟩
    rw [← hrec] at hJ h ⊢
    have hgood := hid h.good
    have hfew := h.few
    have hvr : v = .string rest := by
      have := (blkCell hv 0).symm.trans hrest
      simpa using this
    subst hvr
    have c0 := b0 (.loop (rec .busy none))
    have c1 := b1 (.loop (rec .busy none))
    have c2 := b2 (.loop (rec .busy none))
    have c3 := b3 (.loop (rec .busy none))
    have c4 := b4 (.loop (rec .busy none))
    have c5 := b5 (.loop (rec .busy none))
    have c6 := b6 (.loop (rec .busy none))
    have cb := bb (.loop (rec .busy none))
    clear b0 b1 b2 b3 b4 b5 b6 bb far h hJ hv hrest hlt
    generalize W.putObj (w.heap.size + 6) (.loop (rec .busy none)) = V at *
    have n1 : V.cell? ⟨w.heap.size + 1, 0, none⟩ = some (.int .i64 pre.length) := (blkCell c1 0).trans rfl
    have n2 := blkFree c1 0
    have hw1 : wrap64 ((pre.length : Int) + 1) = (pre.length : Int) + 1 := by unfold wrap64; omega
    have d1 := blkSet c1 0 (.int .i64 ((pre.length : Int) + 1))
    have d0 := blkFar c0 (p := ⟨w.heap.size + 1, 0, none⟩) (by simp) (.int .i64 ((pre.length : Int) + 1))
    have d2 := blkFar c2 (p := ⟨w.heap.size + 1, 0, none⟩) (by simp) (.int .i64 ((pre.length : Int) + 1))
    have d3 := blkFar c3 (p := ⟨w.heap.size + 1, 0, none⟩) (by simp) (.int .i64 ((pre.length : Int) + 1))
    have d4 := blkFar c4 (p := ⟨w.heap.size + 1, 0, none⟩) (by simp) (.int .i64 ((pre.length : Int) + 1))
    have d5 := blkFar c5 (p := ⟨w.heap.size + 1, 0, none⟩) (by simp) (.int .i64 ((pre.length : Int) + 1))
    have d6 := blkFar c6 (p := ⟨w.heap.size + 1, 0, none⟩) (by simp) (.int .i64 ((pre.length : Int) + 1))
    have db := cb.setCell (p := ⟨w.heap.size + 1, 0, none⟩) (by simp) (.int .i64 ((pre.length : Int) + 1))
    have n3 : (V.setCell ⟨w.heap.size + 1, 0, none⟩ (.int .i64 ((pre.length : Int) + 1))).cell? ⟨w.heap.size + 1, 0, none⟩ = some (.int .i64 ((pre.length : Int) + 1)) := (blkCell d1 0).trans rfl
    clear c0 c1 c2 c3 c4 c5 c6 cb
    have HREC := hid hrec
    clear hrec
    have r1 : (V.setCell ⟨w.heap.size + 1, 0, none⟩ (.int .i64 ((pre.length : Int) + 1))).cell? ⟨w.heap.size, 0, none⟩ = some (.bool false) := (blkCell d0 0).trans rfl
    have r2 := blkFree d0 0
    by_cases h6 : (pre.length : Int) + 1 > 6
    · have g6 : decide ((pre.length : Int) + 1 > 6) = true := decide_eq_true h6
      gi_wp2_with (refine ⟨trivial, ?_⟩)
      have e6 := blkFar d6 (p := ⟨w.heap.size, 0, none⟩) (by simp) (.bool false)
      have e5 := blkFar d5 (p := ⟨w.heap.size, 0, none⟩) (by simp) (.bool false)
      have e0 := blkSet d0 0 (.bool false)
      have eb := db.setCell (p := ⟨w.heap.size, 0, none⟩) (by simp) (.bool false)
      exact round_out HREC.out e6 e5 e0 eb (.inr (by simp; omega))
    · have g6 : decide ((pre.length : Int) + 1 > 6) = false := decide_eq_false h6
      have HPW := hid (part_walk x (V.setCell ⟨w.heap.size + 1, 0, none⟩ (.int .i64 ((pre.length : Int) + 1))))
      cases hp : partB x.toList
      · rw [hp] at HPW
        gi_wp2_with (refine ⟨trivial, ?_⟩; gi_at_call 76; refine (CallsIn.inRound _ (callsIn_wide.2 HPW.out)).mono ?_; rintro e w' ⟨rfl, hbp⟩; have q1 : w'.cell? ⟨w.heap.size, 0, none⟩ = some (.bool false) := (hbp.cell (p := ⟨w.heap.size, 0, none⟩) (blkLt d0)).trans r1; have q2 : w'.frozen? ⟨w.heap.size, 0, none⟩ = false := (hbp.frozen (p := ⟨w.heap.size, 0, none⟩) (blkLt d0)).trans r2)
        have m0 := (hbp.block _ (blkLt d0)).trans d0
        have m5 := (hbp.block _ (blkLt d5)).trans d5
        have m6 := (hbp.block _ (blkLt d6)).trans d6
        have mb := db.trans (hbp.mono db.size)
        have e6 := blkFar m6 (p := ⟨w.heap.size, 0, none⟩) (by simp) (.bool false)
        have e5 := blkFar m5 (p := ⟨w.heap.size, 0, none⟩) (by simp) (.bool false)
        have e0 := blkSet m0 0 (.bool false)
        have eb := mb.setCell (p := ⟨w.heap.size, 0, none⟩) (by simp) (.bool false)
        exact round_out HREC.out e6 e5 e0 eb (.inl (by simp [hp]))
      · rw [hp] at HPW
        gi_wp2_with (refine ⟨trivial, ?_⟩; gi_at_call 76; refine (CallsIn.inRound _ (callsIn_wide.2 HPW.out)).mono ?_; rintro e w' ⟨rfl, hbp⟩)
        have m0 := (hbp.block _ (blkLt d0)).trans d0
        have m1 := (hbp.block _ (blkLt d1)).trans d1
        have m2 := (hbp.block _ (blkLt d2)).trans d2
        have m3 := (hbp.block _ (blkLt d3)).trans d3
        have m4 := (hbp.block _ (blkLt d4)).trans d4
        have m5 := (hbp.block _ (blkLt d5)).trans d5
        have m6 := (hbp.block _ (blkLt d6)).trans d6
        have mb := db.trans (hbp.mono db.size)
        have hg := hgood.out
        exact round_on HREC.out m6 m5 m4 m3 m2 m1 m0 mb (by rw [List.map_append, List.all_append, hg]; simp [hp]) (by omega)
  case fin =>
    clear hW1 hsz W1
    have e1 : ∀ pe st, (rec st pe).pending = pe := fun pe st => by rw [hrec]; rfl
    have e2 : ∀ pe st, (rec st pe).state = st := fun pe st => by rw [hrec]; rfl
    rintro e W ⟨⟨v, rfl⟩, (⟨xs, hxs, hJ⟩ | ⟨pre, post, hpp, hX⟩)⟩
    · have hgood := hJ.good
      have hfew := hJ.few
      have hp : pathB s.toList = true := by
        unfold pathB
        rw [← hxs, hgood]
        simpa using hfew
      have far : ∀ {k : Nat} {o o' : Obj}, W.heap[k]? = some o → k ≠ w.heap.size + 6 → (W.putObj (w.heap.size + 6) o').heap[k]? = some o := fun hk hne => (World.putObj_heap_other hne).trans hk
      have b0 := fun o' => far (o' := o') hJ.res (by omega)
      have b5 := fun o' => far (o' := o') hJ.defer (by omega)
      have bb := fun o' => putBelow hJ.below (.loop o')
      obtain ⟨V, hV⟩ : ∃ V, W.putObj (w.heap.size + 6) (.loop { rec .ready none with state := .exhausted }) = V := ⟨_, rfl⟩
      refine ⟨none, V, (run_endLoop hJ.loop (by rw [e2]; simp)).trans (congr (congrArg Result.ok (e1 none .ready)) hV), ?_⟩
      have c0 := b0 (.loop { rec .ready none with state := .exhausted })
      have c5 := b5 (.loop { rec .ready none with state := .exhausted })
      have cb := bb { rec .ready none with state := .exhausted }
      have HP := hid hp
      rw [hV] at c0 c5 cb
      clear hV b0 b5 bb far hJ hgood hfew hp e1 e2 hxs hrec
      have r1 : V.cell? ⟨w.heap.size, 0, none⟩ = some (.bool false) := (blkCell c0 0).trans rfl
      have r2 := blkFree c0 0
      gi_wp2
      have hc1 := (World.cell?_setCell_same' V ⟨w.heap.size, 0, none⟩ (.bool true) (by rw [r1]; rfl))
      have hK := blkFar c5 (p := ⟨w.heap.size, 0, none⟩) (by simp) (.bool true)
      have hbb := cb.setCell (p := ⟨w.heap.size, 0, none⟩) (by simp) (.bool true)
      refine ⟨by simp, .inl ⟨_, _, rfl, run_takeDeferred hK, ?_⟩⟩
      have hc5 := cell_kept hc1 (grownBy_putObj' _ (w.heap.size + 5) (.deferred none)) (fun r e => by cases e; exact ⟨_, hK, rfl⟩)
      refine ⟨.bool true, ?_, by rw [HP.out], ⟨hbb.os, hbb.tape, hbb.output, by simpa using hbb.size, fun k hk => (World.putObj_heap_other (by omega)).trans (hbb.block k hk)⟩⟩
      simp [results, go_sem, hc5]
    · have hf : pathB s.toList = false := by
        unfold pathB
        rw [← hpp, Bool.and_eq_false_iff]
        rcases hX.bad with h | h
        · exact .inl (by rw [List.all_append, h]; rfl)
        · exact .inr (decide_eq_false (by simp; omega))
      have far : ∀ {k : Nat} {o o' : Obj}, W.heap[k]? = some o → k ≠ w.heap.size + 6 → (W.putObj (w.heap.size + 6) o').heap[k]? = some o := fun hk hne => (World.putObj_heap_other hne).trans hk
      have b0 := fun o' => far (o' := o') hX.res (by omega)
      have b5 := fun o' => far (o' := o') hX.defer (by omega)
      have bb := fun o' => putBelow hX.below (.loop o')
      obtain ⟨V, hV⟩ : ∃ V, W.putObj (w.heap.size + 6) (.loop { rec .done (some .ret) with state := .exhausted }) = V := ⟨_, rfl⟩
      refine ⟨some .ret, V, (run_endLoop hX.loop (by rw [e2]; simp)).trans (congr (congrArg Result.ok (e1 (some .ret) .done)) hV), ?_⟩
      have c0 := b0 (.loop { rec .done (some .ret) with state := .exhausted })
      have c5 := b5 (.loop { rec .done (some .ret) with state := .exhausted })
      have cb := bb { rec .done (some .ret) with state := .exhausted }
      have HP := hid hf
      rw [hV] at c0 c5 cb
      clear hV b0 b5 bb far hX hf e1 e2 hpp hrec
      have r1 : V.cell? ⟨w.heap.size, 0, none⟩ = some (.bool false) := (blkCell c0 0).trans rfl
      gi_wp2
      refine ⟨by simp, .inl ⟨_, _, rfl, run_takeDeferred c5, ?_⟩⟩
      have hc5 := cell_kept r1 (grownBy_putObj' _ (w.heap.size + 5) (.deferred none)) (fun r e => by cases e; exact ⟨_, c5, rfl⟩)
      refine ⟨.bool false, ?_, by rw [HP.out], ⟨cb.os, cb.tape, cb.output, by simpa using cb.size, fun k hk => (World.putObj_heap_other (by omega)).trans (cb.block k hk)⟩⟩
      simp [results, go_sem, hc5]

end Go.Proofs.YtfbbjfbnkcklgaaGreatDoor
