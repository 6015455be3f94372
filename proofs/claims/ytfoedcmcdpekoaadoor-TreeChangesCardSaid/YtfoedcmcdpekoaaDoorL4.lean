/- slices.Insert of one item into a row: there is no room -/
import Derived.Test.YtfoedcmcdpekoaaDoorL3
namespace Go.Proofs.YtfoedcmcdpekoaaDoor
open Go.RowKit

theorem grow_list {P D X Z : List Value} {k m : Nat} (hP : P.length = k) (hX : X.length = 3) (hD : D.length = m) (c R1 R2 : List Value) (hc : c = P ++ Z) (hs : k + m + 3 ≤ c.length)
    (h1 : R1 = c.take k ++ X ++ c.drop (k + 3)) (h2 : R2 = R1.take (k + 3) ++ D ++ R1.drop (k + 3 + m)) : R2.take (k + 3 + m) = P ++ X ++ D ∧ R2.length = c.length ∧ R1.length = c.length := by
  have e1 : c.take k = P := by rw [hc, List.take_left' hP]
  rw [e1] at h1
  have t1 : R1.take (k + 3) = P ++ X := by rw [h1, List.take_left' (by simp; omega)]
  rw [t1] at h2
  have l1 : R1.length = c.length := by rw [h1]; simp; omega
  refine ⟨?_, ?_, l1⟩
  · rw [h2, List.take_left' (by simp; omega)]
  · rw [h2]; simp; omega

set_option maxRecDepth 100000 in
set_option maxHeartbeats 8000000 in
theorem insert_grow (b off d : Nat) (l : List Itm) (i : Nat) (x : Itm) (vb : Nat) (w : World) (hi : i < l.length) (hroom : d < l.length + 1)
    (hrow : Row w 30 3 (.slice (some ⟨b, off, none⟩) l.length d) (l.flatMap Itm.cells)) (hlen : l.length ≤ 900000)
    (hv : w.heap[vb]? = some (.cells #[.string x.p, .bool x.d, .slice x.dA x.bs.length x.dc] 30 (0, 0))) :
    Calls Tryd.prog 69 #[.slice (some ⟨b, off, none⟩) l.length d, .int .i64 i, .slice (some ⟨vb, 0, none⟩) 1 1] w fun e w' => (∃ G, e = .returned (.slice (some ⟨w.heap.size, 0, none⟩) (l.length + 1) G) ∧ Row w' 30 3 (.slice (some ⟨w.heap.size, 0, none⟩) (l.length + 1) G) ((l.take i ++ x :: l.drop i).flatMap Itm.cells)) ∧ w.grownBy w' none := by
  obtain ⟨i0, hi0, hz0, hz1, hz2⟩ := info_parts infoItem
  have hw1 : IntKind.i64.wrap ((i : Int) + 1) = (i : Int) + 1 := by rw [IntKind.wrap_i64]; omega
  have hw2 : wrap64 ((i : Int) + 1) = (i : Int) + 1 := by unfold wrap64; omega
  have hb1 : (0 : Int) ≤ (i : Int) + 1 := by omega
  have htn : ((i : Int) + 1).toNat = i + 1 := by omega
  have hb0 : (0 : Int) ≤ (i : Int) := by omega
  have hdeq : d = l.length := by
    obtain ⟨_, _, _, hv', _, hn, _⟩ := id hrow
    cases hv'
    omega
  subst hdeq
  have hb2 : ¬ (l.length = i) := by omega
  have hb3 : (i : Int) + 1 ≤ (l.length : Int) + 1 := by omega
  have hb5 : (i : Int) ≤ (l.length : Int) + 1 := by omega
  have hb6 : (i : Int) ≤ (l.length : Int) := by omega
  have hb7 : ¬ ((i : Int) = (l.length : Int)) := by omega
  have hkk : (l.length : Int) + 1 - (i : Int) = ((l.length + 1 - i : Nat) : Int) := by omega
  have hik : i + (l.length + 1 - i) = l.length + 1 := by omega
  have hsl := infoSize
  have hblt := hrow.lt b rfl
  have hsrc : ∀ j v, (l.flatMap Itm.cells)[j]? = some v → w.cell? (⟨b, off + j, none⟩) = some v := by
    intro j v hj
    obtain ⟨_, _, _, hv', _, _, _, hh⟩ := hrow.src
    cases hv'
    obtain ⟨a, ha, hc⟩ := hh j v hj
    cases ha
    rwa [add_lit'] at hc
  have hvlt := blkLt hv
  have hold : (Builtin.firstCells i0.size i (.slice (some ⟨b, off, none⟩) i l.length)).run Tryd.prog w.drew = .ok ((l.take i).flatMap Itm.cells).toArray w.drew := by
    rw [hz1]
    exact run_firstCells_some w.drew 3 i ⟨b, off, none⟩ i l.length _ (by rw [cells_len, List.length_take]; omega) (fun j v hj => by
      rw [add_lit']
      rw [← cells_take, List.getElem?_take] at hj
      split at hj
      · exact hsrc j v hj
      · cases hj)
  have hbig : (l.length + 1) * 48 ≤ 140737488355328 := by omega
  have hrz : ∀ ty, (Builtin.append_ #[40, 3] ty #[.slice (some ⟨b, off, none⟩) i l.length, .int .i64 ((l.length : Int) + 1 - (i : Int))]).run Tryd.prog w =
      .ok (.slice (some ⟨w.heap.size, 0, none⟩) (l.length + 1) (grownCap w (l.length + 1) l.length 30)) (w.drew.alloc (.cells (((l.take i).flatMap Itm.cells).toArray ++ Builtin.zeroCells (Value.agg #[.string ByteArray.empty, .bool false, .slice none 0 0]).cells (l.length + 1 - i) ++ Builtin.zeroCells (Value.agg #[.string ByteArray.empty, .bool false, .slice none 0 0]).cells (grownCap w (l.length + 1) l.length 30 - (l.length + 1))) 30)) := fun ty => by
    have h := Lib.run_append_grow_zeros (P := Tryd.prog) w 40 3 ty 30 i0 _ .i64 .i64 Tryd.underlying40 Tryd.underlying3 hi0 hz0 (some ⟨b, off, none⟩) i l.length _ hold (l.length + 1 - i) (by omega) (by rw [hz1]; omega) (by omega) (by omega) (by rw [hz2]; omega) (by rw [hz2, hik]; exact growslice_fits (by omega) hbig)
    rw [hik] at h
    rw [hkk]
    exact h
  have hGn : l.length + 1 ≤ grownCap w (l.length + 1) l.length 30 := grownCap_ge w _ _ _
  have hGm : grownCap w (l.length + 1) l.length 30 ≤ maxLen := grownCap_le_maxLen w _ _ _ (by simp only [maxLen]; omega)
  generalize grownCap w (l.length + 1) l.length 30 = G at *
  obtain ⟨Z, hZ⟩ : ∃ Z : List Value, Z = (Builtin.zeroCells (Value.agg #[.string ByteArray.empty, .bool false, .slice none 0 0]).cells (l.length + 1 - i)).toList ++ (Builtin.zeroCells (Value.agg #[.string ByteArray.empty, .bool false, .slice none 0 0]).cells (G - (l.length + 1))).toList := ⟨_, rfl⟩
  have hzl : Z.length = (G - i) * 3 := by
    simp only [hZ, List.length_append, Array.length_toList, size_zeroCells]
    show (l.length + 1 - i) * 3 + (G - (l.length + 1)) * 3 = _
    omega
  obtain ⟨C, hC⟩ : ∃ C : List Value, C = (l.take i).flatMap Itm.cells ++ Z := ⟨_, rfl⟩
  have hpl : ((l.take i).flatMap Itm.cells).length = i * 3 := by rw [cells_len, List.length_take]; omega
  have hdl : ((l.drop i).flatMap Itm.cells).length = (l.length - i) * 3 := by rw [cells_len, List.length_drop]
  have hCl : C.length = G * 3 := by rw [hC, List.length_append, hpl, hzl]; omega
  have hROW : ((l.take i).flatMap Itm.cells).toArray ++ Builtin.zeroCells (Value.agg #[.string ByteArray.empty, .bool false, .slice none 0 0]).cells (l.length + 1 - i) ++ Builtin.zeroCells (Value.agg #[.string ByteArray.empty, .bool false, .slice none 0 0]).cells (G - (l.length + 1)) = C.toArray := by
    rw [hC, hZ]
    apply Array.toList_inj.1
    simp
  rw [hROW] at hrz
  obtain ⟨R1, hR1⟩ : ∃ R1 : List Value, R1 = C.take (i * 3) ++ x.cells ++ C.drop (i * 3 + 3) := ⟨_, rfl⟩
  obtain ⟨R2, hR2⟩ : ∃ R2 : List Value, R2 = R1.take (i * 3 + 3) ++ (l.drop i).flatMap Itm.cells ++ R1.drop (i * 3 + 3 + (l.length - i) * 3) := ⟨_, rfl⟩
  obtain ⟨hfin, hlen2, hlen1⟩ := grow_list (X := x.cells) (Z := Z) hpl rfl hdl C R1 R2 hC (by rw [hCl]; omega) hR1 hR2
  have hc1 : (w.drew.alloc (.cells C.toArray 30 (0, 0))).heap[w.heap.size]? = some (.cells C.toArray 30 (0, 0)) := heap_alloc_new w.drew _
  have hv1 : (w.drew.alloc (.cells C.toArray 30 (0, 0))).heap[vb]? = some (.cells #[.string x.p, .bool x.d, .slice x.dA x.bs.length x.dc] 30 (0, 0)) := (heap_alloc_old w.drew _ hvlt).trans hv
  have hcpA : ∀ ty dc, (Builtin.copy_ #[40, 26] ty #[.slice (some ⟨w.heap.size, i * 3, none⟩) (l.length + 1 - i) dc, .slice (some ⟨vb, 0, none⟩) 1 1]).run Tryd.prog (w.drew.alloc (.cells C.toArray 30 (0, 0))) = .ok (goInt (1 : Nat)) ((w.drew.alloc (.cells C.toArray 30 (0, 0))).setRow w.heap.size R1.toArray) := fun ty dc => by
    have h := run_copy_sz (P := Tryd.prog) (w.drew.alloc (.cells C.toArray 30 (0, 0))) 40 26 ty 30 3 w.heap.size (i * 3) (l.length + 1 - i) dc 1 ⟨vb, 0, none⟩ 1 1 C.toArray 30 x.cells Tryd.underlying40 hsl hc1 (by simp only [Nat.min_def]; split <;> omega) rfl (fun j v hj => by
      rw [add_lit', Nat.zero_add, blkCell hv1]; simpa [Itm.cells] using hj) (by rw [List.size_toArray, hCl, show x.cells.length = 3 from rfl]; omega) (by simp [Itm.cells, Value.oneCell'])
    rw [h, hR1]; rfl
  have hc2 : ((w.drew.alloc (.cells C.toArray 30 (0, 0))).setRow w.heap.size R1.toArray).drew.heap[w.heap.size]? = some (.cells R1.toArray 30 (0, 0)) := setRow_heap (w.drew.alloc (.cells C.toArray 30 (0, 0))) _ _ _ _ _ hc1
  have hcpB : ∀ ty dc sc, (Builtin.copy_ #[40, 40] ty #[.slice (some ⟨w.heap.size, (i + 1) * 3, none⟩) (l.length - i) dc, .slice (some ⟨b, off + i * 3, none⟩) (l.length - i) sc]).run Tryd.prog ((w.drew.alloc (.cells C.toArray 30 (0, 0))).setRow w.heap.size R1.toArray).drew = .ok (goInt (l.length - i : Nat)) (((w.drew.alloc (.cells C.toArray 30 (0, 0))).setRow w.heap.size R1.toArray).drew.setRow w.heap.size R2.toArray) := fun ty dc sc => by
    have h := run_copy_sz (P := Tryd.prog) ((w.drew.alloc (.cells C.toArray 30 (0, 0))).setRow w.heap.size R1.toArray).drew 40 40 ty 30 3 w.heap.size ((i + 1) * 3) (l.length - i) dc (l.length - i) ⟨b, off + i * 3, none⟩ (l.length - i) sc R1.toArray 30 _ Tryd.underlying40 hsl hc2 (by simp only [Nat.min_def]; split <;> omega) hdl (fun j v hj => by
      rw [← cells_drop, List.getElem?_drop] at hj
      have h1 := hsrc _ v hj
      rw [add_lit', Nat.add_assoc]
      have hblk : ((w.drew.alloc (.cells C.toArray 30 (0, 0))).setRow w.heap.size R1.toArray).drew.heap[b]? = w.heap[b]? := (setRow_other _ _ _ _ (by omega)).trans (heap_alloc_old w.drew _ hblt)
      rw [World.cell?_of_block (w := w) (a := ⟨b, off + (i * 3 + j), none⟩) hblk]
      exact h1) (by rw [List.size_toArray, hlen1, hCl, hdl]; omega) (cells_one _)
    rw [h, hR2, hdl, show (i + 1) * 3 = i * 3 + 3 by omega]
  have HRZ := hid hrz
  have HA := hid hcpA
  have HB := hid hcpB
  have HF : HidP (Row (((w.drew.alloc (.cells C.toArray 30 (0, 0))).setRow w.heap.size R1.toArray).drew.setRow w.heap.size R2.toArray) 30 3 (.slice (some ⟨w.heap.size, 0, none⟩) (l.length + 1) G) ((l.take i ++ x :: l.drop i).flatMap Itm.cells)) := hid (by
    refine ⟨_, l.length + 1, G, rfl, by rw [cells_len]; simp; omega, hGn, hGm, .inr ⟨w.heap.size, 0, R2.toArray, rfl, setRow_heap ((w.drew.alloc (.cells C.toArray 30 (0, 0))).setRow w.heap.size R1.toArray).drew _ _ _ _ _ hc2, by rw [List.size_toArray, hlen2, hCl]; omega, ?_⟩⟩
    rw [show (l.length + 1) * 3 = i * 3 + 3 + (l.length - i) * 3 by omega, List.drop_zero]
    rw [hfin, cells_app, List.flatMap_cons]
    simp)
  have hG2 : G ≤ 9223372036854775807 := by simp only [maxLen] at hGm; omega
  have hg4 : ¬ (G = i) := by omega
  have hg5 : ¬ (G = i + 1) := by omega
  clear hrz hcpA hcpB hrow hsrc hold hZ hzl hC hpl hdl hCl hROW hR1 hR2 hfin hlen1 hlen2 hc1 hc2 hv1 hsl hGm hbig hkk hik
  go_enter Tryd.func69, Tryd.ntmps69
  go_wp2_with (at_builtin; refine Lib.wpList_append_run _ rfl _ _ _ _ rfl _ _ rfl rfl _ _ (HRZ.out _) ?_)
  rw [show (w.alloc (.cells C.toArray 30 (0, 0))).drew = w.drew.alloc (.cells C.toArray 30 (0, 0)) from rfl, HA.out]
  simp only [Result.andThen]
  rw [Oper.upon_value]
  go_wp2_with fail
  go_region_law (refine step_copy_is _ rfl _ _ 40 40 rfl (.slice (some ⟨w.heap.size, (i + 1) * 3, none⟩) (l.length - i) (G - (i + 1))) (.slice (some ⟨b, off + i * 3, none⟩) (l.length - i) (l.length - i)) (by simp [Act.eval, Act.put]) (by simp [Act.eval, Act.put]) (by exact HB.out _ _ _) ?_)
  go_wp2_with fail
  go_ret
  refine ⟨⟨G, rfl, HF.out⟩, rfl, rfl, rfl, by simp, fun k hk _ => ?_⟩
  exact (setRow_other _ _ _ _ (by omega)).trans ((setRow_other (w.drew.alloc (.cells C.toArray 30 (0, 0))) _ _ _ (by omega)).trans (heap_alloc_old w.drew _ hk))

end Go.Proofs.YtfoedcmcdpekoaaDoor
