/- slices.Insert of one item into a row: there is room -/
import Derived.Test.YtfoedcmcdpekoaaDoorL2
namespace Go.Proofs.YtfoedcmcdpekoaaDoor
open Go.RowKit

theorem cells_app (a b : List Itm) : (a ++ b).flatMap Itm.cells = a.flatMap Itm.cells ++ b.flatMap Itm.cells := List.flatMap_append
theorem cells_take (l : List Itm) (i : Nat) : (l.flatMap Itm.cells).take (i * 3) = (l.take i).flatMap Itm.cells := by
  induction l generalizing i with
  | nil => simp
  | cons x r ih =>
    cases i with
    | zero => simp
    | succ i => rw [List.flatMap_cons, List.take_append, List.take_of_length_le (by simp [Itm.cells]; omega), List.take_succ_cons, List.flatMap_cons, show (i + 1) * 3 - x.cells.length = i * 3 by simp [Itm.cells]; omega, ih]
theorem cells_drop (l : List Itm) (i : Nat) : (l.flatMap Itm.cells).drop (i * 3) = (l.drop i).flatMap Itm.cells := by
  induction l generalizing i with
  | nil => simp
  | cons x r ih =>
    cases i with
    | zero => simp
    | succ i => rw [List.flatMap_cons, List.drop_append, List.drop_of_length_le (by simp [Itm.cells]; omega), List.drop_succ_cons, List.nil_append, show (i + 1) * 3 - x.cells.length = i * 3 by simp [Itm.cells]; omega, ih]

theorem shift_list {c P D X : List Value} {o k m : Nat} (hP : P.length = k) (hX : X.length = 3) (hD : D.length = m) (hc : (c.drop o).take (k + m) = P ++ D) (hs : o + k + m + 3 ≤ c.length) (R1 R2 : List Value)
    (h1 : R1 = c.take (o + k + 3) ++ D ++ c.drop (o + k + 3 + m)) (h2 : R2 = R1.take (o + k) ++ X ++ R1.drop (o + k + 3)) : (R2.drop o).take (k + 3 + m) = P ++ X ++ D ∧ R2.length = c.length ∧ R1.length = c.length := by
  have e1 : c.take (o + k) = c.take o ++ P := by
    rw [List.take_add]
    congr 1
    have := congrArg (List.take k) hc
    rw [List.take_take, Nat.min_eq_left (by omega), List.take_left' hP] at this
    exact this
  have l1 : (c.take (o + k + 3)).length = o + k + 3 := by rw [List.length_take]; omega
  have l2 : (c.take o).length = o := by rw [List.length_take]; omega
  have t1 : R1.take (o + k) = c.take o ++ P := by
    rw [h1, List.append_assoc, List.take_append_of_le_length (by omega), List.take_take, Nat.min_eq_left (by omega), e1]
  have t2 : R1.drop (o + k + 3) = D ++ c.drop (o + k + 3 + m) := by
    rw [h1, List.append_assoc, List.drop_left' l1]
  have t3 : R2 = c.take o ++ (P ++ X ++ D ++ c.drop (o + k + 3 + m)) := by rw [h2, t1, t2]; simp
  refine ⟨?_, ?_, ?_⟩
  · rw [t3, List.drop_left' l2, List.take_left' (by simp; omega)]
  · rw [t3]; simp; omega
  · rw [h1]; simp; omega

set_option maxRecDepth 100000 in
set_option maxHeartbeats 4000000 in
theorem insert_room (b off d : Nat) (l : List Itm) (i : Nat) (x : Itm) (vb : Nat) (w : World) (hi : i < l.length) (hroom : l.length + 1 ≤ d)
    (hrow : Row w 30 3 (.slice (some ⟨b, off, none⟩) l.length d) (l.flatMap Itm.cells)) (hlen : l.length ≤ 900000) (hne : vb ≠ b)
    (hv : w.heap[vb]? = some (.cells #[.string x.p, .bool x.d, .slice x.dA x.bs.length x.dc] 30 (0, 0))) :
    Calls Tryd.prog 69 #[.slice (some ⟨b, off, none⟩) l.length d, .int .i64 i, .slice (some ⟨vb, 0, none⟩) 1 1] w fun e w' => (e = .returned (.slice (some ⟨b, off, none⟩) (l.length + 1) d) ∧ Row w' 30 3 (.slice (some ⟨b, off, none⟩) (l.length + 1) d) ((l.take i ++ x :: l.drop i).flatMap Itm.cells)) ∧ w.grownBy w' (some b) := by
  have hw1 : IntKind.i64.wrap ((i : Int) + 1) = (i : Int) + 1 := by rw [IntKind.wrap_i64]; omega
  have hw2 : wrap64 ((i : Int) + 1) = (i : Int) + 1 := by unfold wrap64; omega
  have hb1 : (0 : Int) ≤ (i : Int) + 1 := by omega
  have htn : ((i : Int) + 1).toNat = i + 1 := by omega
  have hb0 : (0 : Int) ≤ (i : Int) := by omega
  have hb2 : ¬ (d = i + 1) := by omega
  have hb3 : (i : Int) + 1 ≤ (l.length : Int) + 1 := by omega
  have hb5 : (i : Int) ≤ (l.length : Int) + 1 := by omega
  have hb4 : ¬ (d = i) := by omega
  have hb6 : (i : Int) ≤ (l.length : Int) := by omega
  have hb7 : ¬ ((i : Int) = (l.length : Int)) := by omega
  obtain ⟨_, _, _, hv', hl, hn, hc, hh⟩ := hrow
  cases hv'
  rcases hh with ⟨h, _⟩ | ⟨b', off', cs, h, hb, hs, ht⟩
  · cases h
  cases h
  have hsl := infoSize
  have hmax : d ≤ 9223372036854775807 := by simp only [maxLen] at hc; omega
  have hdl : ((l.drop i).flatMap Itm.cells).length = (l.length - i) * 3 := by rw [cells_len, List.length_drop]
  have hsrc1 : ∀ j v, ((l.drop i).flatMap Itm.cells)[j]? = some v → w.cell? ((⟨b, off + i * 3, none⟩ : Addr).add j) = some v := by
    intro j v hj
    have hjl : j < (l.length - i) * 3 := by rw [← hdl]; exact (List.getElem?_eq_some_iff.1 hj).1
    rw [add_lit', blkCell hb]
    rw [← cells_drop, List.getElem?_drop, ← ht, List.getElem?_take, if_pos (by omega), List.getElem?_drop] at hj
    rw [Nat.add_assoc]; simpa using hj
  have htk : (cs.toList.drop off).take (i * 3 + (l.length - i) * 3) = (l.take i).flatMap Itm.cells ++ (l.drop i).flatMap Itm.cells := by
    rw [show i * 3 + (l.length - i) * 3 = l.length * 3 by omega, ht, ← cells_app, List.take_append_drop]
  obtain ⟨R1, hR1⟩ : ∃ R1 : List Value, R1 = cs.toList.take (off + i * 3 + 3) ++ (l.drop i).flatMap Itm.cells ++ cs.toList.drop (off + i * 3 + 3 + (l.length - i) * 3) := ⟨_, rfl⟩
  obtain ⟨R2, hR2⟩ : ∃ R2 : List Value, R2 = R1.take (off + i * 3) ++ x.cells ++ R1.drop (off + i * 3 + 3) := ⟨_, rfl⟩
  obtain ⟨hfin, hlen2, hlen1⟩ := shift_list (X := x.cells) (by rw [cells_len, List.length_take]; omega) rfl hdl htk (by have := Array.length_toList (xs := cs); omega) R1 R2 hR1 hR2
  rw [Array.length_toList (xs := cs)] at hlen1 hlen2
  have hcp1 : ∀ ty dc sc, (Builtin.copy_ #[40, 40] ty #[.slice (some ⟨b, off + (i + 1) * 3, none⟩) (l.length - i) dc, .slice (some ⟨b, off + i * 3, none⟩) (l.length + 1 - i) sc]).run Tryd.prog w.drew = .ok (goInt (l.length - i : Nat)) (w.drew.setRow b R1.toArray) := fun ty dc sc => by
    have h := run_copy_sz (P := Tryd.prog) w.drew 40 40 ty 30 3 b (off + (i + 1) * 3) (l.length - i) dc (l.length - i) ⟨b, off + i * 3, none⟩ (l.length + 1 - i) sc cs 30 _ Tryd.underlying40 hsl hb (by simp only [Nat.min_def]; split <;> omega) hdl hsrc1 (by rw [hdl]; omega) (cells_one _)
    rw [h, hR1, hdl, show off + (i + 1) * 3 = off + i * 3 + 3 by omega]
  have hb1' : (w.drew.setRow b R1.toArray).heap[b]? = some (.cells R1.toArray 30 (0, 0)) := setRow_heap w.drew b cs _ _ _ hb
  have hv1' : (w.drew.setRow b R1.toArray).heap[vb]? = some (.cells #[.string x.p, .bool x.d, .slice x.dA x.bs.length x.dc] 30 (0, 0)) := (setRow_other w.drew b vb _ hne).trans hv
  have hcp2 : ∀ ty dc, (Builtin.copy_ #[40, 26] ty #[.slice (some ⟨b, off + i * 3, none⟩) (l.length + 1 - i) dc, .slice (some ⟨vb, 0, none⟩) 1 1]).run Tryd.prog (w.drew.setRow b R1.toArray) = .ok (goInt (1 : Nat)) ((w.drew.setRow b R1.toArray).setRow b R2.toArray) := fun ty dc => by
    have h := run_copy_sz (P := Tryd.prog) (w.drew.setRow b R1.toArray) 40 26 ty 30 3 b (off + i * 3) (l.length + 1 - i) dc 1 ⟨vb, 0, none⟩ 1 1 R1.toArray 30 x.cells Tryd.underlying40 hsl hb1' (by simp only [Nat.min_def]; split <;> omega) rfl (fun j v hj => by
      rw [add_lit', Nat.zero_add, blkCell hv1']; simpa [Itm.cells] using hj) (by rw [List.size_toArray, hlen1, show x.cells.length = 3 from rfl]; omega) (by simp [Itm.cells, Value.oneCell'])
    rw [h, hR2]; rfl
  have hov : ∀ lb cb, (callFunc 77 #[.slice (some ⟨vb, 0, none⟩) 1 1, .slice (some ⟨b, off + (i + 1) * 3, none⟩) lb cb]).run Tryd.prog w = .ok (.value (.bool false)) w := fun lb cb => by
    rw [run_callFunc_extern Tryd.func77 (by kernel_rfl) (by kernel_rfl) (by kernel_rfl) (e := Extern.SlicesOverlaps.overlaps #[26, 26] #[4]) (by kernel_rfl),
      Lib.run_overlaps_apart w 26 4 30 Tryd.underlying26 3 sizeItem ⟨vb, 0, none⟩ ⟨b, off + (i + 1) * 3, none⟩ 1 1 lb cb hne 30 30 3 cs.size (by simp [World.shape?, hv]) (by simp [World.shape?, hb]) (by omega) (blkFree hv 0) (blkFree hv 3)]
    rfl
  have HCP := hid hcp1
  have HCP2 := hid hcp2
  have HF : HidP (Row ((w.drew.setRow b R1.toArray).setRow b R2.toArray) 30 3 (.slice (some ⟨b, off, none⟩) (l.length + 1) d) ((l.take i ++ x :: l.drop i).flatMap Itm.cells)) := hid (by
    refine ⟨_, l.length + 1, d, rfl, by rw [cells_len]; simp; omega, hroom, hc, .inr ⟨b, off, R2.toArray, rfl, setRow_heap (w.drew.setRow b R1.toArray) b _ _ _ _ hb1', by rw [List.size_toArray, hlen2]; exact hs, ?_⟩⟩
    rw [show (l.length + 1) * 3 = i * 3 + 3 + (l.length - i) * 3 by omega]
    rw [hfin, cells_app, List.flatMap_cons]
    simp)
  have HOV := hid hov
  clear hcp1 hcp2 ht hsrc1 hov hdl hsl hl hs htk hR1 hR2 hfin hlen1 hlen2 hb1' hv1' hc
  go_enter Tryd.func69, Tryd.ntmps69
  go_wp2_with fail
  rw [HOV.out]
  rw [Oper.upon_value]
  go_wp2_with fail
  go_region_law (refine step_copy_is _ rfl _ _ 40 40 rfl (.slice (some ⟨b, off + (i + 1) * 3, none⟩) (l.length - i) (d - (i + 1))) (.slice (some ⟨b, off + i * 3, none⟩) (l.length + 1 - i) (d - i)) (by simp [Act.eval, Act.put]) (by simp [Act.eval, Act.put]) (HCP.out _ _ _) ?_)
  go_wp2_with fail
  rw [HCP2.out]
  simp only [Result.andThen]
  rw [Oper.upon_value]
  go_wp2_with fail
  go_ret
  exact ⟨⟨rfl, HF.out⟩, rfl, rfl, rfl, by simp, fun k hk hne => by
    rw [setRow_other _ _ _ _ (by rintro rfl; exact hne rfl), setRow_other _ _ _ _ (by rintro rfl; exact hne rfl)]; rfl⟩

end Go.Proofs.YtfoedcmcdpekoaaDoor
