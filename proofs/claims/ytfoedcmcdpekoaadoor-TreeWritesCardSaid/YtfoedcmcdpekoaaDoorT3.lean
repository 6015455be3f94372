/- a text cut at each slash: the plain law, and the reference's parts -/
import Derived.Test.YtfoedcmcdpekoaaDoorT2
import Derived.Deep.LoopGhost
import Derived.Test.YtfoedcmcdpekoaaDoorB3
namespace Go.Proofs.YtfoedcmcdpekoaaDoor
open Go.RowKit

/-- a text, cut at each slash -/
def partsL : List UInt8 → List (List UInt8)
  | [] => [[]]
  | b :: r => if b = 47 then [] :: partsL r else match partsL r with
    | [] => [[b]]
    | x :: t => (b :: x) :: t
theorem partsL_ne (l : List UInt8) : partsL l ≠ [] := by
  cases l with
  | nil => simp [partsL]
  | cons b r =>
    unfold partsL
    split
    · simp
    · split <;> simp
theorem partsL_none {x : List UInt8} (h : 47 ∉ x) : partsL x = [x] := by
  induction x with
  | nil => rfl
  | cons b r ih =>
    have hb : b ≠ 47 := fun e => h (by simp [e])
    have hr : 47 ∉ r := fun e => h (by simp [e])
    unfold partsL
    rw [if_neg hb, ih hr]
theorem partsL_cut {x : List UInt8} (h : 47 ∉ x) (y : List UInt8) : partsL (x ++ 47 :: y) = x :: partsL y := by
  induction x with
  | nil => simp [partsL]
  | cons b r ih =>
    have hb : b ≠ 47 := fun e => h (by simp [e])
    have hr : 47 ∉ r := fun e => h (by simp [e])
    rw [List.cons_append]
    show (if b = 47 then _ else _) = _
    rw [if_neg hb, ih hr]
/-- how long a text is, by its parts -/
theorem partsL_size (l : List UInt8) : l.length + 1 = ((partsL l).map fun x => x.length + 1).sum := by
  induction l with
  | nil => rfl
  | cons b r ih =>
    unfold partsL
    split
    · simp [← ih]; omega
    · cases hp : partsL r with
      | nil => exact absurd hp (partsL_ne r)
      | cons x t =>
        rw [hp] at ih
        simp at ih ⊢
        omega
def pathB (l : List UInt8) : Bool := (partsL l).all partB && decide ((partsL l).length ≤ 6)
theorem pathB_short {l : List UInt8} (h : pathB l = true) : l.length ≤ 125 := by
  simp only [pathB, Bool.and_eq_true, decide_eq_true_eq] at h
  have hs := partsL_size l
  have key : ∀ L : List (List UInt8), L.all partB = true → (L.map fun x => x.length + 1).sum ≤ 21 * L.length := by
    intro L
    induction L with
    | nil => simp
    | cons x t ih =>
      intro hL
      simp only [List.all_cons, Bool.and_eq_true] at hL
      have h1 := ih hL.2
      have h2 : x.length ≤ 20 := by
        have := hL.1
        simp only [partB, Bool.and_eq_true, decide_eq_true_eq] at this
        exact this.1.1.1.2
      simp only [List.map_cons, List.sum_cons, List.length_cons]
      omega
  have := key _ h.1
  omega

theorem ext_list (s : ByteArray) (a b : Nat) : (s.extract a b).toList = (s.toList.drop a).take (b - a) := by
  rw [ByteArray.toList_eq, ByteArray.toList_eq]
  simp [ByteArray.data_extract, Array.toList_extract, List.extract_eq_take_drop]

theorem parts_on {l : List UInt8} {a j : Nat} {x : UInt8} (h : 47 ∉ (l.drop a).take (j - a)) (haj : a ≤ j) (hx : l[j]? = some x) (hne : ¬ x.toNat = 47) : 47 ∉ (l.drop a).take (j + 1 - a) := by
  rw [show j + 1 - a = (j - a) + 1 by omega, List.take_add_one, List.getElem?_drop, show a + (j - a) = j by omega, hx]
  simp only [Option.toList_some, List.mem_append, List.mem_singleton, not_or]
  refine ⟨h, ?_⟩
  rintro rfl
  exact hne rfl
theorem parts_slash {l : List UInt8} {a j : Nat} {x : UInt8} (h : 47 ∉ (l.drop a).take (j - a)) (haj : a ≤ j) (hx : l[j]? = some x) (hne : x.toNat = 47) : partsL (l.drop a) = (l.drop a).take (j - a) :: partsL (l.drop (j + 1)) := by
  have hx47 : x = 47 := UInt8.toNat_inj.1 hne
  subst hx47
  have hj : j < l.length := (List.getElem?_eq_some_iff.1 hx).1
  have : l.drop a = (l.drop a).take (j - a) ++ 47 :: l.drop (j + 1) := by
    conv => lhs; rw [← List.take_append_drop (j - a) (l.drop a)]
    congr 1
    rw [List.drop_drop, show a + (j - a) = j by omega, List.drop_eq_getElem_cons hj]
    rw [List.getElem?_eq_getElem hj] at hx
    rw [Option.some.inj hx]
  conv => lhs; rw [this]
  exact partsL_cut h _

theorem info9 : (Tryd.prog.info? 9).map (fun i => (i.zero, i.size, i.bytes)) = some (some (.string ByteArray.empty), 1, 16) := by kernel_rfl

set_option maxRecDepth 100000 in
set_option maxHeartbeats 1600000 in
theorem refparts (s : ByteArray) (w : World) (h : s.size ≤ 250) : Calls Tryd.prog 40 #[.string s] w fun e w' => ∃ A n c, e = .returned (.slice A n c) ∧ ∃ ps : List ByteArray, Row w' 9 1 (.slice A n c) (ps.map .string) ∧ ps.map (·.toList) = partsL s.toList ∧ Below w.heap.size w w' := by
  obtain ⟨i0, hi0, hz0, hz1, hz2⟩ := info_parts info9
  have hl := str_len s
  go_enter Tryd.func40, Tryd.ntmps40
  go_wp2_with fail
  go_loopg [3, 4, 5] (s.size + 1) (fun k out from_ i wr => ∃ (a j : Nat) (ps : List ByteArray) (pA : Option Addr) (pn pc : Nat), k = s.size + 1 - j ∧ j ≤ s.size + 1 ∧ a ≤ j ∧ ps.length ≤ j ∧ i = .int .i64 j ∧ from_ = .int .i64 a ∧ out = .slice pA pn pc ∧ Row wr 9 1 (.slice pA pn pc) (ps.map .string) ∧ Below w.heap.size w wr ∧
    (∀ k, (Value.slice pA pn pc).ownBlock = some k → w.heap.size ≤ k) ∧ (j ≤ s.size → 47 ∉ (s.toList.drop a).take (j - a) ∧ ps.map (·.toList) ++ partsL (s.toList.drop a) = partsL s.toList) ∧ (j = s.size + 1 → ps.map (·.toList) = partsL s.toList))
  case atStart => exact ⟨0, 0, [], none, 0, 0, rfl, by omega, by omega, by simp, rfl, rfl, rfl, Row.nil _ _ _, Below.refl _ _, by simp [Value.ownBlock], fun _ => ⟨by simp, by simp⟩, by omega⟩
  case round =>
    obtain ⟨a, j, ps, pA, pn, pc, rfl, hj, haj, hpl, rfl, rfl, rfl, hrow, hb, hf, h1, h2⟩ := hrel
    by_cases hlt : j ≤ s.size
    · have g1 : decide ((j : Int) ≤ (s.size : Int)) = true := decide_eq_true (by omega)
      obtain ⟨hno, hps⟩ := h1 hlt
      have hext := ext_list s a j
      have hc1 : (ps.map Value.string).length + 1 ≤ maxLen := by simp only [List.length_map, maxLen]; omega
      have hc2 : ((ps.map Value.string).length + 1) * 16 ≤ 140737488355328 := by simp only [List.length_map]; omega
      have b1 : (0 : Int) ≤ (a : Int) := by omega
      have b2 : (a : Int) ≤ (j : Int) := by omega
      have b3 : (j : Int) ≤ (s.size : Int) := by omega
      have HN := hid hno
      have HP := hid hps
      have HE := hid hext
      clear h1 h2 hno hps hext
      by_cases hend : j = s.size
      · have g2 : ((j : Int) == (s.size : Int)) = true := by simp [hend]
        have he := hid hend
        clear hend
        go_wp2_with (at_builtin; refine wpList_append_row _ rfl _ _ 69 rfl 9 i0 (.string ByteArray.empty) 1 16 Tryd.underlying69 hi0 hz0 hz1 hz2 rfl (by decide) (.slice pA pn pc) (ps.map .string) rfl (by exact hrow.keep fun k hk => Below.heap_alloc wr _ _ (hrow.lt k hk)) (.slice (some ⟨wr.heap.size, 0, none⟩) 1 1) [.string (s.extract a j)] rfl (Src.one (heap_alloc_new _ _)) (by simp [Value.oneCell']) hc1 hc2 ?_; intro bA bn bc w2 hr2 hg2 ha2)
        have hb2 : Below w.heap.size w w2 := Below.grownNew (hb.alloc hb.size (.cells #[.string (s.extract a j)] 9 (0, 0))) hg2 (by have := hb.size; simp; omega) hf
        have hf2 := fresh_of ha2 hf (by have := hb.size; simp; omega)
        go_roundg (s.size + 1 - (j + 1))
        case measure => omega
        case rel => exact ⟨j + 1, j + 1, ps ++ [s.extract a j], bA, bn, bc, by omega, by omega, by omega, by simp; omega, by go_num, by go_num, rfl, by rw [List.map_append]; exact hr2, hb2, hf2, fun hh => absurd hh (by have := he.out; omega), fun _ => by rw [List.map_append, ← HP.out, partsL_none (x := s.toList.drop a) (by have := HN.out; rw [List.take_of_length_le (by rw [List.length_drop, hl]; have := he.out; omega)] at this; exact this), ← List.take_of_length_le (l := s.toList.drop a) (i := j - a) (by rw [List.length_drop, hl]; have := he.out; omega), ← HE.out]; rfl⟩
      · have g2 : ((j : Int) == (s.size : Int)) = false := by simp; omega
        have hjs : j < s.size := by omega
        have HG := hid (str_get s j hjs)
        have i1 : (j : Int) < (s.size : Int) := by omega
        have i2 : (0 : Int) ≤ (j : Int) := by omega
        cases d3 : ((s[j].toNat : Int) == 47)
        · go_wp2_with fail
          go_roundg (s.size + 1 - (j + 1))
          case measure => omega
          case rel => exact ⟨a, j + 1, ps, pA, pn, pc, by omega, by omega, by omega, by omega, by go_num, rfl, rfl, hrow, hb, hf, fun _ => ⟨parts_on HN.out haj HG.out (by simp at d3; omega), HP.out⟩, fun hh => absurd hh (by omega)⟩
        · go_wp2_with (at_builtin; refine wpList_append_row _ rfl _ _ 69 rfl 9 i0 (.string ByteArray.empty) 1 16 Tryd.underlying69 hi0 hz0 hz1 hz2 rfl (by decide) (.slice pA pn pc) (ps.map .string) rfl (by exact hrow.keep fun k hk => Below.heap_alloc wr _ _ (hrow.lt k hk)) (.slice (some ⟨wr.heap.size, 0, none⟩) 1 1) [.string (s.extract a j)] rfl (Src.one (heap_alloc_new _ _)) (by simp [Value.oneCell']) hc1 hc2 ?_; intro bA bn bc w2 hr2 hg2 ha2)
          have hb2 : Below w.heap.size w w2 := Below.grownNew (hb.alloc hb.size (.cells #[.string (s.extract a j)] 9 (0, 0))) hg2 (by have := hb.size; simp; omega) hf
          have hf2 := fresh_of ha2 hf (by have := hb.size; simp; omega)
          go_roundg (s.size + 1 - (j + 1))
          case measure => omega
          case rel => exact ⟨j + 1, j + 1, ps ++ [s.extract a j], bA, bn, bc, by omega, by omega, by omega, by simp; omega, by go_num, by go_num, rfl, by rw [List.map_append]; exact hr2, hb2, hf2, fun _ => ⟨by simp, by rw [List.map_append, ← HP.out, parts_slash HN.out haj HG.out (by simp at d3; omega), List.append_assoc, List.map_cons, List.map_nil, HE.out]; rfl⟩, fun hh => absurd hh (by omega)⟩
    · have g1 : decide ((j : Int) ≤ (s.size : Int)) = false := decide_eq_false (by omega)
      have HP := hid (h2 (by omega))
      clear h1 h2
      go_wp2_with fail
      go_ret
      exact ⟨_, _, _, rfl, ps, hrow, HP.out, hb⟩

end Go.Proofs.YtfoedcmcdpekoaaDoor
