/- changes that came in: what is read of them; Ops, Do, Ref -/
import Derived.Test.YtfoedcmcdpekoaaDoorN3
import Derived.Test.YtfoedcmcdpekoaaDoorP2
namespace Go.Proofs.YtfoedcmcdpekoaaDoor
open Go.RowKit Go.Deep Go.ChangeShapes Go.WideShapes Go.ChangeAt

/-- a change, with the place of its bytes -/
structure OpI where
  k : Int
  n : Int
  p : ByteArray
  q : ByteArray
  bA : Option Addr
  bc : Nat
  bs : List Int
instance : Inhabited OpI := ⟨⟨0, 0, ByteArray.empty, ByteArray.empty, none, 0, []⟩⟩
def OpI.cells (o : OpI) : List Value := [.int .i64 o.k, .int .i64 o.n, .string o.p, .string o.q, .slice o.bA o.bs.length o.bc]
structure OpAt (w : World) (o : OpI) : Prop where
  src : Src w 1 (.slice o.bA o.bs.length o.bc) (nums o.bs)
  rng : ∀ b ∈ o.bs, 0 ≤ b ∧ b < 256
theorem OpAt.below {w w' : World} {o : OpI} (h : OpAt w o) (hb : Below w.heap.size w w') : OpAt w' o := ⟨h.src.below hb, h.rng⟩
/-- a slice of changes -/
structure OpsQ (w : World) (A : Option Addr) (c : Nat) (l : List OpI) : Prop where
  cap : l.length ≤ c
  cell : ∀ (i : Nat) (o : OpI), l[i]? = some o → ∃ b off, A = some ⟨b, off, none⟩ ∧ w.cell? ⟨b, off + i * 5, none⟩ = some (.int .i64 o.k) ∧ w.cell? ⟨b, off + i * 5 + 1, none⟩ = some (.int .i64 o.n) ∧ w.cell? ⟨b, off + i * 5 + 2, none⟩ = some (.string o.p) ∧
    w.cell? ⟨b, off + i * 5 + 3, none⟩ = some (.string o.q) ∧ w.cell? ⟨b, off + i * 5 + 4, none⟩ = some (.slice o.bA o.bs.length o.bc)
  at_ : ∀ o ∈ l, OpAt w o
theorem OpsQ.below {w w' : World} {A : Option Addr} {c : Nat} {l : List OpI} (h : OpsQ w A c l) (hb : Below w.heap.size w w') : OpsQ w' A c l :=
  ⟨h.cap, fun i o ho => by
    obtain ⟨b, off, h0, h1, h2, h3, h4, h5⟩ := h.cell i o ho
    exact ⟨b, off, h0, cellB hb h1, cellB hb h2, cellB hb h3, cellB hb h4, cellB hb h5⟩, fun o ho => (h.at_ o ho).below hb⟩
/-- are changes few, and short? -/
def opB (o : OpI) : Bool := decide (o.p.size ≤ 250) && decide (o.q.size ≤ 250) && decide (o.bs.length ≤ 2100)
def opsB (l : List OpI) (n : Nat) : Bool := decide (l.length ≤ n) && l.all opB

set_option maxRecDepth 100000 in
set_option maxHeartbeats 1600000 in
theorem ops_walk (A : Option Addr) (c : Nat) (l : List OpI) (n : Nat) (w : World) (h : OpsQ w A c l) (hn : n ≤ 1000) : Calls Tryd.prog 27 #[.slice A l.length c, .int .i64 n] w fun e w' => e = .returned (.bool (opsB l n)) ∧ w = w' := by
  by_cases hl : l.length ≤ n
  case neg =>
    have g1 : decide ((l.length : Int) > (n : Int)) = true := decide_eq_true (by omega)
    have hf : opsB l n = false := by unfold opsB; rw [decide_eq_false hl]; rfl
    rw [hf]
    clear hf
    go_enter Tryd.func27, Tryd.ntmps27
    go_wp2_with fail
    go_ret
    exact ⟨rfl, rfl⟩
  have g1 : decide ((l.length : Int) > (n : Int)) = false := decide_eq_false (by omega)
  have HL := hid hl
  go_enter Tryd.func27, Tryd.ntmps27
  go_wp2_with fail
  go_loopg [5] l.length (fun k i wr => ∃ j : Nat, j ≤ l.length ∧ k = l.length - j ∧ i = .int .i64 j ∧ wr = w ∧ (l.take j).all opB = true)
  case atStart => exact ⟨0, Nat.zero_le _, rfl, rfl, rfl, by simp⟩
  case round =>
    obtain ⟨j, hj, rfl, rfl, rfl, ht⟩ := hrel
    have HT := hid ht
    clear ht
    by_cases hlt : j < l.length
    · have i0 : (0 : Int) ≤ (j : Int) := by omega
      have i1 : (j : Int) < (l.length : Int) := by omega
      have hno : opB l[j] = false → opsB l n = false := fun hq => by
        unfold opsB
        rw [Bool.and_eq_false_iff]
        exact .inr (List.all_eq_false.2 ⟨l[j], List.getElem_mem hlt, by simp [hq]⟩)
      have hyes : opB l[j] = true → (l.take (j + 1)).all opB = true := fun hq => by
        rw [List.take_add_one, List.all_append, HT.out, List.getElem?_eq_getElem hlt]
        simpa using hq
      obtain ⟨b, off, hA, c0, c1, c2, c3, c4⟩ := h.cell j l[j] (List.getElem?_eq_getElem hlt)
      subst hA
      clear h
      unfold opB at hno hyes
      obtain ⟨N, hN⟩ : ∃ N, l[j].bs.length = N := ⟨_, rfl⟩
      rw [hN] at c4 hno hyes
      have HNO := hid hno
      have HYES := hid hyes
      clear hN hno hyes
      by_cases h1 : l[j].p.size > 250
      · have g2 : decide ((l[j].p.size : Int) > 250) = true := decide_eq_true (by omega)
        go_wp2_with fail
        go_ret
        exact ⟨by rw [HNO.out (by rw [decide_eq_false (by omega)]; rfl)]; rfl, rfl⟩
      have g2 : decide ((l[j].p.size : Int) > 250) = false := decide_eq_false (by omega)
      by_cases h3 : l[j].q.size > 250
      · have g4 : decide ((l[j].q.size : Int) > 250) = true := decide_eq_true (by omega)
        go_wp2_with fail
        go_ret
        exact ⟨by rw [HNO.out (by rw [decide_eq_false (by omega : ¬ l[j].q.size ≤ 250), Bool.and_false]; rfl)]; rfl, rfl⟩
      have g4 : decide ((l[j].q.size : Int) > 250) = false := decide_eq_false (by omega)
      by_cases h2 : N > 2100
      · have g3 : decide ((N : Int) > 2100) = true := decide_eq_true (by omega)
        go_wp2_with fail
        go_ret
        exact ⟨by rw [HNO.out (by rw [decide_eq_false (by omega : ¬ N ≤ 2100), Bool.and_false])]; rfl, rfl⟩
      have g3 : decide ((N : Int) > 2100) = false := decide_eq_false (by omega)
      go_wp2_with fail
      go_roundg (l.length - (j + 1))
      case measure => omega
      case rel => exact ⟨j + 1, by omega, rfl, by go_num, rfl, HYES.out (by rw [decide_eq_true (by omega), decide_eq_true (by omega), decide_eq_true (by omega)]; rfl)⟩
    · obtain rfl : j = l.length := by omega
      have ht := HT.out
      rw [List.take_length] at ht
      have hy : opsB l n = true := by unfold opsB; rw [decide_eq_true HL.out, ht]; rfl
      have HY := hid hy
      clear hy ht
      go_wp2_with fail
      go_ret
      exact ⟨by rw [HY.out]; rfl, rfl⟩

/-- a change that is short, its bytes there -/
structure OpGood (w : World) (o : OpI) : Prop where
  p : o.p.size ≤ 250
  q : o.q.size ≤ 250
  b : o.bs.length ≤ 2100
  at_ : OpAt w o
theorem OpGood.below {w w' : World} {o : OpI} (h : OpGood w o) (hb : Below w.heap.size w w') : OpGood w' o := ⟨h.p, h.q, h.b, h.at_.below hb⟩
theorem OpAt.good {w : World} {o : OpI} (h : OpAt w o) (hb : opB o = true) : OpGood w o := by
  unfold opB at hb
  simp only [Bool.and_eq_true, decide_eq_true_eq] at hb
  exact ⟨hb.1.1, hb.1.2, hb.2, h⟩
/-- what a change makes of a tree -/
def doA (t : List AIt) (o : OpI) : List AIt × Int :=
  if o.k = 0 then mkdirA t o.p.toList else if o.k = 1 then writeA t o.p.toList o.bs else if o.k = 2 then removeA t o.p.toList (o.n == 1) else if o.k = 3 then renameA t o.p.toList o.q.toList else (t, 0)

set_option maxRecDepth 100000 in
set_option maxHeartbeats 4000000 in
theorem do_walk (A : Option Addr) (c : Nat) (l : List Itm) (o : OpI) (w : World) (h : Tr w A c l) (ho : OpGood w o) :
    Calls Tryd.prog 28 #[.slice A l.length c, .agg #[.int .i64 o.k, .int .i64 o.n, .string o.p, .string o.q, .slice o.bA o.bs.length o.bc]] w fun e w' => (∃ B d l' f, e = .returned (.tuple #[.slice B l'.length d, .int .i64 f]) ∧ Tr w' B d l' ∧ (l'.map Itm.abs, f) = doA (l.map Itm.abs) o) ∧ Below w.heap.size w w' := by
  have hb0 := thenA (Below.refl _ w) (.cells #[.int .i64 o.k, .int .i64 o.n, .string o.p, .string o.q, .slice o.bA o.bs.length o.bc] 46 (0, 0))
  have hp : o.p.size ≤ 140737488351232 := by have := ho.p; omega
  have hq : o.q.size ≤ 140737488351232 := by have := ho.q; omega
  have HH := hid h
  have HO := hid ho
  clear h ho
  by_cases h0 : o.k = 0
  · have g0 : (o.k == 0) = true := by simp [h0]
    have HK0 := hid h0
    clear h0
    go_enter Tryd.func28, Tryd.ntmps28
    go_wp2_with fail
    refine (mkdir_walk A c l o.p _ (HH.out.below hb0) hp).mono ?_
    rintro e w1 ⟨⟨B, d, l', f, rfl, ht, hl⟩, hb1⟩
    replace hl := hid hl
    have hb2 := thenB hb0 hb1
    go_wp2_with fail
    go_ret2
    exact ⟨⟨B, d, l', f, rfl, ht, by rw [hl.out]; unfold doA; rw [if_pos HK0.out]⟩, hb2⟩
  have g0 : (o.k == 0) = false := by simp [h0]
  have h0' := hid h0
  clear h0
  by_cases h1 : o.k = 1
  · have g1 : (o.k == 1) = true := by simp [h1]
    have HK1 := hid h1
    clear h1
    go_enter Tryd.func28, Tryd.ntmps28
    go_wp2_with fail
    refine (write_walk A c l o.p o.bA o.bc o.bs _ (HH.out.below hb0) ⟨hp, by show o.bs.length ≤ _; have := HO.out.b; omega, (HO.out.at_.below hb0).src, HO.out.at_.rng⟩).mono ?_
    rintro e w1 ⟨⟨B, d, l', f, rfl, ht, hl⟩, hb1⟩
    replace hl := hid hl
    have hb2 := thenB hb0 hb1
    go_wp2_with fail
    go_ret2
    exact ⟨⟨B, d, l', f, rfl, ht, by rw [hl.out]; unfold doA; rw [if_neg h0'.out, if_pos HK1.out]⟩, hb2⟩
  have g1 : (o.k == 1) = false := by simp [h1]
  have h1' := hid h1
  clear h1
  by_cases h2 : o.k = 2
  · have g2 : (o.k == 2) = true := by simp [h2]
    have HK2 := hid h2
    clear h2
    go_enter Tryd.func28, Tryd.ntmps28
    go_wp2_with fail
    refine (remove_walk A c l o.p (o.n == 1) _ (HH.out.below hb0) hp).mono ?_
    rintro e w1 ⟨⟨B, d, l', f, rfl, ht, hl⟩, hb1⟩
    replace hl := hid hl
    have hb2 := thenB hb0 hb1
    go_wp2_with fail
    go_ret2
    exact ⟨⟨B, d, l', f, rfl, ht, by rw [hl.out]; unfold doA; rw [if_neg h0'.out, if_neg h1'.out, if_pos HK2.out]⟩, hb2⟩
  have g2 : (o.k == 2) = false := by simp [h2]
  have h2' := hid h2
  clear h2
  by_cases h3 : o.k = 3
  · have g3 : (o.k == 3) = true := by simp [h3]
    have HK3 := hid h3
    clear h3
    go_enter Tryd.func28, Tryd.ntmps28
    go_wp2_with fail
    refine (rename_walk A c l o.p o.q _ (HH.out.below hb0) hp hq).mono ?_
    rintro e w1 ⟨⟨B, d, l', f, rfl, ht, hl⟩, hb1⟩
    replace hl := hid hl
    have hb2 := thenB hb0 hb1
    go_wp2_with fail
    go_ret2
    exact ⟨⟨B, d, l', f, rfl, ht, by rw [hl.out, renameB_eq]; unfold doA; rw [if_neg h0'.out, if_neg h1'.out, if_neg h2'.out, if_pos HK3.out]⟩, hb2⟩
  have g3 : (o.k == 3) = false := by simp [h3]
  have h3' := hid h3
  clear h3
  go_enter Tryd.func28, Tryd.ntmps28
  go_wp2_with fail
  go_ret2
  exact ⟨⟨A, c, l, 0, rfl, HH.out.below hb0, by unfold doA; rw [if_neg h0'.out, if_neg h1'.out, if_neg h2'.out, if_neg h3'.out]⟩, hb0⟩

set_option maxRecDepth 100000 in
set_option maxHeartbeats 4000000 in
theorem refdo_walk (A : Option Addr) (c : Nat) (l : List Itm) (o : OpI) (w : World) (h : Tr w A c l) (ho : OpGood w o) :
    Calls Tryd.prog 29 #[.slice A l.length c, .agg #[.int .i64 o.k, .int .i64 o.n, .string o.p, .string o.q, .slice o.bA o.bs.length o.bc]] w fun e w' => (∃ B d l' f, e = .returned (.tuple #[.slice B l'.length d, .int .i64 f]) ∧ Tr w' B d l' ∧ (l'.map Itm.abs, f) = doA (l.map Itm.abs) o) ∧ Below w.heap.size w w' := by
  have hb0 := thenA (Below.refl _ w) (.cells #[.int .i64 o.k, .int .i64 o.n, .string o.p, .string o.q, .slice o.bA o.bs.length o.bc] 46 (0, 0))
  have hp : o.p.size ≤ 140737488351232 := by have := ho.p; omega
  have hq : o.q.size ≤ 140737488351232 := by have := ho.q; omega
  have HH := hid h
  have HO := hid ho
  clear h ho
  by_cases h0 : o.k = 0
  · have g0 : (o.k == 0) = true := by simp [h0]
    have HK0 := hid h0
    clear h0
    go_enter Tryd.func29, Tryd.ntmps29
    go_wp2_with fail
    refine (refmkdir A c l o.p _ (HH.out.below hb0) hp).mono ?_
    rintro e w1 ⟨⟨B, d, l', f, rfl, ht, hl⟩, hb1⟩
    replace hl := hid hl
    have hb2 := thenB hb0 hb1
    go_wp2_with fail
    go_ret2
    exact ⟨⟨B, d, l', f, rfl, ht, by rw [hl.out]; unfold doA; rw [if_pos HK0.out]⟩, hb2⟩
  have g0 : (o.k == 0) = false := by simp [h0]
  have h0' := hid h0
  clear h0
  by_cases h1 : o.k = 1
  · have g1 : (o.k == 1) = true := by simp [h1]
    have HK1 := hid h1
    clear h1
    go_enter Tryd.func29, Tryd.ntmps29
    go_wp2_with fail
    refine (refwrite A c l o.p o.bA o.bc o.bs _ (HH.out.below hb0) ⟨hp, by show o.bs.length ≤ _; have := HO.out.b; omega, (HO.out.at_.below hb0).src, HO.out.at_.rng⟩).mono ?_
    rintro e w1 ⟨⟨B, d, l', f, rfl, ht, hl⟩, hb1⟩
    replace hl := hid hl
    have hb2 := thenB hb0 hb1
    go_wp2_with fail
    go_ret2
    exact ⟨⟨B, d, l', f, rfl, ht, by rw [hl.out]; unfold doA; rw [if_neg h0'.out, if_pos HK1.out]⟩, hb2⟩
  have g1 : (o.k == 1) = false := by simp [h1]
  have h1' := hid h1
  clear h1
  by_cases h2 : o.k = 2
  · have g2 : (o.k == 2) = true := by simp [h2]
    have HK2 := hid h2
    clear h2
    go_enter Tryd.func29, Tryd.ntmps29
    go_wp2_with fail
    refine (refremove A c l o.p (o.n == 1) _ (HH.out.below hb0) hp).mono ?_
    rintro e w1 ⟨⟨B, d, l', f, rfl, ht, hl⟩, hb1⟩
    replace hl := hid hl
    have hb2 := thenB hb0 hb1
    go_wp2_with fail
    go_ret2
    exact ⟨⟨B, d, l', f, rfl, ht, by rw [hl.out]; unfold doA; rw [if_neg h0'.out, if_neg h1'.out, if_pos HK2.out]⟩, hb2⟩
  have g2 : (o.k == 2) = false := by simp [h2]
  have h2' := hid h2
  clear h2
  by_cases h3 : o.k = 3
  · have g3 : (o.k == 3) = true := by simp [h3]
    have HK3 := hid h3
    clear h3
    go_enter Tryd.func29, Tryd.ntmps29
    go_wp2_with fail
    refine (refrename A c l o.p o.q _ (HH.out.below hb0) hp hq).mono ?_
    rintro e w1 ⟨⟨B, d, l', f, rfl, ht, hl⟩, hb1⟩
    replace hl := hid hl
    have hb2 := thenB hb0 hb1
    go_wp2_with fail
    go_ret2
    exact ⟨⟨B, d, l', f, rfl, ht, by rw [hl.out]; unfold doA; rw [if_neg h0'.out, if_neg h1'.out, if_neg h2'.out, if_pos HK3.out]⟩, hb2⟩
  have g3 : (o.k == 3) = false := by simp [h3]
  have h3' := hid h3
  clear h3
  go_enter Tryd.func29, Tryd.ntmps29
  go_wp2_with fail
  go_ret2
  exact ⟨⟨A, c, l, 0, rfl, HH.out.below hb0, by unfold doA; rw [if_neg h0'.out, if_neg h1'.out, if_neg h2'.out, if_neg h3'.out]⟩, hb0⟩

end Go.Proofs.YtfoedcmcdpekoaaDoor
