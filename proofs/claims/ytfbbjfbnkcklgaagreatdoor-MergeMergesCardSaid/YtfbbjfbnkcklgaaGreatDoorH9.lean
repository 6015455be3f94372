/- the document's Merge (printed by gen/genH9.py) -/
import Derived.Test.YtfbbjfbnkcklgaaGreatDoorH8
namespace Go.Proofs.YtfbbjfbnkcklgaaGreatDoor
open Go.RowKit

theorem at_any (n : Nat) : AtR n := by
  induction n with
  | zero => exact at_step 0 fun m h => by cases h
  | succ n ih => exact at_step (n + 1) fun m h => by cases h; exact ih
/-- what the document's merge has made -/
theorem made_ref {o a b : List AIt} (h : Right3 o a b) :
    (mgX (namesA o a b) (descB o a b) (ruleA o a b) 126 []).foldl addK [] = mA o a b ∧ (mgX (namesA o a b) (descB o a b) (ruleB o a b) 126 []).foldl addK [] = mB o a b ∧ (mgX (namesA o a b) (descB o a b) (ruleO o a b) 126 []).foldl addK [] = mO o a b ∧
      (mgC (namesA o a b) (descB o a b) (confB o a b) 126 []).foldl putK [] = mgS o a b := by
  have key : ∀ (s : Txt → List AIt) (hs : Sel o a b s), (mgL o a b s).foldl addK [] = mgT o a b s := fun s hs => addsK _ [] List.Pairwise.nil (mgL_distinct h hs) fun x _ y hy => by cases hy
  refine ⟨?_, ?_, ?_, putsK _ [] List.Pairwise.nil⟩
  · rw [show mgX (namesA o a b) (descB o a b) (ruleA o a b) 126 [] = mgL o a b (selA o a b) from mgL_A.symm]
    exact key _ (sel_A o a b)
  · rw [show mgX (namesA o a b) (descB o a b) (ruleB o a b) 126 [] = mgL o a b (selB o a b) from mgL_B.symm]
    exact key _ (sel_B o a b)
  · rw [show mgX (namesA o a b) (descB o a b) (ruleO o a b) 126 [] = mgL o a b (selO o a b) from mgL_O.symm]
    exact key _ (sel_O o a b)
theorem room_ref {o a b : List AIt} (h : Right3 o a b) (lo : o.length ≤ 60) (la : a.length ≤ 60) (lb : b.length ≤ 60) : Room ⟨⟨none, 0, []⟩, ⟨none, 0, []⟩, ⟨none, 0, []⟩, none, 0, []⟩ (mgX (namesA o a b) (descB o a b) (ruleA o a b) 126 []).length (mgX (namesA o a b) (descB o a b) (ruleB o a b) 126 []).length (mgX (namesA o a b) (descB o a b) (ruleO o a b) 126 []).length (mgC (namesA o a b) (descB o a b) (confB o a b) 126 []).length := by
  have h1 := mgL_len h (sel_A o a b)
  have h2 := mgL_len h (sel_B o a b)
  have h3 := mgL_len h (sel_O o a b)
  have h4 := mgCs_len h
  rw [mgL_A] at h1
  rw [mgL_B] at h2
  rw [mgL_O] at h3
  exact ⟨Nat.le_trans (Nat.add_le_add_left h1 _) (by simp; omega), Nat.le_trans (Nat.add_le_add_left h2 _) (by simp; omega), Nat.le_trans (Nat.add_le_add_left h3 _) (by simp; omega), Nat.le_trans (Nat.add_le_add_left h4 _) (by simp; omega)⟩

set_option maxRecDepth 100000 in
set_option maxHeartbeats 4000000 in
theorem refmerge_bad (o a b : TrI) (w : World) (ho : Tr w o.A o.c o.l) (ha : Tr w a.A a.c a.l) (hb : Tr w b.A b.c b.l) (hr : right3 (o.l.map Itm.abs) (a.l.map Itm.abs) (b.l.map Itm.abs) = false) :
    Calls Tryz.prog 12 #[.slice o.A o.l.length o.c, .slice a.A a.l.length a.c, .slice b.A b.l.length b.c] w fun e w' => (∃ y : RI, e = .returned (.tuple #[.agg #[.slice y.a.A y.a.l.length y.a.c, .slice y.b.A y.b.l.length y.b.c, .slice y.o.A y.o.l.length y.o.c, .slice y.cA y.LC.length y.cc], .int .i64 (mOut (o.l.map Itm.abs) (a.l.map Itm.abs) (b.l.map Itm.abs)).code]) ∧ RIok w' y ∧ y.abs = ((mOut (o.l.map Itm.abs) (a.l.map Itm.abs) (b.l.map Itm.abs)).A, (mOut (o.l.map Itm.abs) (a.l.map Itm.abs) (b.l.map Itm.abs)).B, (mOut (o.l.map Itm.abs) (a.l.map Itm.abs) (b.l.map Itm.abs)).O, (mOut (o.l.map Itm.abs) (a.l.map Itm.abs) (b.l.map Itm.abs)).C)) ∧ Below w.heap.size w w' := by
  have HOUT : HidP (mOut (o.l.map Itm.abs) (a.l.map Itm.abs) (b.l.map Itm.abs) = ⟨[], [], [], [], 1⟩) := hid (by unfold mOut; rw [hr]; rfl)
  have H1 := hid (fun W (hW : Below w.heap.size w W) => refright o.A o.c o.l W (ho.below hW))
  have H2 := hid (fun W (hW : Below w.heap.size w W) => refright a.A a.c a.l W (ha.below hW))
  have H3 := hid (fun W (hW : Below w.heap.size w W) => refright b.A b.c b.l W (hb.below hW))
  unfold right3 at hr
  clear ho ha hb
  obtain ⟨r1, h1⟩ : ∃ r, rightA (o.l.map Itm.abs) = r := ⟨_, rfl⟩
  obtain ⟨r2, h2⟩ : ∃ r, rightA (a.l.map Itm.abs) = r := ⟨_, rfl⟩
  obtain ⟨r3, h3⟩ : ∃ r, rightA (b.l.map Itm.abs) = r := ⟨_, rfl⟩
  simp only [h1] at H1
  simp only [h2] at H2
  simp only [h3] at H3
  rw [h1, h2, h3] at hr
  clear h1 h2 h3
  have hb0 := thenA (Below.refl _ w) (.cells #[.slice none 0 0, .slice none 0 0, .slice none 0 0, .slice none 0 0] 33 (0, 0))
  have hq0 := heap_alloc_new w (.cells #[.slice none 0 0, .slice none 0 0, .slice none 0 0, .slice none 0 0] 33 (0, 0))
  have HQ0 := hid hq0
  clear hq0
  cases r1
  · clear hr
    go_enter Tryz.func12, Tryz.ntmps12
    go_wp2_with fail
    refine (H1.out _ hb0).mono ?_
    rintro e w1 ⟨rfl, hb1'⟩
    have hb1 := thenB hb0 hb1'
    have hq := (hb1'.block _ (blkLt HQ0.out)).trans HQ0.out
    clear hb0 hb1' HQ0
    have r0 : w1.cell? ⟨w.heap.size, 0, none⟩ = some (.slice none 0 0) := (blkCell hq 0).trans rfl
    have r1 : w1.cell? ⟨w.heap.size, 1, none⟩ = some (.slice none 0 0) := (blkCell hq 1).trans rfl
    have r2 : w1.cell? ⟨w.heap.size, 2, none⟩ = some (.slice none 0 0) := (blkCell hq 2).trans rfl
    have r3 : w1.cell? ⟨w.heap.size, 3, none⟩ = some (.slice none 0 0) := (blkCell hq 3).trans rfl
    have f0 := blkFree hq 0
    have f1 := blkFree hq 1
    have f2 := blkFree hq 2
    have f3 := blkFree hq 3
    have hF := blkSet (blkSet (blkSet (blkSet hq 0 (.slice none 0 0)) 1 (.slice none 0 0)) 2 (.slice none 0 0)) 3 (.slice none 0 0)
    have y0 := (blkCell hF 0).trans (rfl : _ = some (Value.slice none 0 0))
    have y1 := (blkCell hF 1).trans (rfl : _ = some (Value.slice none 0 0))
    have y2 := (blkCell hF 2).trans (rfl : _ = some (Value.slice none 0 0))
    have y3 := (blkCell hF 3).trans (rfl : _ = some (Value.slice none 0 0))
    have T5 : HidP (Below w.heap.size w ((((w1.setCell ⟨w.heap.size, 0, none⟩ (.slice none 0 0)).setCell ⟨w.heap.size, 1, none⟩ (.slice none 0 0)).setCell ⟨w.heap.size, 2, none⟩ (.slice none 0 0)).setCell ⟨w.heap.size, 3, none⟩ (.slice none 0 0))) := hid (KR.below hb1 (KR.setR (KR.setR (KR.setR (KR.setR (Keep.refl _ w1) 0 _) 1 _) 2 _) 3 _) (Nat.le_refl _))
    clear hF
    go_wp2_with fail
    refine bodyPost_ret (v := .tuple #[.agg #[.slice none 0 0, .slice none 0 0, .slice none 0 0, .slice none 0 0], .int .i64 1]) (by simp [results, Tryz.results12, go_sem, y0, y1, y2, y3]) rfl ?_
    exact ⟨⟨⟨⟨none, 0, []⟩, ⟨none, 0, []⟩, ⟨none, 0, []⟩, none, 0, []⟩, by rw [HOUT.out]; rfl, ⟨Tr.none _, Tr.none _, Tr.none _, Row.nil _ _ _, by simp⟩, by rw [HOUT.out]; rfl⟩, T5.out⟩
  cases r2
  · clear hr
    go_enter Tryz.func12, Tryz.ntmps12
    go_wp2_with fail
    refine (H1.out _ hb0).mono ?_
    rintro e w1 ⟨rfl, hb1'⟩
    have hb1 := thenB hb0 hb1'
    go_wp2_with fail
    refine (H2.out _ hb1).mono ?_
    rintro e w2 ⟨rfl, hb2'⟩
    have hb2 := thenB hb1 hb2'
    have hq := ((thenB hb1' hb2').block _ (blkLt HQ0.out)).trans HQ0.out
    clear hb0 hb1' hb1 hb2' HQ0
    have r0 : w2.cell? ⟨w.heap.size, 0, none⟩ = some (.slice none 0 0) := (blkCell hq 0).trans rfl
    have r1 : w2.cell? ⟨w.heap.size, 1, none⟩ = some (.slice none 0 0) := (blkCell hq 1).trans rfl
    have r2 : w2.cell? ⟨w.heap.size, 2, none⟩ = some (.slice none 0 0) := (blkCell hq 2).trans rfl
    have r3 : w2.cell? ⟨w.heap.size, 3, none⟩ = some (.slice none 0 0) := (blkCell hq 3).trans rfl
    have f0 := blkFree hq 0
    have f1 := blkFree hq 1
    have f2 := blkFree hq 2
    have f3 := blkFree hq 3
    have hF := blkSet (blkSet (blkSet (blkSet hq 0 (.slice none 0 0)) 1 (.slice none 0 0)) 2 (.slice none 0 0)) 3 (.slice none 0 0)
    have y0 := (blkCell hF 0).trans (rfl : _ = some (Value.slice none 0 0))
    have y1 := (blkCell hF 1).trans (rfl : _ = some (Value.slice none 0 0))
    have y2 := (blkCell hF 2).trans (rfl : _ = some (Value.slice none 0 0))
    have y3 := (blkCell hF 3).trans (rfl : _ = some (Value.slice none 0 0))
    have T5 : HidP (Below w.heap.size w ((((w2.setCell ⟨w.heap.size, 0, none⟩ (.slice none 0 0)).setCell ⟨w.heap.size, 1, none⟩ (.slice none 0 0)).setCell ⟨w.heap.size, 2, none⟩ (.slice none 0 0)).setCell ⟨w.heap.size, 3, none⟩ (.slice none 0 0))) := hid (KR.below hb2 (KR.setR (KR.setR (KR.setR (KR.setR (Keep.refl _ w2) 0 _) 1 _) 2 _) 3 _) (Nat.le_refl _))
    clear hF
    go_wp2_with fail
    refine bodyPost_ret (v := .tuple #[.agg #[.slice none 0 0, .slice none 0 0, .slice none 0 0, .slice none 0 0], .int .i64 1]) (by simp [results, Tryz.results12, go_sem, y0, y1, y2, y3]) rfl ?_
    exact ⟨⟨⟨⟨none, 0, []⟩, ⟨none, 0, []⟩, ⟨none, 0, []⟩, none, 0, []⟩, by rw [HOUT.out]; rfl, ⟨Tr.none _, Tr.none _, Tr.none _, Row.nil _ _ _, by simp⟩, by rw [HOUT.out]; rfl⟩, T5.out⟩
  cases r3
  · clear hr
    go_enter Tryz.func12, Tryz.ntmps12
    go_wp2_with fail
    refine (H1.out _ hb0).mono ?_
    rintro e w1 ⟨rfl, hb1'⟩
    have hb1 := thenB hb0 hb1'
    go_wp2_with fail
    refine (H2.out _ hb1).mono ?_
    rintro e w2 ⟨rfl, hb2'⟩
    have hb2 := thenB hb1 hb2'
    go_wp2_with fail
    refine (H3.out _ hb2).mono ?_
    rintro e w3 ⟨rfl, hb3'⟩
    have hb3 := thenB hb2 hb3'
    have hq := ((thenB hb1' (thenB hb2' hb3')).block _ (blkLt HQ0.out)).trans HQ0.out
    clear hb0 hb1' hb1 hb2' hb2 hb3' HQ0
    have r0 : w3.cell? ⟨w.heap.size, 0, none⟩ = some (.slice none 0 0) := (blkCell hq 0).trans rfl
    have r1 : w3.cell? ⟨w.heap.size, 1, none⟩ = some (.slice none 0 0) := (blkCell hq 1).trans rfl
    have r2 : w3.cell? ⟨w.heap.size, 2, none⟩ = some (.slice none 0 0) := (blkCell hq 2).trans rfl
    have r3 : w3.cell? ⟨w.heap.size, 3, none⟩ = some (.slice none 0 0) := (blkCell hq 3).trans rfl
    have f0 := blkFree hq 0
    have f1 := blkFree hq 1
    have f2 := blkFree hq 2
    have f3 := blkFree hq 3
    have hF := blkSet (blkSet (blkSet (blkSet hq 0 (.slice none 0 0)) 1 (.slice none 0 0)) 2 (.slice none 0 0)) 3 (.slice none 0 0)
    have y0 := (blkCell hF 0).trans (rfl : _ = some (Value.slice none 0 0))
    have y1 := (blkCell hF 1).trans (rfl : _ = some (Value.slice none 0 0))
    have y2 := (blkCell hF 2).trans (rfl : _ = some (Value.slice none 0 0))
    have y3 := (blkCell hF 3).trans (rfl : _ = some (Value.slice none 0 0))
    have T5 : HidP (Below w.heap.size w ((((w3.setCell ⟨w.heap.size, 0, none⟩ (.slice none 0 0)).setCell ⟨w.heap.size, 1, none⟩ (.slice none 0 0)).setCell ⟨w.heap.size, 2, none⟩ (.slice none 0 0)).setCell ⟨w.heap.size, 3, none⟩ (.slice none 0 0))) := hid (KR.below hb3 (KR.setR (KR.setR (KR.setR (KR.setR (Keep.refl _ w3) 0 _) 1 _) 2 _) 3 _) (Nat.le_refl _))
    clear hF
    go_wp2_with fail
    refine bodyPost_ret (v := .tuple #[.agg #[.slice none 0 0, .slice none 0 0, .slice none 0 0, .slice none 0 0], .int .i64 1]) (by simp [results, Tryz.results12, go_sem, y0, y1, y2, y3]) rfl ?_
    exact ⟨⟨⟨⟨none, 0, []⟩, ⟨none, 0, []⟩, ⟨none, 0, []⟩, none, 0, []⟩, by rw [HOUT.out]; rfl, ⟨Tr.none _, Tr.none _, Tr.none _, Row.nil _ _ _, by simp⟩, by rw [HOUT.out]; rfl⟩, T5.out⟩
  · simp at hr


set_option maxRecDepth 100000 in
set_option maxHeartbeats 8000000 in
theorem refmerge_good (o a b : TrI) (w : World) (ho : Tr w o.A o.c o.l) (ha : Tr w a.A a.c a.l) (hb : Tr w b.A b.c b.l) (hr : right3 (o.l.map Itm.abs) (a.l.map Itm.abs) (b.l.map Itm.abs) = true) :
    Calls Tryz.prog 12 #[.slice o.A o.l.length o.c, .slice a.A a.l.length a.c, .slice b.A b.l.length b.c] w fun e w' => (∃ y : RI, e = .returned (.tuple #[.agg #[.slice y.a.A y.a.l.length y.a.c, .slice y.b.A y.b.l.length y.b.c, .slice y.o.A y.o.l.length y.o.c, .slice y.cA y.LC.length y.cc], .int .i64 (mOut (o.l.map Itm.abs) (a.l.map Itm.abs) (b.l.map Itm.abs)).code]) ∧ RIok w' y ∧ y.abs = ((mOut (o.l.map Itm.abs) (a.l.map Itm.abs) (b.l.map Itm.abs)).A, (mOut (o.l.map Itm.abs) (a.l.map Itm.abs) (b.l.map Itm.abs)).B, (mOut (o.l.map Itm.abs) (a.l.map Itm.abs) (b.l.map Itm.abs)).O, (mOut (o.l.map Itm.abs) (a.l.map Itm.abs) (b.l.map Itm.abs)).C)) ∧ Below w.heap.size w w' := by
  have HR := hid (right3_iff.1 hr)
  have HR3 := hid hr
  have lo : o.l.length ≤ 60 := by have := HR.out.o.len; rwa [List.length_map] at this
  have la : a.l.length ≤ 60 := by have := HR.out.a.len; rwa [List.length_map] at this
  have lb : b.l.length ≤ 60 := by have := HR.out.b.len; rwa [List.length_map] at this
  have H1 := hid (fun W (hW : Below w.heap.size w W) => refright o.A o.c o.l W (ho.below hW))
  have H2 := hid (fun W (hW : Below w.heap.size w W) => refright a.A a.c a.l W (ha.below hW))
  have H3 := hid (fun W (hW : Below w.heap.size w W) => refright b.A b.c b.l W (hb.below hW))
  unfold right3 at hr
  simp only [Bool.and_eq_true] at hr
  simp only [hr.1.1] at H1
  simp only [hr.1.2] at H2
  simp only [hr.2] at H3
  have Ho := hid ho
  have Ha := hid ha
  have Hb := hid hb
  have HRM := hid (room_ref HR.out (by rw [List.length_map]; exact lo) (by rw [List.length_map]; exact la) (by rw [List.length_map]; exact lb))
  have HMD := hid (made_ref HR.out)
  have hb0 := thenA (Below.refl _ w) (.cells #[.slice none 0 0, .slice none 0 0, .slice none 0 0, .slice none 0 0] 33 (0, 0))
  have HQ0 := hid (heap_alloc_new w (.cells #[.slice none 0 0, .slice none 0 0, .slice none 0 0, .slice none 0 0] 33 (0, 0)))
  clear hr ho ha hb lo la lb
  go_enter Tryz.func12, Tryz.ntmps12
  go_wp2_with fail
  refine (H1.out _ hb0).mono ?_
  rintro e w1 ⟨rfl, hb1'⟩
  have hb1 := thenB hb0 hb1'
  go_wp2_with fail
  refine (H2.out _ hb1).mono ?_
  rintro e w2 ⟨rfl, hb2'⟩
  have hb2 := thenB hb1 hb2'
  go_wp2_with fail
  refine (H3.out _ hb2).mono ?_
  rintro e w3 ⟨rfl, hb3'⟩
  have hb3 := thenB hb2 hb3'
  have hba := thenA (Below.refl _ w3) (.cells #[.slice none 0 0, .slice none 0 0, .slice none 0 0, .slice none 0 0] 33 (0, 0))
  have hb4 := thenB hb3 hba
  have HQ4 := hid (((thenB (thenB hb1' (thenB hb2' hb3')) hba).block _ (blkLt HQ0.out)).trans HQ0.out)
  have hlt : w.heap.size < w3.heap.size := by have := hb3.size; have h1 := blkLt HQ0.out; have h2 := (thenB hb1' (thenB hb2' hb3')).size; omega
  have HRB : HidP (RB w3.heap.size ⟨⟨none, 0, []⟩, ⟨none, 0, []⟩, ⟨none, 0, []⟩, none, 0, []⟩ (w3.alloc (.cells #[.slice none 0 0, .slice none 0 0, .slice none 0 0, .slice none 0 0] 33 (0, 0)))) := hid ⟨heap_alloc_new w3 _, Row.nil _ _ _, Row.nil _ _ _, Row.nil _ _ _, Row.nil _ _ _, by simp, by simp, by simp, by simp⟩
  have HAT := hid (at_any 126 o a b ⟨#[]⟩ ⟨⟨none, 0, []⟩, ⟨none, 0, []⟩, ⟨none, 0, []⟩, none, 0, []⟩ w3.heap.size (w3.alloc (.cells #[.slice none 0 0, .slice none 0 0, .slice none 0 0, .slice none 0 0] 33 (0, 0))) HR.out (by omega) HRB.out (Ho.out.below hb4) (Ha.out.below hb4) (Hb.out.below hb4) (by rw [emptyB]; exact HRM.out))
  simp only [emptyB] at HAT
  have HB4 := hid hb4
  clear hb0 hb1' hb1 hb2' hb2 hb3' hb3 hba hb4 HQ0 Ho Ha Hb H1 H2 H3 HRB HRM
  go_wp2_with fail
  refine HAT.out.mono ?_
  rintro e w5 ⟨⟨v, rfl⟩, ⟨x', hx', he'⟩, hk5⟩
  have HX := hid hx'
  have HKR := hid hk5
  have hq5 := (hk5.block _ (blkLt HQ4.out) (Nat.ne_of_lt hlt)).trans HQ4.out
  have hb5 : Below w.heap.size w w5 := KR.below HB4.out hk5 (Nat.le_of_lt hlt)
  have HAB : HidP (x'.a.l.map Itm.abs = mA (o.l.map Itm.abs) (a.l.map Itm.abs) (b.l.map Itm.abs) ∧ x'.b.l.map Itm.abs = mB (o.l.map Itm.abs) (a.l.map Itm.abs) (b.l.map Itm.abs) ∧ x'.o.l.map Itm.abs = mO (o.l.map Itm.abs) (a.l.map Itm.abs) (b.l.map Itm.abs) ∧ x'.LC.map (fun z : ByteArray => z.toList) = mgS (o.l.map Itm.abs) (a.l.map Itm.abs) (b.l.map Itm.abs)) := hid (by
    obtain ⟨m1, m2, m3, m4⟩ := HMD.out
    unfold RI.abs stepA at he'
    simp only [Prod.mk.injEq, List.map_nil] at he'
    rw [m1, m2, m3, m4] at he'
    exact he')
  obtain ⟨p0, p1, p2, p3, pf⟩ := hx'.cells
  clear hx' he' hk5 HAT HQ4 HB4 HMD
  have HBG : HidP (bigB (o.l.map Itm.abs) (a.l.map Itm.abs) (b.l.map Itm.abs) = (decide ((60 : Int) < (x'.a.l.length : Int)) || (decide ((60 : Int) < (x'.b.l.length : Int)) || decide ((60 : Int) < (x'.o.l.length : Int))))) := hid (by
    have h1 := congrArg List.length HAB.out.1
    have h2 := congrArg List.length HAB.out.2.1
    have h3 := congrArg List.length HAB.out.2.2.1
    rw [List.length_map] at h1 h2 h3
    rw [Bool.eq_iff_iff]
    simp only [Bool.or_eq_true, decide_eq_true_eq]
    have h4 := bigB_iff (o := (o.l.map Itm.abs)) (a := (a.l.map Itm.abs)) (b := (b.l.map Itm.abs))
    cases hbig : bigB (o.l.map Itm.abs) (a.l.map Itm.abs) (b.l.map Itm.abs)
    · have h5 := h4.1 hbig
      simp
      omega
    · have h5 : ¬ ((mA (o.l.map Itm.abs) (a.l.map Itm.abs) (b.l.map Itm.abs)).length ≤ 60 ∧ (mB (o.l.map Itm.abs) (a.l.map Itm.abs) (b.l.map Itm.abs)).length ≤ 60 ∧ (mO (o.l.map Itm.abs) (a.l.map Itm.abs) (b.l.map Itm.abs)).length ≤ 60) := fun h => by have := h4.2 h; rw [hbig] at this; cases this
      simp
      omega)
  obtain ⟨g1, hg1⟩ : ∃ g, decide ((60 : Int) < (x'.a.l.length : Int)) = g := ⟨_, rfl⟩
  obtain ⟨g2, hg2⟩ : ∃ g, decide ((60 : Int) < (x'.b.l.length : Int)) = g := ⟨_, rfl⟩
  obtain ⟨g3, hg3⟩ : ∃ g, decide ((60 : Int) < (x'.o.l.length : Int)) = g := ⟨_, rfl⟩
  rw [hg1, hg2, hg3] at HBG
  cases g1
  case true =>
    have HOUT : HidP (mOut (o.l.map Itm.abs) (a.l.map Itm.abs) (b.l.map Itm.abs) = ⟨[], [], [], [], 2⟩) := hid (by unfold mOut; rw [if_pos HR3.out, if_pos (by rw [HBG.out]; simp)])
    clear hg2 hg3
    have r0 : w5.cell? ⟨w.heap.size, 0, none⟩ = some (.slice none 0 0) := (blkCell hq5 0).trans rfl
    have r1 : w5.cell? ⟨w.heap.size, 1, none⟩ = some (.slice none 0 0) := (blkCell hq5 1).trans rfl
    have r2 : w5.cell? ⟨w.heap.size, 2, none⟩ = some (.slice none 0 0) := (blkCell hq5 2).trans rfl
    have r3 : w5.cell? ⟨w.heap.size, 3, none⟩ = some (.slice none 0 0) := (blkCell hq5 3).trans rfl
    have f0 := blkFree hq5 0
    have f1 := blkFree hq5 1
    have f2 := blkFree hq5 2
    have f3 := blkFree hq5 3
    have hF := blkSet (blkSet (blkSet (blkSet hq5 0 (.slice none 0 0)) 1 (.slice none 0 0)) 2 (.slice none 0 0)) 3 (.slice none 0 0)
    have y0 := (blkCell hF 0).trans (rfl : _ = some (Value.slice none 0 0))
    have y1 := (blkCell hF 1).trans (rfl : _ = some (Value.slice none 0 0))
    have y2 := (blkCell hF 2).trans (rfl : _ = some (Value.slice none 0 0))
    have y3 := (blkCell hF 3).trans (rfl : _ = some (Value.slice none 0 0))
    have T5 : HidP (Below w.heap.size w ((((w5.setCell ⟨w.heap.size, 0, none⟩ (.slice none 0 0)).setCell ⟨w.heap.size, 1, none⟩ (.slice none 0 0)).setCell ⟨w.heap.size, 2, none⟩ (.slice none 0 0)).setCell ⟨w.heap.size, 3, none⟩ (.slice none 0 0))) := hid (KR.below hb5 (KR.setR (KR.setR (KR.setR (KR.setR (Keep.refl _ w5) 0 _) 1 _) 2 _) 3 _) (Nat.le_refl _))
    clear hF
    go_wp2_with fail
    refine bodyPost_ret (v := .tuple #[.agg #[.slice none 0 0, .slice none 0 0, .slice none 0 0, .slice none 0 0], .int .i64 2]) (by simp [results, Tryz.results12, go_sem, y0, y1, y2, y3]) rfl ?_
    exact ⟨⟨⟨⟨none, 0, []⟩, ⟨none, 0, []⟩, ⟨none, 0, []⟩, none, 0, []⟩, by rw [HOUT.out]; rfl, ⟨Tr.none _, Tr.none _, Tr.none _, Row.nil _ _ _, by simp⟩, by rw [HOUT.out]; rfl⟩, T5.out⟩
  cases g2
  case true =>
    have HOUT : HidP (mOut (o.l.map Itm.abs) (a.l.map Itm.abs) (b.l.map Itm.abs) = ⟨[], [], [], [], 2⟩) := hid (by unfold mOut; rw [if_pos HR3.out, if_pos (by rw [HBG.out]; simp)])
    clear hg3
    have r0 : w5.cell? ⟨w.heap.size, 0, none⟩ = some (.slice none 0 0) := (blkCell hq5 0).trans rfl
    have r1 : w5.cell? ⟨w.heap.size, 1, none⟩ = some (.slice none 0 0) := (blkCell hq5 1).trans rfl
    have r2 : w5.cell? ⟨w.heap.size, 2, none⟩ = some (.slice none 0 0) := (blkCell hq5 2).trans rfl
    have r3 : w5.cell? ⟨w.heap.size, 3, none⟩ = some (.slice none 0 0) := (blkCell hq5 3).trans rfl
    have f0 := blkFree hq5 0
    have f1 := blkFree hq5 1
    have f2 := blkFree hq5 2
    have f3 := blkFree hq5 3
    have hF := blkSet (blkSet (blkSet (blkSet hq5 0 (.slice none 0 0)) 1 (.slice none 0 0)) 2 (.slice none 0 0)) 3 (.slice none 0 0)
    have y0 := (blkCell hF 0).trans (rfl : _ = some (Value.slice none 0 0))
    have y1 := (blkCell hF 1).trans (rfl : _ = some (Value.slice none 0 0))
    have y2 := (blkCell hF 2).trans (rfl : _ = some (Value.slice none 0 0))
    have y3 := (blkCell hF 3).trans (rfl : _ = some (Value.slice none 0 0))
    have T5 : HidP (Below w.heap.size w ((((w5.setCell ⟨w.heap.size, 0, none⟩ (.slice none 0 0)).setCell ⟨w.heap.size, 1, none⟩ (.slice none 0 0)).setCell ⟨w.heap.size, 2, none⟩ (.slice none 0 0)).setCell ⟨w.heap.size, 3, none⟩ (.slice none 0 0))) := hid (KR.below hb5 (KR.setR (KR.setR (KR.setR (KR.setR (Keep.refl _ w5) 0 _) 1 _) 2 _) 3 _) (Nat.le_refl _))
    clear hF
    go_wp2_with fail
    refine bodyPost_ret (v := .tuple #[.agg #[.slice none 0 0, .slice none 0 0, .slice none 0 0, .slice none 0 0], .int .i64 2]) (by simp [results, Tryz.results12, go_sem, y0, y1, y2, y3]) rfl ?_
    exact ⟨⟨⟨⟨none, 0, []⟩, ⟨none, 0, []⟩, ⟨none, 0, []⟩, none, 0, []⟩, by rw [HOUT.out]; rfl, ⟨Tr.none _, Tr.none _, Tr.none _, Row.nil _ _ _, by simp⟩, by rw [HOUT.out]; rfl⟩, T5.out⟩
  cases g3
  case true =>
    have HOUT : HidP (mOut (o.l.map Itm.abs) (a.l.map Itm.abs) (b.l.map Itm.abs) = ⟨[], [], [], [], 2⟩) := hid (by unfold mOut; rw [if_pos HR3.out, if_pos (by rw [HBG.out]; simp)])
    have r0 : w5.cell? ⟨w.heap.size, 0, none⟩ = some (.slice none 0 0) := (blkCell hq5 0).trans rfl
    have r1 : w5.cell? ⟨w.heap.size, 1, none⟩ = some (.slice none 0 0) := (blkCell hq5 1).trans rfl
    have r2 : w5.cell? ⟨w.heap.size, 2, none⟩ = some (.slice none 0 0) := (blkCell hq5 2).trans rfl
    have r3 : w5.cell? ⟨w.heap.size, 3, none⟩ = some (.slice none 0 0) := (blkCell hq5 3).trans rfl
    have f0 := blkFree hq5 0
    have f1 := blkFree hq5 1
    have f2 := blkFree hq5 2
    have f3 := blkFree hq5 3
    have hF := blkSet (blkSet (blkSet (blkSet hq5 0 (.slice none 0 0)) 1 (.slice none 0 0)) 2 (.slice none 0 0)) 3 (.slice none 0 0)
    have y0 := (blkCell hF 0).trans (rfl : _ = some (Value.slice none 0 0))
    have y1 := (blkCell hF 1).trans (rfl : _ = some (Value.slice none 0 0))
    have y2 := (blkCell hF 2).trans (rfl : _ = some (Value.slice none 0 0))
    have y3 := (blkCell hF 3).trans (rfl : _ = some (Value.slice none 0 0))
    have T5 : HidP (Below w.heap.size w ((((w5.setCell ⟨w.heap.size, 0, none⟩ (.slice none 0 0)).setCell ⟨w.heap.size, 1, none⟩ (.slice none 0 0)).setCell ⟨w.heap.size, 2, none⟩ (.slice none 0 0)).setCell ⟨w.heap.size, 3, none⟩ (.slice none 0 0))) := hid (KR.below hb5 (KR.setR (KR.setR (KR.setR (KR.setR (Keep.refl _ w5) 0 _) 1 _) 2 _) 3 _) (Nat.le_refl _))
    clear hF
    go_wp2_with fail
    refine bodyPost_ret (v := .tuple #[.agg #[.slice none 0 0, .slice none 0 0, .slice none 0 0, .slice none 0 0], .int .i64 2]) (by simp [results, Tryz.results12, go_sem, y0, y1, y2, y3]) rfl ?_
    exact ⟨⟨⟨⟨none, 0, []⟩, ⟨none, 0, []⟩, ⟨none, 0, []⟩, none, 0, []⟩, by rw [HOUT.out]; rfl, ⟨Tr.none _, Tr.none _, Tr.none _, Row.nil _ _ _, by simp⟩, by rw [HOUT.out]; rfl⟩, T5.out⟩
  have HOUT : HidP (mOut (o.l.map Itm.abs) (a.l.map Itm.abs) (b.l.map Itm.abs) = ⟨mA (o.l.map Itm.abs) (a.l.map Itm.abs) (b.l.map Itm.abs), mB (o.l.map Itm.abs) (a.l.map Itm.abs) (b.l.map Itm.abs), mO (o.l.map Itm.abs) (a.l.map Itm.abs) (b.l.map Itm.abs), mgS (o.l.map Itm.abs) (a.l.map Itm.abs) (b.l.map Itm.abs), 0⟩) := hid (by unfold mOut; rw [if_pos HR3.out, if_neg (by rw [HBG.out]; simp)])
  have r0 : w5.cell? ⟨w.heap.size, 0, none⟩ = some (.slice none 0 0) := (blkCell hq5 0).trans rfl
  have r1 : w5.cell? ⟨w.heap.size, 1, none⟩ = some (.slice none 0 0) := (blkCell hq5 1).trans rfl
  have r2 : w5.cell? ⟨w.heap.size, 2, none⟩ = some (.slice none 0 0) := (blkCell hq5 2).trans rfl
  have r3 : w5.cell? ⟨w.heap.size, 3, none⟩ = some (.slice none 0 0) := (blkCell hq5 3).trans rfl
  have f0 := blkFree hq5 0
  have f1 := blkFree hq5 1
  have f2 := blkFree hq5 2
  have f3 := blkFree hq5 3
  have hF := blkSet (blkSet (blkSet (blkSet hq5 0 (.slice x'.a.A x'.a.l.length x'.a.c)) 1 (.slice x'.b.A x'.b.l.length x'.b.c)) 2 (.slice x'.o.A x'.o.l.length x'.o.c)) 3 (.slice x'.cA x'.LC.length x'.cc)
  have y0 := (blkCell hF 0).trans (rfl : _ = some (Value.slice x'.a.A x'.a.l.length x'.a.c))
  have y1 := (blkCell hF 1).trans (rfl : _ = some (Value.slice x'.b.A x'.b.l.length x'.b.c))
  have y2 := (blkCell hF 2).trans (rfl : _ = some (Value.slice x'.o.A x'.o.l.length x'.o.c))
  have y3 := (blkCell hF 3).trans (rfl : _ = some (Value.slice x'.cA x'.LC.length x'.cc))
  have hk : KR w.heap.size w5 ((((w5.setCell ⟨w.heap.size, 0, none⟩ (.slice x'.a.A x'.a.l.length x'.a.c)).setCell ⟨w.heap.size, 1, none⟩ (.slice x'.b.A x'.b.l.length x'.b.c)).setCell ⟨w.heap.size, 2, none⟩ (.slice x'.o.A x'.o.l.length x'.o.c)).setCell ⟨w.heap.size, 3, none⟩ (.slice x'.cA x'.LC.length x'.cc)) := KR.setR (KR.setR (KR.setR (KR.setR (Keep.refl _ w5) 0 _) 1 _) 2 _) 3 _
  have HLN : HidP (x'.a.l.length ≤ 60 ∧ x'.b.l.length ≤ 60 ∧ x'.o.l.length ≤ 60) := hid (by
    have h1 := of_decide_eq_false hg1
    have h2 := of_decide_eq_false hg2
    have h3 := of_decide_eq_false hg3
    omega)
  have T1 := hid ((Tr.ofRow HX.out.a HX.out.ga (by have := HLN.out; omega)).2.aside hq5 nils_no nils_nos hk)
  have T2 := hid ((Tr.ofRow HX.out.b HX.out.gb (by have := HLN.out; omega)).2.aside hq5 nils_no nils_nos hk)
  have T3 := hid ((Tr.ofRow HX.out.o HX.out.go (by have := HLN.out; omega)).2.aside hq5 nils_no nils_nos hk)
  have T4 := hid (HX.out.c.keep fun k hk' => hk.block k (HX.out.c.lt k hk') (fun e => HX.out.c.neBlk hq5 (by decide) (by rw [← e]; exact hk')))
  have T5 := hid (KR.below hb5 hk (Nat.le_refl _))
  have HCL : HidP (x'.LC.length ≤ 1000000) := hid (by
    have h1 := congrArg List.length HAB.out.2.2.2
    rw [List.length_map] at h1
    have h2 := mgS_of HR.out
    have h3 := congrArg List.length h2
    rw [List.length_mergeSort] at h3
    have h4 := mgCs_len HR.out
    have h5 := HR.out.o.len
    have h6 := HR.out.a.len
    have h7 := HR.out.b.len
    omega)
  clear hF hk hq5 hb5
  go_wp2_with fail
  refine bodyPost_ret (v := .tuple #[.agg #[.slice x'.a.A x'.a.l.length x'.a.c, .slice x'.b.A x'.b.l.length x'.b.c, .slice x'.o.A x'.o.l.length x'.o.c, .slice x'.cA x'.LC.length x'.cc], .int .i64 0]) (by simp [results, Tryz.results12, go_sem, y0, y1, y2, y3]) rfl ?_
  exact ⟨⟨x', by rw [HOUT.out], ⟨T1.out, T2.out, T3.out, T4.out, HCL.out⟩, by
    rw [HOUT.out]
    obtain ⟨e1, e2, e3, e4⟩ := HAB.out
    unfold RI.abs
    rw [e1, e2, e3, e4]⟩, T5.out⟩
/-- the document's Merge, whatever the trees -/
theorem refmerge (o a b : TrI) (w : World) (ho : Tr w o.A o.c o.l) (ha : Tr w a.A a.c a.l) (hb : Tr w b.A b.c b.l) :
    Calls Tryz.prog 12 #[.slice o.A o.l.length o.c, .slice a.A a.l.length a.c, .slice b.A b.l.length b.c] w fun e w' => (∃ y : RI, e = .returned (.tuple #[.agg #[.slice y.a.A y.a.l.length y.a.c, .slice y.b.A y.b.l.length y.b.c, .slice y.o.A y.o.l.length y.o.c, .slice y.cA y.LC.length y.cc], .int .i64 (mOut (o.l.map Itm.abs) (a.l.map Itm.abs) (b.l.map Itm.abs)).code]) ∧ RIok w' y ∧ y.abs = ((mOut (o.l.map Itm.abs) (a.l.map Itm.abs) (b.l.map Itm.abs)).A, (mOut (o.l.map Itm.abs) (a.l.map Itm.abs) (b.l.map Itm.abs)).B, (mOut (o.l.map Itm.abs) (a.l.map Itm.abs) (b.l.map Itm.abs)).O, (mOut (o.l.map Itm.abs) (a.l.map Itm.abs) (b.l.map Itm.abs)).C)) ∧ Below w.heap.size w w' := by
  cases hr : right3 (o.l.map Itm.abs) (a.l.map Itm.abs) (b.l.map Itm.abs)
  · exact refmerge_bad o a b w ho ha hb hr
  · exact refmerge_good o a b w ho ha hb hr

end Go.Proofs.YtfbbjfbnkcklgaaGreatDoor

/- MergeMerges: the walk (printed by gen/genH10.py) -/
namespace Go.Proofs.YtfbbjfbnkcklgaaGreatDoor
open Go.RowKit

set_option maxRecDepth 100000 in
set_option maxHeartbeats 8000000 in
theorem mergemerges_walk (o a b : TrI) (w : World) (qo : TrQ w o.A o.c o.l) (qa : TrQ w a.A a.c a.l) (qb : TrQ w b.A b.c b.l) :
    Calls Tryz.prog 3 #[.slice o.A o.l.length o.c, .slice a.A a.l.length a.c, .slice b.A b.l.length b.c] w fun e w' => e = .returned (.bool true) ∧ Below w.heap.size w w' := by
  have HA := hid alive22_walk
  have HL := hid (light3 o a b w qo qa qb)
  have hb0 := thenA (Below.refl _ w) (.cells #[.slice o.A o.l.length o.c, .slice a.A a.l.length a.c, .slice b.A b.l.length b.c] 22 (0, 0))
  cases hv : lightB o.l 62 && (lightB a.l 62 && lightB b.l 62)
  · rw [hv] at HL
    clear hv qo qa qb
    go_enter Tryz.func3, Tryz.ntmps3
    go_wp2_with fail
    refine HL.out.mono ?_
    rintro e w1 ⟨rfl, rfl⟩
    go_wp2_with fail
    refine (HA.out _).mono ?_
    rintro e w2 ⟨rfl, hb2⟩
    have hb3 := thenB hb0 hb2
    go_wp2_with fail
    go_ret
    exact ⟨rfl, hb3⟩
  rw [hv] at HL
  rw [Bool.and_eq_true, Bool.and_eq_true] at hv
  have ho := qo.tr hv.1 (by omega)
  have ha := qa.tr hv.2.1 (by omega)
  have hbb := qb.tr hv.2.2 (by omega)
  have n1 := light_len hv.1
  have n2 := light_len hv.2.1
  have n3 := light_len hv.2.2
  have HO := hid ho
  have HAA := hid ha
  have HB := hid hbb
  have HM1 := hid (merge_ri (ho.below hb0) (ha.below hb0) (hbb.below hb0) (by omega) (by omega) (by omega) rfl)
  clear hv qo qa qb ho ha hbb n1 n2 n3
  obtain ⟨n, hn⟩ : ∃ n, (mOut (o.l.map Itm.abs) (a.l.map Itm.abs) (b.l.map Itm.abs)).code = n := ⟨_, rfl⟩
  rw [hn] at HM1
  go_enter Tryz.func3, Tryz.ntmps3
  go_wp2_with fail
  refine HL.out.mono ?_
  rintro e w0 ⟨rfl, rfl⟩
  go_wp2_with fail
  refine HM1.out.mono ?_
  rintro e w1 ⟨⟨x1, rfl, hx1, e1⟩, hb1⟩
  have hbx := thenA (Below.refl _ w1) (.cells #[.slice x1.a.A x1.a.l.length x1.a.c, .slice x1.b.A x1.b.l.length x1.b.c, .slice x1.o.A x1.o.l.length x1.o.c, .slice x1.cA x1.LC.length x1.cc] 28 (0, 0))
  have hb2 := thenB (thenB hb0 hb1) hbx
  have q1 := heap_alloc_new w1 (.cells #[.slice x1.a.A x1.a.l.length x1.a.c, .slice x1.b.A x1.b.l.length x1.b.c, .slice x1.o.A x1.o.l.length x1.o.c, .slice x1.cA x1.LC.length x1.cc] 28 (0, 0))
  have HX := hid (hx1.below hbx)
  have HE := hid e1
  have HM20 := refmerge o a b _ (HO.out.below hb2) (HAA.out.below hb2) (HB.out.below hb2)
  rw [hn] at HM20
  have HM2 := hid HM20
  have HQ1 := hid q1
  clear hx1 e1 hb1 hbx hb0 HM1 HL HM20 q1
  go_wp2_with fail
  generalize (w1.alloc (.cells #[.slice x1.a.A x1.a.l.length x1.a.c, .slice x1.b.A x1.b.l.length x1.b.c, .slice x1.o.A x1.o.l.length x1.o.c, .slice x1.cA x1.LC.length x1.cc] 28 (0, 0))) = w2 at *
  refine HM2.out.mono ?_
  rintro e w3 ⟨⟨y1, rfl, hy1, e2⟩, hb3⟩
  have hby := thenA (Below.refl _ w3) (.cells #[.slice y1.a.A y1.a.l.length y1.a.c, .slice y1.b.A y1.b.l.length y1.b.c, .slice y1.o.A y1.o.l.length y1.o.c, .slice y1.cA y1.LC.length y1.cc] 33 (0, 0))
  have hb4 := thenB hb2 (thenB hb3 hby)
  have q1' := ((thenB hb3 hby).block _ (blkLt HQ1.out)).trans HQ1.out
  have q2' := heap_alloc_new w3 (.cells #[.slice y1.a.A y1.a.l.length y1.a.c, .slice y1.b.A y1.b.l.length y1.b.c, .slice y1.o.A y1.o.l.length y1.o.c, .slice y1.cA y1.LC.length y1.cc] 33 (0, 0))
  have HX1 := hid (HX.out.below (thenB hb3 hby))
  have HY1 := hid (hy1.below hby)
  have HEQ : HidP (x1.abs = y1.abs) := hid (HE.out.trans e2.symm)
  have HB4 := hid hb4
  clear hb2 hb3 hby hb4 hy1 e2 HE HX HM2 HQ1
  go_wp2_with fail
  generalize (w3.alloc (.cells #[.slice y1.a.A y1.a.l.length y1.a.c, .slice y1.b.A y1.b.l.length y1.b.c, .slice y1.o.A y1.o.l.length y1.o.c, .slice y1.cA y1.LC.length y1.cc] 33 (0, 0))) = w5 at *
  obtain ⟨p0, p1, p2, p3⟩ := cells4 q1'
  have s0 : w5.cell? ⟨w3.heap.size, 0, none⟩ = some (.slice y1.a.A y1.a.l.length y1.a.c) := (blkCell q2' 0).trans rfl
  have s1 : w5.cell? ⟨w3.heap.size, 1, none⟩ = some (.slice y1.b.A y1.b.l.length y1.b.c) := (blkCell q2' 1).trans rfl
  have s2 : w5.cell? ⟨w3.heap.size, 2, none⟩ = some (.slice y1.o.A y1.o.l.length y1.o.c) := (blkCell q2' 2).trans rfl
  have s3 : w5.cell? ⟨w3.heap.size, 3, none⟩ = some (.slice y1.cA y1.LC.length y1.cc) := (blkCell q2' 3).trans rfl
  have hs0 : Below w5.heap.size w5 w5.drew ∧ w5.drew.cell? ⟨w1.heap.size, 0, none⟩ = some (.slice x1.a.A x1.a.l.length x1.a.c) ∧ w5.drew.cell? ⟨w1.heap.size, 1, none⟩ = some (.slice x1.b.A x1.b.l.length x1.b.c) ∧ w5.drew.cell? ⟨w1.heap.size, 2, none⟩ = some (.slice x1.o.A x1.o.l.length x1.o.c) ∧ w5.drew.cell? ⟨w1.heap.size, 3, none⟩ = some (.slice x1.cA x1.LC.length x1.cc) ∧ w5.drew.cell? ⟨w3.heap.size, 0, none⟩ = some (.slice y1.a.A y1.a.l.length y1.a.c) ∧ w5.drew.cell? ⟨w3.heap.size, 1, none⟩ = some (.slice y1.b.A y1.b.l.length y1.b.c) ∧ w5.drew.cell? ⟨w3.heap.size, 2, none⟩ = some (.slice y1.o.A y1.o.l.length y1.o.c) ∧ w5.drew.cell? ⟨w3.heap.size, 3, none⟩ = some (.slice y1.cA y1.LC.length y1.cc) := ⟨⟨rfl, rfl, rfl, Nat.le_refl _, fun _ _ => rfl⟩, p0, p1, p2, p3, s0, s1, s2, s3⟩
  have HST : HidP (∀ W w', (Below w5.heap.size w5 W ∧ W.cell? ⟨w1.heap.size, 0, none⟩ = some (.slice x1.a.A x1.a.l.length x1.a.c) ∧ W.cell? ⟨w1.heap.size, 1, none⟩ = some (.slice x1.b.A x1.b.l.length x1.b.c) ∧ W.cell? ⟨w1.heap.size, 2, none⟩ = some (.slice x1.o.A x1.o.l.length x1.o.c) ∧ W.cell? ⟨w1.heap.size, 3, none⟩ = some (.slice x1.cA x1.LC.length x1.cc) ∧ W.cell? ⟨w3.heap.size, 0, none⟩ = some (.slice y1.a.A y1.a.l.length y1.a.c) ∧ W.cell? ⟨w3.heap.size, 1, none⟩ = some (.slice y1.b.A y1.b.l.length y1.b.c) ∧ W.cell? ⟨w3.heap.size, 2, none⟩ = some (.slice y1.o.A y1.o.l.length y1.o.c) ∧ W.cell? ⟨w3.heap.size, 3, none⟩ = some (.slice y1.cA y1.LC.length y1.cc)) → Below W.heap.size W w' → (Below w5.heap.size w5 w' ∧ w'.cell? ⟨w1.heap.size, 0, none⟩ = some (.slice x1.a.A x1.a.l.length x1.a.c) ∧ w'.cell? ⟨w1.heap.size, 1, none⟩ = some (.slice x1.b.A x1.b.l.length x1.b.c) ∧ w'.cell? ⟨w1.heap.size, 2, none⟩ = some (.slice x1.o.A x1.o.l.length x1.o.c) ∧ w'.cell? ⟨w1.heap.size, 3, none⟩ = some (.slice x1.cA x1.LC.length x1.cc) ∧ w'.cell? ⟨w3.heap.size, 0, none⟩ = some (.slice y1.a.A y1.a.l.length y1.a.c) ∧ w'.cell? ⟨w3.heap.size, 1, none⟩ = some (.slice y1.b.A y1.b.l.length y1.b.c) ∧ w'.cell? ⟨w3.heap.size, 2, none⟩ = some (.slice y1.o.A y1.o.l.length y1.o.c) ∧ w'.cell? ⟨w3.heap.size, 3, none⟩ = some (.slice y1.cA y1.LC.length y1.cc))) := hid (fun W w' hW hb => ⟨thenB hW.1 hb, cellB hb hW.2.1, cellB hb hW.2.2.1, cellB hb hW.2.2.2.1, cellB hb hW.2.2.2.2.1, cellB hb hW.2.2.2.2.2.1, cellB hb hW.2.2.2.2.2.2.1, cellB hb hW.2.2.2.2.2.2.2.1, cellB hb hW.2.2.2.2.2.2.2.2⟩)
  have HBK : HidP (∀ W, (Below w5.heap.size w5 W ∧ W.cell? ⟨w1.heap.size, 0, none⟩ = some (.slice x1.a.A x1.a.l.length x1.a.c) ∧ W.cell? ⟨w1.heap.size, 1, none⟩ = some (.slice x1.b.A x1.b.l.length x1.b.c) ∧ W.cell? ⟨w1.heap.size, 2, none⟩ = some (.slice x1.o.A x1.o.l.length x1.o.c) ∧ W.cell? ⟨w1.heap.size, 3, none⟩ = some (.slice x1.cA x1.LC.length x1.cc) ∧ W.cell? ⟨w3.heap.size, 0, none⟩ = some (.slice y1.a.A y1.a.l.length y1.a.c) ∧ W.cell? ⟨w3.heap.size, 1, none⟩ = some (.slice y1.b.A y1.b.l.length y1.b.c) ∧ W.cell? ⟨w3.heap.size, 2, none⟩ = some (.slice y1.o.A y1.o.l.length y1.o.c) ∧ W.cell? ⟨w3.heap.size, 3, none⟩ = some (.slice y1.cA y1.LC.length y1.cc)) → Calls Tryz.prog 14 #[.agg #[.slice x1.a.A x1.a.l.length x1.a.c, .slice x1.b.A x1.b.l.length x1.b.c, .slice x1.o.A x1.o.l.length x1.o.c, .slice x1.cA x1.LC.length x1.cc]] W fun e w' => e = .returned (.agg #[.slice x1.a.A x1.a.l.length x1.a.c, .slice x1.b.A x1.b.l.length x1.b.c, .slice x1.o.A x1.o.l.length x1.o.c, .slice x1.cA x1.LC.length x1.cc]) ∧ (Below w5.heap.size w5 w' ∧ w'.cell? ⟨w1.heap.size, 0, none⟩ = some (.slice x1.a.A x1.a.l.length x1.a.c) ∧ w'.cell? ⟨w1.heap.size, 1, none⟩ = some (.slice x1.b.A x1.b.l.length x1.b.c) ∧ w'.cell? ⟨w1.heap.size, 2, none⟩ = some (.slice x1.o.A x1.o.l.length x1.o.c) ∧ w'.cell? ⟨w1.heap.size, 3, none⟩ = some (.slice x1.cA x1.LC.length x1.cc) ∧ w'.cell? ⟨w3.heap.size, 0, none⟩ = some (.slice y1.a.A y1.a.l.length y1.a.c) ∧ w'.cell? ⟨w3.heap.size, 1, none⟩ = some (.slice y1.b.A y1.b.l.length y1.b.c) ∧ w'.cell? ⟨w3.heap.size, 2, none⟩ = some (.slice y1.o.A y1.o.l.length y1.o.c) ∧ w'.cell? ⟨w3.heap.size, 3, none⟩ = some (.slice y1.cA y1.LC.length y1.cc))) := hid (fun W hW => (back_walk x1 W).mono (by
    rintro e w' ⟨rfl, h3⟩
    exact ⟨rfl, HST.out _ _ hW h3⟩))
  have HSM : HidP (∀ W, (Below w5.heap.size w5 W ∧ W.cell? ⟨w1.heap.size, 0, none⟩ = some (.slice x1.a.A x1.a.l.length x1.a.c) ∧ W.cell? ⟨w1.heap.size, 1, none⟩ = some (.slice x1.b.A x1.b.l.length x1.b.c) ∧ W.cell? ⟨w1.heap.size, 2, none⟩ = some (.slice x1.o.A x1.o.l.length x1.o.c) ∧ W.cell? ⟨w1.heap.size, 3, none⟩ = some (.slice x1.cA x1.LC.length x1.cc) ∧ W.cell? ⟨w3.heap.size, 0, none⟩ = some (.slice y1.a.A y1.a.l.length y1.a.c) ∧ W.cell? ⟨w3.heap.size, 1, none⟩ = some (.slice y1.b.A y1.b.l.length y1.b.c) ∧ W.cell? ⟨w3.heap.size, 2, none⟩ = some (.slice y1.o.A y1.o.l.length y1.o.c) ∧ W.cell? ⟨w3.heap.size, 3, none⟩ = some (.slice y1.cA y1.LC.length y1.cc)) → Calls Tryz.prog 13 #[.agg #[.slice x1.a.A x1.a.l.length x1.a.c, .slice x1.b.A x1.b.l.length x1.b.c, .slice x1.o.A x1.o.l.length x1.o.c, .slice x1.cA x1.LC.length x1.cc], .agg #[.slice y1.a.A y1.a.l.length y1.a.c, .slice y1.b.A y1.b.l.length y1.b.c, .slice y1.o.A y1.o.l.length y1.o.c, .slice y1.cA y1.LC.length y1.cc]] W fun e w' => e = .returned (.bool true) ∧ (Below w5.heap.size w5 w' ∧ w'.cell? ⟨w1.heap.size, 0, none⟩ = some (.slice x1.a.A x1.a.l.length x1.a.c) ∧ w'.cell? ⟨w1.heap.size, 1, none⟩ = some (.slice x1.b.A x1.b.l.length x1.b.c) ∧ w'.cell? ⟨w1.heap.size, 2, none⟩ = some (.slice x1.o.A x1.o.l.length x1.o.c) ∧ w'.cell? ⟨w1.heap.size, 3, none⟩ = some (.slice x1.cA x1.LC.length x1.cc) ∧ w'.cell? ⟨w3.heap.size, 0, none⟩ = some (.slice y1.a.A y1.a.l.length y1.a.c) ∧ w'.cell? ⟨w3.heap.size, 1, none⟩ = some (.slice y1.b.A y1.b.l.length y1.b.c) ∧ w'.cell? ⟨w3.heap.size, 2, none⟩ = some (.slice y1.o.A y1.o.l.length y1.o.c) ∧ w'.cell? ⟨w3.heap.size, 3, none⟩ = some (.slice y1.cA y1.LC.length y1.cc))) := hid (fun W hW => (same22_walk x1 y1 W (HX1.out.below hW.1) (HY1.out.below hW.1)).mono (by
    rintro e w' ⟨rfl, h3⟩
    exact ⟨by rw [show sameR x1 y1 = true from sameR_iff.2 (HEQ.out)], HST.out _ _ hW h3⟩))
  have HAL : HidP (∀ W, (Below w5.heap.size w5 W ∧ W.cell? ⟨w1.heap.size, 0, none⟩ = some (.slice x1.a.A x1.a.l.length x1.a.c) ∧ W.cell? ⟨w1.heap.size, 1, none⟩ = some (.slice x1.b.A x1.b.l.length x1.b.c) ∧ W.cell? ⟨w1.heap.size, 2, none⟩ = some (.slice x1.o.A x1.o.l.length x1.o.c) ∧ W.cell? ⟨w1.heap.size, 3, none⟩ = some (.slice x1.cA x1.LC.length x1.cc) ∧ W.cell? ⟨w3.heap.size, 0, none⟩ = some (.slice y1.a.A y1.a.l.length y1.a.c) ∧ W.cell? ⟨w3.heap.size, 1, none⟩ = some (.slice y1.b.A y1.b.l.length y1.b.c) ∧ W.cell? ⟨w3.heap.size, 2, none⟩ = some (.slice y1.o.A y1.o.l.length y1.o.c) ∧ W.cell? ⟨w3.heap.size, 3, none⟩ = some (.slice y1.cA y1.LC.length y1.cc)) → Calls Tryz.prog 10 #[] W fun e w' => e = .returned (.bool true) ∧ (Below w5.heap.size w5 w' ∧ w'.cell? ⟨w1.heap.size, 0, none⟩ = some (.slice x1.a.A x1.a.l.length x1.a.c) ∧ w'.cell? ⟨w1.heap.size, 1, none⟩ = some (.slice x1.b.A x1.b.l.length x1.b.c) ∧ w'.cell? ⟨w1.heap.size, 2, none⟩ = some (.slice x1.o.A x1.o.l.length x1.o.c) ∧ w'.cell? ⟨w1.heap.size, 3, none⟩ = some (.slice x1.cA x1.LC.length x1.cc) ∧ w'.cell? ⟨w3.heap.size, 0, none⟩ = some (.slice y1.a.A y1.a.l.length y1.a.c) ∧ w'.cell? ⟨w3.heap.size, 1, none⟩ = some (.slice y1.b.A y1.b.l.length y1.b.c) ∧ w'.cell? ⟨w3.heap.size, 2, none⟩ = some (.slice y1.o.A y1.o.l.length y1.o.c) ∧ w'.cell? ⟨w3.heap.size, 3, none⟩ = some (.slice y1.cA y1.LC.length y1.cc))) := hid (fun W hW => (HA.out W).mono (by
    rintro e w' ⟨rfl, h3⟩
    exact ⟨rfl, HST.out _ _ hW h3⟩))
  clear p0 p1 p2 p3 s0 s1 s2 s3 q1' q2' HST hn
  go_region_held3 (fun W => Below w5.heap.size w5 W ∧ W.cell? ⟨w1.heap.size, 0, none⟩ = some (.slice x1.a.A x1.a.l.length x1.a.c) ∧ W.cell? ⟨w1.heap.size, 1, none⟩ = some (.slice x1.b.A x1.b.l.length x1.b.c) ∧ W.cell? ⟨w1.heap.size, 2, none⟩ = some (.slice x1.o.A x1.o.l.length x1.o.c) ∧ W.cell? ⟨w1.heap.size, 3, none⟩ = some (.slice x1.cA x1.LC.length x1.cc) ∧ W.cell? ⟨w3.heap.size, 0, none⟩ = some (.slice y1.a.A y1.a.l.length y1.a.c) ∧ W.cell? ⟨w3.heap.size, 1, none⟩ = some (.slice y1.b.A y1.b.l.length y1.b.c) ∧ W.cell? ⟨w3.heap.size, 2, none⟩ = some (.slice y1.o.A y1.o.l.length y1.o.c) ∧ W.cell? ⟨w3.heap.size, 3, none⟩ = some (.slice y1.cA y1.LC.length y1.cc)) (assumption) (first | (refine step_callG 14 _ _ (by rfl) (by rfl) Tryz.func14 (by kernel_rfl) (by kernel_rfl) [.agg #[.slice x1.a.A x1.a.l.length x1.a.c, .slice x1.b.A x1.b.l.length x1.b.c, .slice x1.o.A x1.o.l.length x1.o.c, .slice x1.cA x1.LC.length x1.cc]] (by rfl) (HBK.out _ (by assumption)) ?_; rintro e wk1 ⟨rfl, hK1⟩; refine ⟨_, rfl, ?_⟩) | (refine step_callG 13 _ _ (by rfl) (by rfl) Tryz.func13 (by kernel_rfl) (by kernel_rfl) [.agg #[.slice x1.a.A x1.a.l.length x1.a.c, .slice x1.b.A x1.b.l.length x1.b.c, .slice x1.o.A x1.o.l.length x1.o.c, .slice x1.cA x1.LC.length x1.cc], .agg #[.slice y1.a.A y1.a.l.length y1.a.c, .slice y1.b.A y1.b.l.length y1.b.c, .slice y1.o.A y1.o.l.length y1.o.c, .slice y1.cA y1.LC.length y1.cc]] (by rfl) (HSM.out _ (by assumption)) ?_; rintro e wk2 ⟨rfl, hK2⟩; refine ⟨_, rfl, ?_⟩) | (refine step_callG 10 _ _ (by rfl) (by rfl) Tryz.func10 (by kernel_rfl) (by kernel_rfl) [] (by rfl) (HAL.out _ (by assumption)) ?_; rintro e wk3 ⟨rfl, hK3⟩; refine ⟨_, rfl, ?_⟩))
  have hfin := thenB HB4.out hK3.1
  clear hK1 hK2 hK3 HBK HSM HAL
  go_wp2_with fail
  go_ret
  exact ⟨by simp, hfin⟩
theorem mergemerges_card (A0 : Option Addr) (c0 : Nat) (l0 : List Itm) (A1 : Option Addr) (c1 : Nat) (l1 : List Itm) (A2 : Option Addr) (c2 : Nat) (l2 : List Itm) (w : World) (q0 : TrQ w A0 c0 l0) (q1 : TrQ w A1 c1 l1) (q2 : TrQ w A2 c2 l2) :
    Calls Tryz.prog 3 #[.slice A0 l0.length c0, .slice A1 l1.length c1, .slice A2 l2.length c2] w fun e w' => e = .returned (.bool true) ∧ Below w.heap.size w w' := mergemerges_walk ⟨A0, c0, l0⟩ ⟨A1, c1, l1⟩ ⟨A2, c2, l2⟩ w q0 q1 q2

end Go.Proofs.YtfbbjfbnkcklgaaGreatDoor
