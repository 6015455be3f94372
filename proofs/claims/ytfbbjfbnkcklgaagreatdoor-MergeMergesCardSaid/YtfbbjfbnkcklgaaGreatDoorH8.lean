/- the document's at (printed by gen/genH8.py) -/
import Derived.Test.YtfbbjfbnkcklgaaGreatDoorH1
namespace Go.Proofs.YtfbbjfbnkcklgaaGreatDoor
open Go.RowKit

section
variable {o a b : List AIt}
theorem one_take {m : Nat} {q : Txt} (h : takeA o a b q = true) : oneX o a b (ruleA o a b) m q = underA a q ∧ oneX o a b (ruleB o a b) m q = underA a q ∧ oneX o a b (ruleO o a b) m q = underA a q ∧ oneC o a b m q = [] := by
  unfold oneX oneC descB confB ruleA ruleB ruleO
  simp [h]
theorem one_first {m : Nat} {q : Txt} (h : takeA o a b q = false) (h2 : firstO o a q = true) : oneX o a b (ruleA o a b) m q = underA b q ∧ oneX o a b (ruleB o a b) m q = underA b q ∧ oneX o a b (ruleO o a b) m q = underA b q ∧ oneC o a b m q = [] := by
  unfold oneX oneC descB confB ruleA ruleB ruleO
  simp [h, h2]
theorem one_desc {m : Nat} {q : Txt} (h : takeA o a b q = false) (h2 : firstO o a q = false) (h3 : bothD a b q = true) : oneX o a b (ruleA o a b) m q = ⟨q, true, []⟩ :: mgX (namesA o a b) (descB o a b) (ruleA o a b) m q ∧ oneX o a b (ruleB o a b) m q = ⟨q, true, []⟩ :: mgX (namesA o a b) (descB o a b) (ruleB o a b) m q ∧
    oneX o a b (ruleO o a b) m q = ⟨q, true, []⟩ :: mgX (namesA o a b) (descB o a b) (ruleO o a b) m q ∧ oneC o a b m q = mgC (namesA o a b) (descB o a b) (confB o a b) m q := by
  have hd : descB o a b q = true := by unfold descB; rw [h, h2, h3]; rfl
  unfold oneX oneC
  rw [if_pos hd, if_pos hd, if_pos hd, if_pos hd]
  exact ⟨rfl, rfl, rfl, rfl⟩
theorem one_conf {m : Nat} {q : Txt} (h : takeA o a b q = false) (h2 : firstO o a q = false) (h3 : bothD a b q = false) : oneX o a b (ruleA o a b) m q = underA a q ∧ oneX o a b (ruleB o a b) m q = underA b q ∧ oneX o a b (ruleO o a b) m q = underA o q ∧ oneC o a b m q = [q] := by
  unfold oneX oneC descB confB ruleA ruleB ruleO
  simp [h, h2, h3]
end
def AtR (n : Nat) : Prop := ∀ (o a b : TrI) (p : ByteArray) (x : RI) (R : Nat) (W : World), Right3 (o.l.map Itm.abs) (a.l.map Itm.abs) (b.l.map Itm.abs) → 126 ≤ p.toList.length + n → RB R x W → Tr W o.A o.c o.l → Tr W a.A a.c a.l → Tr W b.A b.c b.l →
  Room x (mgX (namesA (o.l.map Itm.abs) (a.l.map Itm.abs) (b.l.map Itm.abs)) (descB (o.l.map Itm.abs) (a.l.map Itm.abs) (b.l.map Itm.abs)) (ruleA (o.l.map Itm.abs) (a.l.map Itm.abs) (b.l.map Itm.abs)) n p.toList).length (mgX (namesA (o.l.map Itm.abs) (a.l.map Itm.abs) (b.l.map Itm.abs)) (descB (o.l.map Itm.abs) (a.l.map Itm.abs) (b.l.map Itm.abs)) (ruleB (o.l.map Itm.abs) (a.l.map Itm.abs) (b.l.map Itm.abs)) n p.toList).length (mgX (namesA (o.l.map Itm.abs) (a.l.map Itm.abs) (b.l.map Itm.abs)) (descB (o.l.map Itm.abs) (a.l.map Itm.abs) (b.l.map Itm.abs)) (ruleO (o.l.map Itm.abs) (a.l.map Itm.abs) (b.l.map Itm.abs)) n p.toList).length (mgC (namesA (o.l.map Itm.abs) (a.l.map Itm.abs) (b.l.map Itm.abs)) (descB (o.l.map Itm.abs) (a.l.map Itm.abs) (b.l.map Itm.abs)) (confB (o.l.map Itm.abs) (a.l.map Itm.abs) (b.l.map Itm.abs)) n p.toList).length →
  Calls Tryz.prog 42 #[.pointer (some ⟨R, 0, none⟩), .slice o.A o.l.length o.c, .slice a.A a.l.length a.c, .slice b.A b.l.length b.c, .string p] W fun e w' => (∃ v, e = .returned v) ∧ (∃ x', RB R x' w' ∧ x'.abs = stepA x.abs (mgX (namesA (o.l.map Itm.abs) (a.l.map Itm.abs) (b.l.map Itm.abs)) (descB (o.l.map Itm.abs) (a.l.map Itm.abs) (b.l.map Itm.abs)) (ruleA (o.l.map Itm.abs) (a.l.map Itm.abs) (b.l.map Itm.abs)) n p.toList) (mgX (namesA (o.l.map Itm.abs) (a.l.map Itm.abs) (b.l.map Itm.abs)) (descB (o.l.map Itm.abs) (a.l.map Itm.abs) (b.l.map Itm.abs)) (ruleB (o.l.map Itm.abs) (a.l.map Itm.abs) (b.l.map Itm.abs)) n p.toList) (mgX (namesA (o.l.map Itm.abs) (a.l.map Itm.abs) (b.l.map Itm.abs)) (descB (o.l.map Itm.abs) (a.l.map Itm.abs) (b.l.map Itm.abs)) (ruleO (o.l.map Itm.abs) (a.l.map Itm.abs) (b.l.map Itm.abs)) n p.toList) (mgC (namesA (o.l.map Itm.abs) (a.l.map Itm.abs) (b.l.map Itm.abs)) (descB (o.l.map Itm.abs) (a.l.map Itm.abs) (b.l.map Itm.abs)) (confB (o.l.map Itm.abs) (a.l.map Itm.abs) (b.l.map Itm.abs)) n p.toList)) ∧ KR R W w'
theorem names_of (o a b : List AIt) (p : Txt) : (kidP b p).foldl putK ((kidP a p).foldl putK ((kidP o p).foldl putK [])) = namesA o a b p := by
  unfold namesA
  rw [← putsK _ [] List.Pairwise.nil, List.foldl_append, List.foldl_append]

set_option maxRecDepth 100000 in
set_option maxHeartbeats 8000000 in
theorem at_step (n : Nat) (ih : ∀ m, n = m + 1 → AtR m) : AtR n := by
  intro o a b p x R W hR hn hB ho ha hb hm
  have lo : o.l.length ≤ 60 := by have := hR.o.len; rwa [List.length_map] at this
  have la : a.l.length ≤ 60 := by have := hR.a.len; rwa [List.length_map] at this
  have lb : b.l.length ≤ 60 := by have := hR.b.len; rwa [List.length_map] at this
  have HI1 := hid (refinner none 0 [] o.A o.c o.l p W (Row.nil W 9 1) ho (by simp; omega) (by simp))
  have HRR := hid hR
  have HNN := hid hn
  have HBB := hid hB
  have Ho := hid ho
  have Ha := hid ha
  have Hb := hid hb
  have HM := hid hm
  have HLL : HidP (o.l.length ≤ 60 ∧ a.l.length ≤ 60 ∧ b.l.length ≤ 60) := hid ⟨lo, la, lb⟩
  clear hR hn hB ho ha hb hm lo la lb
  go_enter Tryz.func42, Tryz.ntmps42
  go_wp2_with fail
  refine HI1.out.mono ?_
  rintro e w1 ⟨⟨C1, u1, n1, rfl, r1, e1, c1, z1⟩, hb1⟩
  have HI2 := hid (refinner C1 u1 n1 a.A a.c a.l p w1 r1 (Ha.out.below hb1) (by have := HLL.out; simp at c1; omega) z1)
  clear r1 HI1
  have E1 := hid e1
  have K1 := hid c1
  clear e1 c1 z1
  go_wp2_with fail
  refine HI2.out.mono ?_
  rintro e w2 ⟨⟨C2, u2, n2, rfl, r2, e2, c2, z2⟩, hb2'⟩
  have hb2 := thenB hb1 hb2'
  have HI3 := hid (refinner C2 u2 n2 b.A b.c b.l p w2 r2 (Hb.out.below hb2) (by have := HLL.out; have := K1.out; simp at this; omega) z2)
  clear r2 HI2 hb2'
  have E2 := hid e2
  have K2 := hid c2
  clear e2 c2 z2
  go_wp2_with fail
  refine HI3.out.mono ?_
  rintro e w3 ⟨⟨CN, uN, LN, rfl, rN, eN, cN, zN⟩, hb3'⟩
  have hb3 := thenB hb2 hb3'
  have hnl : LN.length ≤ 1000 := by
    have := HLL.out
    have h1 := K1.out
    have h2 := K2.out
    simp at h1
    omega
  have HNM : HidP (LN.map (fun z : ByteArray => z.toList) = namesA (o.l.map Itm.abs) (a.l.map Itm.abs) (b.l.map Itm.abs) p.toList) := hid (by
    rw [eN, E2.out, E1.out]
    exact names_of _ _ _ _)
  have HROWN := hid rN
  have HB3 := hid (HBB.out.below hb3)
  replace Ho := hid (Ho.out.below hb3)
  replace Ha := hid (Ha.out.below hb3)
  replace Hb := hid (Hb.out.below hb3)
  have HK3 := hid (KR.then (Keep.refl (fun k => k ≠ R) W) hb3)
  clear rN eN cN zN HI3 E1 E2 K1 K2 hb1 hb2 hb3 hb3' HBB
  have HTOT : HidP ((mgX (namesA (o.l.map Itm.abs) (a.l.map Itm.abs) (b.l.map Itm.abs)) (descB (o.l.map Itm.abs) (a.l.map Itm.abs) (b.l.map Itm.abs)) (ruleA (o.l.map Itm.abs) (a.l.map Itm.abs) (b.l.map Itm.abs)) n p.toList) = (LN.map fun z : ByteArray => z.toList).flatMap (oneX (o.l.map Itm.abs) (a.l.map Itm.abs) (b.l.map Itm.abs) (ruleA (o.l.map Itm.abs) (a.l.map Itm.abs) (b.l.map Itm.abs)) (n - 1)) ∧ (mgX (namesA (o.l.map Itm.abs) (a.l.map Itm.abs) (b.l.map Itm.abs)) (descB (o.l.map Itm.abs) (a.l.map Itm.abs) (b.l.map Itm.abs)) (ruleB (o.l.map Itm.abs) (a.l.map Itm.abs) (b.l.map Itm.abs)) n p.toList) = (LN.map fun z : ByteArray => z.toList).flatMap (oneX (o.l.map Itm.abs) (a.l.map Itm.abs) (b.l.map Itm.abs) (ruleB (o.l.map Itm.abs) (a.l.map Itm.abs) (b.l.map Itm.abs)) (n - 1)) ∧ (mgX (namesA (o.l.map Itm.abs) (a.l.map Itm.abs) (b.l.map Itm.abs)) (descB (o.l.map Itm.abs) (a.l.map Itm.abs) (b.l.map Itm.abs)) (ruleO (o.l.map Itm.abs) (a.l.map Itm.abs) (b.l.map Itm.abs)) n p.toList) = (LN.map fun z : ByteArray => z.toList).flatMap (oneX (o.l.map Itm.abs) (a.l.map Itm.abs) (b.l.map Itm.abs) (ruleO (o.l.map Itm.abs) (a.l.map Itm.abs) (b.l.map Itm.abs)) (n - 1)) ∧ (mgC (namesA (o.l.map Itm.abs) (a.l.map Itm.abs) (b.l.map Itm.abs)) (descB (o.l.map Itm.abs) (a.l.map Itm.abs) (b.l.map Itm.abs)) (confB (o.l.map Itm.abs) (a.l.map Itm.abs) (b.l.map Itm.abs)) n p.toList) = (LN.map fun z : ByteArray => z.toList).flatMap (oneC (o.l.map Itm.abs) (a.l.map Itm.abs) (b.l.map Itm.abs) (n - 1))) := hid (by
    rw [HNM.out]
    cases n with
    | zero =>
      have h0 : namesA (o.l.map Itm.abs) (a.l.map Itm.abs) (b.l.map Itm.abs) p.toList = [] := by
        rw [List.eq_nil_iff_forall_not_mem]
        intro r hr
        obtain ⟨h1, h2⟩ := mem_names.1 hr
        have h3 := HRR.out.pathU h2
        have h4 := up_short h3
        have h5 := pathB_short h3
        have h6 := HNN.out
        rw [h1] at h4
        omega
      rw [h0]
      exact ⟨rfl, rfl, rfl, rfl⟩
    | succ m => exact ⟨rfl, rfl, rfl, rfl⟩)
  go_wp2_with fail
  go_loopg [11] LN.length (fun k i wr => ∃ (j : Nat) (x' : RI), j ≤ LN.length ∧ k = LN.length - j ∧ i = .int .i64 j ∧ RB R x' wr ∧ HidP (x'.abs = stepA x.abs (((LN.take j).map fun z : ByteArray => z.toList).flatMap (oneX (o.l.map Itm.abs) (a.l.map Itm.abs) (b.l.map Itm.abs) (ruleA (o.l.map Itm.abs) (a.l.map Itm.abs) (b.l.map Itm.abs)) (n - 1))) (((LN.take j).map fun z : ByteArray => z.toList).flatMap (oneX (o.l.map Itm.abs) (a.l.map Itm.abs) (b.l.map Itm.abs) (ruleB (o.l.map Itm.abs) (a.l.map Itm.abs) (b.l.map Itm.abs)) (n - 1))) (((LN.take j).map fun z : ByteArray => z.toList).flatMap (oneX (o.l.map Itm.abs) (a.l.map Itm.abs) (b.l.map Itm.abs) (ruleO (o.l.map Itm.abs) (a.l.map Itm.abs) (b.l.map Itm.abs)) (n - 1))) (((LN.take j).map fun z : ByteArray => z.toList).flatMap (oneC (o.l.map Itm.abs) (a.l.map Itm.abs) (b.l.map Itm.abs) (n - 1)))) ∧ KR R w3 wr)
  case atStart => exact ⟨0, x, Nat.zero_le _, rfl, rfl, HB3.out, ⟨rfl⟩, Keep.refl _ _⟩
  case round =>
    obtain ⟨j, x', hj, rfl, rfl, hrb, habs, hkr⟩ := hrel
    generalize wr = wo at *
    have HRB := hid hrb
    have HKR := hid hkr
    replace Ho := hid (HB3.out.tree Ho.out hkr)
    replace Ha := hid (HB3.out.tree Ha.out hkr)
    replace Hb := hid (HB3.out.tree Hb.out hkr)
    have HROW := hid (HB3.out.row HROWN.out (by decide) hkr)
    clear hrb hkr
    by_cases hlt : j < LN.length
    · have i0 : (0 : Int) ≤ (j : Int) := by omega
      have i1 : (j : Int) < (LN.length : Int) := by omega
      obtain ⟨bN, oN, hC, k1⟩ := HROW.out.str hlt
      subst hC
      have hmem : LN[j].toList ∈ namesA (o.l.map Itm.abs) (a.l.map Itm.abs) (b.l.map Itm.abs) p.toList := by rw [← HNM.out]; exact List.mem_map_of_mem (List.getElem_mem hlt)
      obtain ⟨hup, hin⟩ := mem_names.1 hmem
      have hpq := HRR.out.pathU hin
      have hqs := str_small hpq
      have HPQ := hid hpq
      have HQS := hid hqs
      have HSH : HidP (p.toList.length < LN[j].toList.length) := hid (by have := up_short hpq; rwa [hup] at this)
      have HFIN : HidP (∀ (x2 : RI) (W' : World) (cA cB cO : List AIt) (cC : List Txt), RB R x2 W' → x2.abs = stepA x'.abs cA cB cO cC → KR R wo W' → ((oneX (o.l.map Itm.abs) (a.l.map Itm.abs) (b.l.map Itm.abs) (ruleA (o.l.map Itm.abs) (a.l.map Itm.abs) (b.l.map Itm.abs)) (n - 1)) LN[j].toList = cA ∧ (oneX (o.l.map Itm.abs) (a.l.map Itm.abs) (b.l.map Itm.abs) (ruleB (o.l.map Itm.abs) (a.l.map Itm.abs) (b.l.map Itm.abs)) (n - 1)) LN[j].toList = cB ∧ (oneX (o.l.map Itm.abs) (a.l.map Itm.abs) (b.l.map Itm.abs) (ruleO (o.l.map Itm.abs) (a.l.map Itm.abs) (b.l.map Itm.abs)) (n - 1)) LN[j].toList = cO ∧ (oneC (o.l.map Itm.abs) (a.l.map Itm.abs) (b.l.map Itm.abs) (n - 1)) LN[j].toList = cC) → RB R x2 W' ∧ HidP (x2.abs = stepA x.abs (((LN.take (j + 1)).map fun z : ByteArray => z.toList).flatMap (oneX (o.l.map Itm.abs) (a.l.map Itm.abs) (b.l.map Itm.abs) (ruleA (o.l.map Itm.abs) (a.l.map Itm.abs) (b.l.map Itm.abs)) (n - 1))) (((LN.take (j + 1)).map fun z : ByteArray => z.toList).flatMap (oneX (o.l.map Itm.abs) (a.l.map Itm.abs) (b.l.map Itm.abs) (ruleB (o.l.map Itm.abs) (a.l.map Itm.abs) (b.l.map Itm.abs)) (n - 1))) (((LN.take (j + 1)).map fun z : ByteArray => z.toList).flatMap (oneX (o.l.map Itm.abs) (a.l.map Itm.abs) (b.l.map Itm.abs) (ruleO (o.l.map Itm.abs) (a.l.map Itm.abs) (b.l.map Itm.abs)) (n - 1))) (((LN.take (j + 1)).map fun z : ByteArray => z.toList).flatMap (oneC (o.l.map Itm.abs) (a.l.map Itm.abs) (b.l.map Itm.abs) (n - 1)))) ∧ KR R w3 W') := hid (fun x2 W' cA cB cO cC h1 h2 h3 h4 => by
        obtain ⟨g1, g2, g3, g4⟩ := h4
        refine ⟨h1, ⟨?_⟩, HKR.out.trans h3⟩
        have hl : j < (LN.map fun z : ByteArray => z.toList).length := by rw [List.length_map]; exact hlt
        rw [h2, habs.out, stepA_then, ← g1, ← g2, ← g3, ← g4]
        simp only [List.map_take]
        rw [take_next _ hl, take_next _ hl, take_next _ hl, take_next _ hl, List.getElem_map])
      have HROOM2 : HidP (∀ (x2 : RI) (a1 b1 o1 : List AIt) (c1 : List Txt) (cA cB cO : List AIt) (cC : List Txt), x2.abs = stepA x'.abs a1 b1 o1 c1 → ((oneX (o.l.map Itm.abs) (a.l.map Itm.abs) (b.l.map Itm.abs) (ruleA (o.l.map Itm.abs) (a.l.map Itm.abs) (b.l.map Itm.abs)) (n - 1)) LN[j].toList = cA ∧ (oneX (o.l.map Itm.abs) (a.l.map Itm.abs) (b.l.map Itm.abs) (ruleB (o.l.map Itm.abs) (a.l.map Itm.abs) (b.l.map Itm.abs)) (n - 1)) LN[j].toList = cB ∧ (oneX (o.l.map Itm.abs) (a.l.map Itm.abs) (b.l.map Itm.abs) (ruleO (o.l.map Itm.abs) (a.l.map Itm.abs) (b.l.map Itm.abs)) (n - 1)) LN[j].toList = cO ∧ (oneC (o.l.map Itm.abs) (a.l.map Itm.abs) (b.l.map Itm.abs) (n - 1)) LN[j].toList = cC) → ∀ {kA kB kO kC : Nat}, a1.length + kA ≤ cA.length → b1.length + kB ≤ cB.length → o1.length + kO ≤ cO.length → c1.length + kC ≤ cC.length → Room x2 kA kB kO kC) := hid (fun x2 a1 b1 o1 c1 cA cB cO cC h2 h4 kA kB kO kC g1 g2 g3 g4 => by
        obtain ⟨e1, e2, e3, e4⟩ := h4
        have hl : j < (LN.map fun z : ByteArray => z.toList).length := by rw [List.length_map]; exact hlt
        have t1 := take_room (oneX (o.l.map Itm.abs) (a.l.map Itm.abs) (b.l.map Itm.abs) (ruleA (o.l.map Itm.abs) (a.l.map Itm.abs) (b.l.map Itm.abs)) (n - 1)) hl
        have t2 := take_room (oneX (o.l.map Itm.abs) (a.l.map Itm.abs) (b.l.map Itm.abs) (ruleB (o.l.map Itm.abs) (a.l.map Itm.abs) (b.l.map Itm.abs)) (n - 1)) hl
        have t3 := take_room (oneX (o.l.map Itm.abs) (a.l.map Itm.abs) (b.l.map Itm.abs) (ruleO (o.l.map Itm.abs) (a.l.map Itm.abs) (b.l.map Itm.abs)) (n - 1)) hl
        have t4 := take_room (oneC (o.l.map Itm.abs) (a.l.map Itm.abs) (b.l.map Itm.abs) (n - 1)) hl
        rw [List.getElem_map] at t1 t2 t3 t4
        rw [e1, ← HTOT.out.1, ← List.map_take] at t1
        rw [e2, ← HTOT.out.2.1, ← List.map_take] at t2
        rw [e3, ← HTOT.out.2.2.1, ← List.map_take] at t3
        rw [e4, ← HTOT.out.2.2.2, ← List.map_take] at t4
        have h5 := habs.out
        rw [h5, stepA_then] at h2
        exact HM.out.next h2 (by rw [List.length_append]; omega) (by rw [List.length_append]; omega) (by rw [List.length_append]; omega) (by rw [List.length_append]; omega))
      have HROOM : HidP (∀ (cA cB cO : List AIt) (cC : List Txt), ((oneX (o.l.map Itm.abs) (a.l.map Itm.abs) (b.l.map Itm.abs) (ruleA (o.l.map Itm.abs) (a.l.map Itm.abs) (b.l.map Itm.abs)) (n - 1)) LN[j].toList = cA ∧ (oneX (o.l.map Itm.abs) (a.l.map Itm.abs) (b.l.map Itm.abs) (ruleB (o.l.map Itm.abs) (a.l.map Itm.abs) (b.l.map Itm.abs)) (n - 1)) LN[j].toList = cB ∧ (oneX (o.l.map Itm.abs) (a.l.map Itm.abs) (b.l.map Itm.abs) (ruleO (o.l.map Itm.abs) (a.l.map Itm.abs) (b.l.map Itm.abs)) (n - 1)) LN[j].toList = cO ∧ (oneC (o.l.map Itm.abs) (a.l.map Itm.abs) (b.l.map Itm.abs) (n - 1)) LN[j].toList = cC) → ∀ {kA kB kO kC : Nat}, kA ≤ cA.length → kB ≤ cB.length → kO ≤ cO.length → kC ≤ cC.length → Room x' kA kB kO kC) := hid (fun cA cB cO cC h4 kA kB kO kC g1 g2 g3 g4 => HROOM2.out x' [] [] [] [] cA cB cO cC rfl h4 (by simpa using g1) (by simpa using g2) (by simpa using g3) (by simpa using g4))
      have HNE : HidP (bN ≠ R) := hid (fun e => HROW.out.neBlk HRB.out.blk (by decide) (by rw [← e]; rfl))
      have HUo : HidP (∀ W, (Below wo.heap.size wo W ∧ W.cell? ⟨bN, oN + j, none⟩ = some (.string LN[j])) → Calls Tryz.prog 70 #[.slice o.A o.l.length o.c, .string LN[j]] W fun e w' => (∃ (B : Option Addr) (d : Nat) (l' : List Itm), e = .returned (.slice B l'.length d) ∧ Tr w' B d l' ∧ l'.map Itm.abs = underA (o.l.map Itm.abs) LN[j].toList) ∧ Below W.heap.size W w' ∧ (Below wo.heap.size wo w' ∧ w'.cell? ⟨bN, oN + j, none⟩ = some (.string LN[j]))) := hid (fun W hW => (refunder o.A o.c o.l LN[j] W (Ho.out.below hW.1) hqs).mono (by
        rintro e w' ⟨⟨B, d, rfl, h1⟩, h3⟩
        exact ⟨⟨B, d, _, rfl, h1, by unfold underA; rw [List.filter_map]; rfl⟩, h3, thenB hW.1 h3, cellB h3 hW.2⟩))
      have HUa : HidP (∀ W, (Below wo.heap.size wo W ∧ W.cell? ⟨bN, oN + j, none⟩ = some (.string LN[j])) → Calls Tryz.prog 70 #[.slice a.A a.l.length a.c, .string LN[j]] W fun e w' => (∃ (B : Option Addr) (d : Nat) (l' : List Itm), e = .returned (.slice B l'.length d) ∧ Tr w' B d l' ∧ l'.map Itm.abs = underA (a.l.map Itm.abs) LN[j].toList) ∧ Below W.heap.size W w' ∧ (Below wo.heap.size wo w' ∧ w'.cell? ⟨bN, oN + j, none⟩ = some (.string LN[j]))) := hid (fun W hW => (refunder a.A a.c a.l LN[j] W (Ha.out.below hW.1) hqs).mono (by
        rintro e w' ⟨⟨B, d, rfl, h1⟩, h3⟩
        exact ⟨⟨B, d, _, rfl, h1, by unfold underA; rw [List.filter_map]; rfl⟩, h3, thenB hW.1 h3, cellB h3 hW.2⟩))
      have HUb : HidP (∀ W, (Below wo.heap.size wo W ∧ W.cell? ⟨bN, oN + j, none⟩ = some (.string LN[j])) → Calls Tryz.prog 70 #[.slice b.A b.l.length b.c, .string LN[j]] W fun e w' => (∃ (B : Option Addr) (d : Nat) (l' : List Itm), e = .returned (.slice B l'.length d) ∧ Tr w' B d l' ∧ l'.map Itm.abs = underA (b.l.map Itm.abs) LN[j].toList) ∧ Below W.heap.size W w' ∧ (Below wo.heap.size wo w' ∧ w'.cell? ⟨bN, oN + j, none⟩ = some (.string LN[j]))) := hid (fun W hW => (refunder b.A b.c b.l LN[j] W (Hb.out.below hW.1) hqs).mono (by
        rintro e w' ⟨⟨B, d, rfl, h1⟩, h3⟩
        exact ⟨⟨B, d, _, rfl, h1, by unfold underA; rw [List.filter_map]; rfl⟩, h3, thenB hW.1 h3, cellB h3 hW.2⟩))
      have hs0 : Below wo.heap.size wo wo.drew ∧ wo.drew.cell? ⟨bN, oN + j, none⟩ = some (.string LN[j]) := ⟨⟨rfl, rfl, rfl, Nat.le_refl _, fun _ _ => rfl⟩, k1⟩
      clear hmem hup hin hpq hqs
      go_wp2_with fail
      go_region_held3 (fun W => Below wo.heap.size wo W ∧ W.cell? ⟨bN, oN + j, none⟩ = some (.string LN[j])) (assumption) (first | (refine step_callG 70 _ _ (by rfl) (by rfl) Tryz.func70 (by kernel_rfl) (by kernel_rfl) [.slice o.A o.l.length o.c, .string LN[j]] (by rfl) (HUo.out _ (by assumption)) ?_; rintro e wk1 ⟨⟨B1, d1, l1, rfl, ht1, he1⟩, hk1, hK1⟩; have HT1 := hid ht1; have HE1 := hid he1; clear ht1 he1; refine ⟨_, rfl, ?_⟩) | (refine step_callG 70 _ _ (by rfl) (by rfl) Tryz.func70 (by kernel_rfl) (by kernel_rfl) [.slice a.A a.l.length a.c, .string LN[j]] (by rfl) (HUa.out _ (by assumption)) ?_; rintro e wk2 ⟨⟨B2, d2, l2, rfl, ht2, he2⟩, hk2, hK2⟩; replace HT1 := hid (HT1.out.below hk2); have HT2 := hid ht2; have HE2 := hid he2; clear ht2 he2; refine ⟨_, rfl, ?_⟩) | (refine step_callG 70 _ _ (by rfl) (by rfl) Tryz.func70 (by kernel_rfl) (by kernel_rfl) [.slice b.A b.l.length b.c, .string LN[j]] (by rfl) (HUb.out _ (by assumption)) ?_; rintro e wk3 ⟨⟨B3, d3, l3, rfl, ht3, he3⟩, hk3, hK3⟩; replace HT1 := hid (HT1.out.below hk3); replace HT2 := hid (HT2.out.below hk3); have HT3 := hid ht3; have HE3 := hid he3; clear ht3 he3; refine ⟨_, rfl, ?_⟩))
      have k6 := hK3.2
      have HB6 := hid hK3.1
      clear hK1 hK2 hK3 hk1 hk2 hk3 HUo HUa HUb k1 hs0
      generalize wk3 = w6 at *
      have HRB6 := hid (HRB.out.below HB6.out)
      replace Ho := hid (Ho.out.below HB6.out)
      replace Ha := hid (Ha.out.below HB6.out)
      replace Hb := hid (Hb.out.below HB6.out)
      replace HFIN : HidP (∀ (x2 : RI) (W' : World) (cA cB cO : List AIt) (cC : List Txt), RB R x2 W' → x2.abs = stepA x'.abs cA cB cO cC → KR R w6 W' → ((oneX (o.l.map Itm.abs) (a.l.map Itm.abs) (b.l.map Itm.abs) (ruleA (o.l.map Itm.abs) (a.l.map Itm.abs) (b.l.map Itm.abs)) (n - 1)) LN[j].toList = cA ∧ (oneX (o.l.map Itm.abs) (a.l.map Itm.abs) (b.l.map Itm.abs) (ruleB (o.l.map Itm.abs) (a.l.map Itm.abs) (b.l.map Itm.abs)) (n - 1)) LN[j].toList = cB ∧ (oneX (o.l.map Itm.abs) (a.l.map Itm.abs) (b.l.map Itm.abs) (ruleO (o.l.map Itm.abs) (a.l.map Itm.abs) (b.l.map Itm.abs)) (n - 1)) LN[j].toList = cO ∧ (oneC (o.l.map Itm.abs) (a.l.map Itm.abs) (b.l.map Itm.abs) (n - 1)) LN[j].toList = cC) → RB R x2 W' ∧ HidP (x2.abs = stepA x.abs (((LN.take (j + 1)).map fun z : ByteArray => z.toList).flatMap (oneX (o.l.map Itm.abs) (a.l.map Itm.abs) (b.l.map Itm.abs) (ruleA (o.l.map Itm.abs) (a.l.map Itm.abs) (b.l.map Itm.abs)) (n - 1))) (((LN.take (j + 1)).map fun z : ByteArray => z.toList).flatMap (oneX (o.l.map Itm.abs) (a.l.map Itm.abs) (b.l.map Itm.abs) (ruleB (o.l.map Itm.abs) (a.l.map Itm.abs) (b.l.map Itm.abs)) (n - 1))) (((LN.take (j + 1)).map fun z : ByteArray => z.toList).flatMap (oneX (o.l.map Itm.abs) (a.l.map Itm.abs) (b.l.map Itm.abs) (ruleO (o.l.map Itm.abs) (a.l.map Itm.abs) (b.l.map Itm.abs)) (n - 1))) (((LN.take (j + 1)).map fun z : ByteArray => z.toList).flatMap (oneC (o.l.map Itm.abs) (a.l.map Itm.abs) (b.l.map Itm.abs) (n - 1)))) ∧ KR R w3 W') := hid (fun x2 W' cA cB cO cC h1 h2 h3 h4 => HFIN.out x2 W' cA cB cO cC h1 h2 ((KR.then (Keep.refl (fun k => k ≠ R) wo) HB6.out).trans h3) h4)
      obtain ⟨t1, ht1⟩ : ∃ t, decide (underA (a.l.map Itm.abs) LN[j].toList = underA (b.l.map Itm.abs) LN[j].toList) = t := ⟨_, rfl⟩
      obtain ⟨t2, ht2⟩ : ∃ t, decide (underA (b.l.map Itm.abs) LN[j].toList = underA (o.l.map Itm.abs) LN[j].toList) = t := ⟨_, rfl⟩
      obtain ⟨t3, ht3⟩ : ∃ t, decide (underA (a.l.map Itm.abs) LN[j].toList = underA (o.l.map Itm.abs) LN[j].toList) = t := ⟨_, rfl⟩
      have HTK : HidP (takeA (o.l.map Itm.abs) (a.l.map Itm.abs) (b.l.map Itm.abs) LN[j].toList = (t1 || t2)) := hid (by unfold takeA; rw [ht1, ht2])
      have HFO : HidP (firstO (o.l.map Itm.abs) (a.l.map Itm.abs) LN[j].toList = t3) := hid (by unfold firstO; exact ht3)
      have Ht1 := hid ht1
      have Ht2 := hid ht2
      have Ht3 := hid ht3
      clear ht1 ht2 ht3
      have HS1 : HidP (∀ W, Below w6.heap.size w6 W → Calls Tryz.prog 19 #[.slice B2 l2.length d2, .slice B3 l3.length d3] W fun e w' => e = .returned (.bool t1) ∧ Below W.heap.size W w') := hid (fun W hW => by
        have h1 := refsame B2 B3 d2 d3 l2 l3 W (HT2.out.below hW) (HT3.out.below hW)
        rwa [show sameL l2 l3 = t1 by unfold sameL; rw [HE2.out, HE3.out]; exact Ht1.out] at h1)
      have HS2 : HidP (∀ W, Below w6.heap.size w6 W → Calls Tryz.prog 19 #[.slice B3 l3.length d3, .slice B1 l1.length d1] W fun e w' => e = .returned (.bool t2) ∧ Below W.heap.size W w') := hid (fun W hW => by
        have h1 := refsame B3 B1 d3 d1 l3 l1 W (HT3.out.below hW) (HT1.out.below hW)
        rwa [show sameL l3 l1 = t2 by unfold sameL; rw [HE3.out, HE1.out]; exact Ht2.out] at h1)
      have HS3 : HidP (∀ W, Below w6.heap.size w6 W → Calls Tryz.prog 19 #[.slice B2 l2.length d2, .slice B1 l1.length d1] W fun e w' => e = .returned (.bool t3) ∧ Below W.heap.size W w') := hid (fun W hW => by
        have h1 := refsame B2 B1 d2 d1 l2 l1 W (HT2.out.below hW) (HT1.out.below hW)
        rwa [show sameL l2 l1 = t3 by unfold sameL; rw [HE2.out, HE1.out]; exact Ht3.out] at h1)
      cases t1
      case true =>
        have HONE := hid (one_take (m := n - 1) HTK.out)
        go_wp2_with fail
        refine (HS1.out _ (Below.refl _ _)).mono ?_
        rintro e wA ⟨rfl, hs⟩
        have hW := hs
        clear hs
        have hrb := HRB6.out.below hW
        have HALL := hid (refall R x' B2 d2 l2 _ hrb (HT2.out.below hW) (HROOM.out _ _ _ _ HONE.out (by have := congrArg List.length HE2.out; rw [List.length_map] at this; omega) (by have := congrArg List.length HE2.out; rw [List.length_map] at this; omega) (by have := congrArg List.length HE2.out; rw [List.length_map] at this; omega) (Nat.zero_le _)))
        have HKW := hid (KR.then (Keep.refl (fun k => k ≠ R) w6) hW)
        clear hrb
        go_wp2_with fail
        refine HALL.out.mono ?_
        rintro e w9 ⟨⟨v, rfl⟩, ⟨x2, hx2, he2⟩, hk2⟩
        have HX2 := hid hx2
        have HE9 := hid he2
        have HK9 := hid (HKW.out.trans hk2)
        rw [HE2.out] at he2
        have HE9 := hid he2
        clear hx2 he2 hk2
        go_wp2_with fail
        go_roundg (LN.length - (j + 1))
        case measure => omega
        case rel => exact ⟨j + 1, _, by omega, rfl, by go_num, HFIN.out _ _ _ _ _ _ HX2.out HE9.out HK9.out HONE.out⟩
      cases t2
      case true =>
        have HONE := hid (one_take (m := n - 1) HTK.out)
        go_wp2_with fail
        refine (HS1.out _ (Below.refl _ _)).mono ?_
        rintro e wA ⟨rfl, hs⟩
        have hW := hs
        clear hs
        go_wp2_with fail
        refine (HS2.out _ hW).mono ?_
        rintro e wB ⟨rfl, hs⟩
        replace hW := thenB hW hs
        clear hs
        have hrb := HRB6.out.below hW
        have HALL := hid (refall R x' B2 d2 l2 _ hrb (HT2.out.below hW) (HROOM.out _ _ _ _ HONE.out (by have := congrArg List.length HE2.out; rw [List.length_map] at this; omega) (by have := congrArg List.length HE2.out; rw [List.length_map] at this; omega) (by have := congrArg List.length HE2.out; rw [List.length_map] at this; omega) (Nat.zero_le _)))
        have HKW := hid (KR.then (Keep.refl (fun k => k ≠ R) w6) hW)
        clear hrb
        go_wp2_with fail
        refine HALL.out.mono ?_
        rintro e w9 ⟨⟨v, rfl⟩, ⟨x2, hx2, he2⟩, hk2⟩
        have HX2 := hid hx2
        have HE9 := hid he2
        have HK9 := hid (HKW.out.trans hk2)
        rw [HE2.out] at he2
        have HE9 := hid he2
        clear hx2 he2 hk2
        go_wp2_with fail
        go_roundg (LN.length - (j + 1))
        case measure => omega
        case rel => exact ⟨j + 1, _, by omega, rfl, by go_num, HFIN.out _ _ _ _ _ _ HX2.out HE9.out HK9.out HONE.out⟩
      cases t3
      case true =>
        have HONE := hid (one_first (m := n - 1) HTK.out HFO.out)
        go_wp2_with fail
        refine (HS1.out _ (Below.refl _ _)).mono ?_
        rintro e wA ⟨rfl, hs⟩
        have hW := hs
        clear hs
        go_wp2_with fail
        refine (HS2.out _ hW).mono ?_
        rintro e wB ⟨rfl, hs⟩
        replace hW := thenB hW hs
        clear hs
        go_wp2_with fail
        refine (HS3.out _ hW).mono ?_
        rintro e wC ⟨rfl, hs⟩
        replace hW := thenB hW hs
        clear hs
        have hrb := HRB6.out.below hW
        have HALL := hid (refall R x' B3 d3 l3 _ hrb (HT3.out.below hW) (HROOM.out _ _ _ _ HONE.out (by have := congrArg List.length HE3.out; rw [List.length_map] at this; omega) (by have := congrArg List.length HE3.out; rw [List.length_map] at this; omega) (by have := congrArg List.length HE3.out; rw [List.length_map] at this; omega) (Nat.zero_le _)))
        have HKW := hid (KR.then (Keep.refl (fun k => k ≠ R) w6) hW)
        clear hrb
        go_wp2_with fail
        refine HALL.out.mono ?_
        rintro e w9 ⟨⟨v, rfl⟩, ⟨x2, hx2, he2⟩, hk2⟩
        have HX2 := hid hx2
        have HE9 := hid he2
        have HK9 := hid (HKW.out.trans hk2)
        rw [HE3.out] at he2
        have HE9 := hid he2
        clear hx2 he2 hk2
        go_wp2_with fail
        go_roundg (LN.length - (j + 1))
        case measure => omega
        case rel => exact ⟨j + 1, _, by omega, rfl, by go_num, HFIN.out _ _ _ _ _ _ HX2.out HE9.out HK9.out HONE.out⟩
      go_wp2_with fail
      refine (HS1.out _ (Below.refl _ _)).mono ?_
      rintro e wA ⟨rfl, hs⟩
      have hW := hs
      clear hs
      go_wp2_with fail
      refine (HS2.out _ hW).mono ?_
      rintro e wB ⟨rfl, hs⟩
      replace hW := thenB hW hs
      clear hs
      go_wp2_with fail
      refine (HS3.out _ hW).mono ?_
      rintro e wC ⟨rfl, hs⟩
      replace hW := thenB hW hs
      clear hs
      have k7 := cellB hW k6
      obtain ⟨da, hda⟩ : ∃ t, foundDir (a.l.map Itm.abs) LN[j].toList = t := ⟨_, rfl⟩
      have HDA0 := refdir22 a.A a.c a.l LN[j] wC (Ha.out.below hW)
      rw [hda] at HDA0
      have HDA := hid HDA0
      have Hda := hid hda
      clear HDA0 hda
      go_wp2_with fail
      refine HDA.out.mono ?_
      rintro e wD ⟨rfl, hs⟩
      replace hW := thenB hW hs
      clear hs HDA k7
      cases da
      case false =>
        have HONE := hid (one_conf (m := n - 1) HTK.out HFO.out (by unfold bothD; rw [Hda.out]; rfl))
        generalize wD = wE at *
        obtain ⟨g0, g1, g2, g3, gf⟩ := (HRB6.out.below hW).cells
        clear HS1 HS2 HS3 Ho Ha Hb
        have kE := cellB hW k6
        go_wp2_with fail
        refine wp_region_held_drew (S := fun _ => True) (by kernel_rfl) trivial (fun hHeld => ?_)
        refine take_slot 0 49 (v := ?_) rfl rfl (by kernel_rfl) (by kernel_rfl) (by kernel_rfl) (fun _ _ _ h => h) (Or.inl ⟨by rfl, by intro W hSw; (try dsimp only at hSw); go_simp; try with_reducible rfl⟩) (by assumption) ?_
        simp only [Act.put, List.setIfInBounds_toArray, List.set_cons_zero, List.set_cons_succ]
        refine take_slot 1 50 (v := ?_) rfl rfl (by kernel_rfl) (by kernel_rfl) (by kernel_rfl) (fun _ _ _ h => h) (Or.inl ⟨by rfl, by intro W hSw; (try dsimp only at hSw); go_simp; try with_reducible rfl⟩) (by assumption) ?_
        simp only [Act.put, List.setIfInBounds_toArray, List.set_cons_zero, List.set_cons_succ]
        refine take_slot 2 51 (v := ?_) rfl rfl (by kernel_rfl) (by kernel_rfl) (by kernel_rfl) (fun _ _ _ h => h) (Or.inl ⟨by rfl, by intro W hSw; (try dsimp only at hSw); go_simp; try with_reducible rfl⟩) (by assumption) ?_
        simp only [Act.put, List.setIfInBounds_toArray, List.set_cons_zero, List.set_cons_succ]
        refine take_slot 3 52 (v := ?_) rfl rfl (by kernel_rfl) (by kernel_rfl) (by kernel_rfl) (fun _ _ _ h => h) (Or.inl ⟨by rfl, by intro W hSw; (try dsimp only at hSw); go_simp; try with_reducible rfl⟩) (by assumption) ?_
        simp only [Act.put, List.setIfInBounds_toArray, List.set_cons_zero, List.set_cons_succ]
        refine take_slot 5 54 (v := ?_) rfl rfl (by kernel_rfl) (by kernel_rfl) (by kernel_rfl) (fun _ _ _ h => h) (Or.inl ⟨by rfl, by intro W hSw; (try dsimp only at hSw); go_simp; try with_reducible rfl⟩) (by assumption) ?_
        simp only [Act.put, List.setIfInBounds_toArray, List.set_cons_zero, List.set_cons_succ]
        refine take_slot 6 55 (v := ?_) rfl rfl (by kernel_rfl) (by kernel_rfl) (by kernel_rfl) (fun _ _ _ h => h) (Or.inl ⟨by rfl, by intro W hSw; (try dsimp only at hSw); go_simp; try with_reducible rfl⟩) (by assumption) ?_
        simp only [Act.put, List.setIfInBounds_toArray, List.set_cons_zero, List.set_cons_succ]
        refine take_slot 7 56 (v := ?_) rfl rfl (by kernel_rfl) (by kernel_rfl) (by kernel_rfl) (fun _ _ _ h => h) (Or.inl ⟨by rfl, by intro W hSw; (try dsimp only at hSw); go_simp; try with_reducible rfl⟩) (by assumption) ?_
        simp only [Act.put, List.setIfInBounds_toArray, List.set_cons_zero, List.set_cons_succ]
        refine flow_region (ks := [4, 8]) ldDst (ldG (.slice x'.cA x'.LC.length x'.cc) LN[j]) (fun _ _ _ _ => True) 4 (by kernel_rfl) (by kernel_rfl) (by kernel_rfl) (by decide) (by simp [ldDst]) (by decide) trivial (fun j' v w w' _ h => by unfold ldG at h ⊢; split at h <;> exact h) ?step ?fin
        case step =>
          intro i' hi' a' w' hF _ hpre
          have hb' : Below wE.heap.size wE w' := ⟨hF.below.os, hF.below.tape, hF.below.output, hF.below.size, hF.below.block⟩
          simp only [List.mem_cons, List.not_mem_nil, or_false] at hi'
          rcases hi' with rfl | rfl
          · refine ⟨_, rfl, rfl, fun K hK => ?_⟩
            refine oper_load_names (t := 52) (p := ⟨R, 3, none⟩) (by rfl) (by rw [hF.eval (by decide)]; kernel_rfl) (cellB hb' g3) ?_
            exact hK _ _ (Below.refl _ _) trivial rfl fun _ _ _ _ => ⟨trivial, trivial⟩
          · refine ⟨_, rfl, rfl, fun K hK => ?_⟩
            refine oper_load_str (t := 56) (p := ⟨bN, oN + j, none⟩) (by rfl) (by rw [hF.eval (by decide)]; kernel_rfl) (cellB hb' kE) ?_
            exact hK _ _ (Below.refl _ _) trivial rfl fun _ _ _ _ => ⟨trivial, trivial⟩
        case fin =>
          intro a' wF hF _ hG _
          have hbd : Below wE.heap.size wE wF := ⟨hF.below.os, hF.below.tape, hF.below.output, hF.below.size, hF.below.block⟩
          have e53 : a'.tmps.getD 53 undef = .slice x'.cA x'.LC.length x'.cc := hG 4 (by simp)
          have e57 : a'.tmps.getD 57 undef = .string LN[j] := hG 8 (by simp)
          have hact := hF.act
          simp only [List.foldl_cons, List.foldl_nil, ldDst, e53, e57, List.setIfInBounds_toArray, List.set_cons_zero, List.set_cons_succ] at hact
          clear hF hG e53 e57
          subst hact
          have hWd := thenB hW hbd
          have kF := cellB hWd k6
          have HRF := hid (HRB6.out.below hWd)
          have HF1 := hid (HT1.out.below hWd)
          have HF2 := hid (HT2.out.below hWd)
          have HF3 := hid (HT3.out.below hWd)
          have HKF := hid (KR.then (Keep.refl (fun k => k ≠ R) w6) hWd)
          clear hW hbd hWd g0 g1 g2 g3 gf kE
          have HP := hid (refputn x'.cA x'.cc x'.LC LN[j] wF HRF.out.c (by have := (HROOM.out _ _ _ _ HONE.out (Nat.zero_le _) (Nat.zero_le _) (Nat.zero_le _) (Nat.zero_le _)).c; omega) HRF.out.sz)
          refine ready_call 9 (by kernel_rfl) rfl rfl 58 rfl 73 _ _ (by rfl) Tryz.func73 (by kernel_rfl) (by kernel_rfl) [.slice x'.cA x'.LC.length x'.cc, .string LN[j]] (by kernel_rfl) (by exact HP.out) ?_
          rintro e v1 ⟨⟨C4, u4, L4, rfl, r4, e4, z4⟩, hb4⟩
          refine ⟨_, rfl, trivial, ?_⟩
          simp only [Act.put, List.setIfInBounds_toArray, List.set_cons_zero, List.set_cons_succ]
          refine take_slot 10 59 (v := ?_) rfl rfl (by kernel_rfl) (by kernel_rfl) (by kernel_rfl) (fun _ _ _ h => h) (Or.inl ⟨by rfl, by intro W hSw; (try dsimp only at hSw); go_simp; try with_reducible rfl⟩) (by assumption) ?_
          simp only [Act.put, List.setIfInBounds_toArray, List.set_cons_zero, List.set_cons_succ]
          refine take_slot 11 60 (v := ?_) rfl rfl (by kernel_rfl) (by kernel_rfl) (by kernel_rfl) (fun _ _ _ h => h) (Or.inl ⟨by rfl, by intro W hSw; (try dsimp only at hSw); go_simp; try with_reducible rfl⟩) (by assumption) ?_
          simp only [Act.put, List.setIfInBounds_toArray, List.set_cons_zero, List.set_cons_succ]
          have k4 := HRF.out.below hb4
          obtain ⟨s0, s1, s2, s3, sf⟩ := k4.cells
          have f3 := sf 3
          refine wpAnyH_ready (rs := [12]) (by kernel_rfl) (by simp) ?_
          refine AllReadyH.cons (o := _) rfl (fun K hK => ?_) AllReadyH.nil
          go_simp
          refine hK.out _ _ trivial (fun _ => ?_)
          refine wpAnyH_done (by kernel_rfl) ?_ _
          clear hK K hHeld
          have hz4 : ∀ y ∈ L4, y.size ≤ 140737488351232 := fun y hy => by
            rcases z4 y hy with rfl | hy
            · exact HQS.out
            · exact HRF.out.sz y hy
          have hkr4 : KR R wF (v1.setCell ⟨R, 3, none⟩ (.slice C4 L4.length u4)) := KR.setR (KR.then (Keep.refl _ wF) hb4) 3 _
          have HC1 := hid (k4.setC r4 hz4)
          have HE4 := hid e4
          have HY1 := hid (HRF.out.tree HF1.out hkr4)
          have HY2 := hid (HRF.out.tree HF2.out hkr4)
          have HY3 := hid (HRF.out.tree HF3.out hkr4)
          have HKC := hid (HKF.out.trans hkr4)
          clear k4 r4 e4 z4 hz4 hkr4 hb4 HP kF
          obtain ⟨q0, q1, q2, q3, qf⟩ := HC1.out.cells
          have HA1 := hid (refadd x'.a.A x'.a.c x'.a.l B2 d2 l2 _ HC1.out.a HC1.out.ga HY2.out (by have := (HROOM.out _ _ _ _ HONE.out (kA := l2.length) (by have := congrArg List.length HE2.out; rw [List.length_map] at this; omega) (Nat.zero_le _) (Nat.zero_le _) (Nat.zero_le _)).a; exact this))
          go_wp2_with fail
          clear s0 s1 s2 s3 sf f3
          refine HA1.out.mono ?_
          rintro e v3 ⟨⟨C5, u5, T5, rfl, r5, g5, e5⟩, hb5⟩
          have k5 := HC1.out.below hb5
          obtain ⟨s0, s1, s2, s3, sf⟩ := k5.cells
          have f0 := sf 0
          have HC2 := hid (k5.setA r5 g5)
          have hkr5 := KR.setR (KR.then (Keep.refl (fun k => k ≠ R) _) hb5) 0 (.slice C5 T5.length u5)
          have HE5 := hid e5
          have HX1' := hid (HC1.out.tree HY1.out hkr5)
          have HX3' := hid (HC1.out.tree HY3.out hkr5)
          have HKC2 := hid (HKC.out.trans hkr5)
          clear k5 r5 g5 e5 hkr5 hb5 HA1 q0 q1 q2 q3 qf HY1 HY2 HY3 HC1 HKC
          obtain ⟨q0, q1, q2, q3, qf⟩ := HC2.out.cells
          have HA2 := hid (refadd x'.b.A x'.b.c x'.b.l B3 d3 l3 _ HC2.out.b HC2.out.gb HX3'.out (by have := (HROOM.out _ _ _ _ HONE.out (kB := l3.length) (Nat.zero_le _) (by have := congrArg List.length HE3.out; rw [List.length_map] at this; omega) (Nat.zero_le _) (Nat.zero_le _)).b; exact this))
          go_wp2_with fail
          clear s0 s1 s2 s3 sf f0
          refine HA2.out.mono ?_
          rintro e v5 ⟨⟨C6, u6, T6, rfl, r6, g6, e6⟩, hb6⟩
          have k6' := HC2.out.below hb6
          obtain ⟨s0, s1, s2, s3, sf⟩ := k6'.cells
          have f1 := sf 1
          have HC3 := hid (k6'.setB r6 g6)
          have hkr6 := KR.setR (KR.then (Keep.refl (fun k => k ≠ R) _) hb6) 1 (.slice C6 T6.length u6)
          have HE6 := hid e6
          have HX1'' := hid (HC2.out.tree HX1'.out hkr6)
          have HKC3 := hid (HKC2.out.trans hkr6)
          clear k6' r6 g6 e6 hkr6 hb6 HA2 q0 q1 q2 q3 qf HX1' HX3' HC2 HKC2
          obtain ⟨q0, q1, q2, q3, qf⟩ := HC3.out.cells
          have HA3 := hid (refadd x'.o.A x'.o.c x'.o.l B1 d1 l1 _ HC3.out.o HC3.out.go HX1''.out (by have := (HROOM.out _ _ _ _ HONE.out (kO := l1.length) (Nat.zero_le _) (Nat.zero_le _) (by have := congrArg List.length HE1.out; rw [List.length_map] at this; omega) (Nat.zero_le _)).o; exact this))
          go_wp2_with fail
          clear s0 s1 s2 s3 sf f1
          refine HA3.out.mono ?_
          rintro e v7 ⟨⟨C7, u7', T7, rfl, r7, g7, e7⟩, hb7⟩
          have k7' := HC3.out.below hb7
          obtain ⟨s0, s1, s2, s3, sf⟩ := k7'.cells
          have f2 := sf 2
          have HC4 := hid (k7'.setO r7 g7)
          have HE7 := hid e7
          have HKC4 := hid (HKC3.out.trans (KR.setR (KR.then (Keep.refl (fun k => k ≠ R) _) hb7) 2 (.slice C7 T7.length u7')))
          clear k7' r7 g7 e7 hb7 HA3 q0 q1 q2 q3 qf HC3 HKC3
          have HAB9 : HidP (RI.abs { x' with cA := C4, cc := u4, LC := L4, a := ⟨C5, u5, T5⟩, b := ⟨C6, u6, T6⟩, o := ⟨C7, u7', T7⟩ } = stepA x'.abs (underA (a.l.map Itm.abs) LN[j].toList) (underA (b.l.map Itm.abs) LN[j].toList) (underA (o.l.map Itm.abs) LN[j].toList) [LN[j].toList]) := hid (by
            unfold stepA RI.abs
            simp only [List.foldl_cons, List.foldl_nil]
            rw [HE5.out, HE6.out, HE7.out, HE4.out, HE1.out, HE2.out, HE3.out])
          go_wp2_with fail
          go_roundg (LN.length - (j + 1))
          case measure => omega
          case rel => exact ⟨j + 1, _, by omega, rfl, by go_num, HFIN.out _ _ _ _ _ _ HC4.out HAB9.out HKC4.out HONE.out⟩
      have k7 := cellB hW k6
      obtain ⟨db, hdb⟩ : ∃ t, foundDir (b.l.map Itm.abs) LN[j].toList = t := ⟨_, rfl⟩
      have HDB0 := refdir22 b.A b.c b.l LN[j] wD (Hb.out.below hW)
      rw [hdb] at HDB0
      have HDB := hid HDB0
      have Hdb := hid hdb
      clear HDB0 hdb
      go_wp2_with fail
      refine HDB.out.mono ?_
      rintro e wG ⟨rfl, hs⟩
      replace hW := thenB hW hs
      clear hs HDB k7
      cases db
      case false =>
        have HONE := hid (one_conf (m := n - 1) HTK.out HFO.out (by unfold bothD; rw [Hda.out, Hdb.out]; rfl))
        generalize wG = wE at *
        obtain ⟨g0, g1, g2, g3, gf⟩ := (HRB6.out.below hW).cells
        clear HS1 HS2 HS3 Ho Ha Hb
        have kE := cellB hW k6
        go_wp2_with fail
        refine wp_region_held_drew (S := fun _ => True) (by kernel_rfl) trivial (fun hHeld => ?_)
        refine take_slot 0 49 (v := ?_) rfl rfl (by kernel_rfl) (by kernel_rfl) (by kernel_rfl) (fun _ _ _ h => h) (Or.inl ⟨by rfl, by intro W hSw; (try dsimp only at hSw); go_simp; try with_reducible rfl⟩) (by assumption) ?_
        simp only [Act.put, List.setIfInBounds_toArray, List.set_cons_zero, List.set_cons_succ]
        refine take_slot 1 50 (v := ?_) rfl rfl (by kernel_rfl) (by kernel_rfl) (by kernel_rfl) (fun _ _ _ h => h) (Or.inl ⟨by rfl, by intro W hSw; (try dsimp only at hSw); go_simp; try with_reducible rfl⟩) (by assumption) ?_
        simp only [Act.put, List.setIfInBounds_toArray, List.set_cons_zero, List.set_cons_succ]
        refine take_slot 2 51 (v := ?_) rfl rfl (by kernel_rfl) (by kernel_rfl) (by kernel_rfl) (fun _ _ _ h => h) (Or.inl ⟨by rfl, by intro W hSw; (try dsimp only at hSw); go_simp; try with_reducible rfl⟩) (by assumption) ?_
        simp only [Act.put, List.setIfInBounds_toArray, List.set_cons_zero, List.set_cons_succ]
        refine take_slot 3 52 (v := ?_) rfl rfl (by kernel_rfl) (by kernel_rfl) (by kernel_rfl) (fun _ _ _ h => h) (Or.inl ⟨by rfl, by intro W hSw; (try dsimp only at hSw); go_simp; try with_reducible rfl⟩) (by assumption) ?_
        simp only [Act.put, List.setIfInBounds_toArray, List.set_cons_zero, List.set_cons_succ]
        refine take_slot 5 54 (v := ?_) rfl rfl (by kernel_rfl) (by kernel_rfl) (by kernel_rfl) (fun _ _ _ h => h) (Or.inl ⟨by rfl, by intro W hSw; (try dsimp only at hSw); go_simp; try with_reducible rfl⟩) (by assumption) ?_
        simp only [Act.put, List.setIfInBounds_toArray, List.set_cons_zero, List.set_cons_succ]
        refine take_slot 6 55 (v := ?_) rfl rfl (by kernel_rfl) (by kernel_rfl) (by kernel_rfl) (fun _ _ _ h => h) (Or.inl ⟨by rfl, by intro W hSw; (try dsimp only at hSw); go_simp; try with_reducible rfl⟩) (by assumption) ?_
        simp only [Act.put, List.setIfInBounds_toArray, List.set_cons_zero, List.set_cons_succ]
        refine take_slot 7 56 (v := ?_) rfl rfl (by kernel_rfl) (by kernel_rfl) (by kernel_rfl) (fun _ _ _ h => h) (Or.inl ⟨by rfl, by intro W hSw; (try dsimp only at hSw); go_simp; try with_reducible rfl⟩) (by assumption) ?_
        simp only [Act.put, List.setIfInBounds_toArray, List.set_cons_zero, List.set_cons_succ]
        refine flow_region (ks := [4, 8]) ldDst (ldG (.slice x'.cA x'.LC.length x'.cc) LN[j]) (fun _ _ _ _ => True) 4 (by kernel_rfl) (by kernel_rfl) (by kernel_rfl) (by decide) (by simp [ldDst]) (by decide) trivial (fun j' v w w' _ h => by unfold ldG at h ⊢; split at h <;> exact h) ?step ?fin
        case step =>
          intro i' hi' a' w' hF _ hpre
          have hb' : Below wE.heap.size wE w' := ⟨hF.below.os, hF.below.tape, hF.below.output, hF.below.size, hF.below.block⟩
          simp only [List.mem_cons, List.not_mem_nil, or_false] at hi'
          rcases hi' with rfl | rfl
          · refine ⟨_, rfl, rfl, fun K hK => ?_⟩
            refine oper_load_names (t := 52) (p := ⟨R, 3, none⟩) (by rfl) (by rw [hF.eval (by decide)]; kernel_rfl) (cellB hb' g3) ?_
            exact hK _ _ (Below.refl _ _) trivial rfl fun _ _ _ _ => ⟨trivial, trivial⟩
          · refine ⟨_, rfl, rfl, fun K hK => ?_⟩
            refine oper_load_str (t := 56) (p := ⟨bN, oN + j, none⟩) (by rfl) (by rw [hF.eval (by decide)]; kernel_rfl) (cellB hb' kE) ?_
            exact hK _ _ (Below.refl _ _) trivial rfl fun _ _ _ _ => ⟨trivial, trivial⟩
        case fin =>
          intro a' wF hF _ hG _
          have hbd : Below wE.heap.size wE wF := ⟨hF.below.os, hF.below.tape, hF.below.output, hF.below.size, hF.below.block⟩
          have e53 : a'.tmps.getD 53 undef = .slice x'.cA x'.LC.length x'.cc := hG 4 (by simp)
          have e57 : a'.tmps.getD 57 undef = .string LN[j] := hG 8 (by simp)
          have hact := hF.act
          simp only [List.foldl_cons, List.foldl_nil, ldDst, e53, e57, List.setIfInBounds_toArray, List.set_cons_zero, List.set_cons_succ] at hact
          clear hF hG e53 e57
          subst hact
          have hWd := thenB hW hbd
          have kF := cellB hWd k6
          have HRF := hid (HRB6.out.below hWd)
          have HF1 := hid (HT1.out.below hWd)
          have HF2 := hid (HT2.out.below hWd)
          have HF3 := hid (HT3.out.below hWd)
          have HKF := hid (KR.then (Keep.refl (fun k => k ≠ R) w6) hWd)
          clear hW hbd hWd g0 g1 g2 g3 gf kE
          have HP := hid (refputn x'.cA x'.cc x'.LC LN[j] wF HRF.out.c (by have := (HROOM.out _ _ _ _ HONE.out (Nat.zero_le _) (Nat.zero_le _) (Nat.zero_le _) (Nat.zero_le _)).c; omega) HRF.out.sz)
          refine ready_call 9 (by kernel_rfl) rfl rfl 58 rfl 73 _ _ (by rfl) Tryz.func73 (by kernel_rfl) (by kernel_rfl) [.slice x'.cA x'.LC.length x'.cc, .string LN[j]] (by kernel_rfl) (by exact HP.out) ?_
          rintro e v1 ⟨⟨C4, u4, L4, rfl, r4, e4, z4⟩, hb4⟩
          refine ⟨_, rfl, trivial, ?_⟩
          simp only [Act.put, List.setIfInBounds_toArray, List.set_cons_zero, List.set_cons_succ]
          refine take_slot 10 59 (v := ?_) rfl rfl (by kernel_rfl) (by kernel_rfl) (by kernel_rfl) (fun _ _ _ h => h) (Or.inl ⟨by rfl, by intro W hSw; (try dsimp only at hSw); go_simp; try with_reducible rfl⟩) (by assumption) ?_
          simp only [Act.put, List.setIfInBounds_toArray, List.set_cons_zero, List.set_cons_succ]
          refine take_slot 11 60 (v := ?_) rfl rfl (by kernel_rfl) (by kernel_rfl) (by kernel_rfl) (fun _ _ _ h => h) (Or.inl ⟨by rfl, by intro W hSw; (try dsimp only at hSw); go_simp; try with_reducible rfl⟩) (by assumption) ?_
          simp only [Act.put, List.setIfInBounds_toArray, List.set_cons_zero, List.set_cons_succ]
          have k4 := HRF.out.below hb4
          obtain ⟨s0, s1, s2, s3, sf⟩ := k4.cells
          have f3 := sf 3
          refine wpAnyH_ready (rs := [12]) (by kernel_rfl) (by simp) ?_
          refine AllReadyH.cons (o := _) rfl (fun K hK => ?_) AllReadyH.nil
          go_simp
          refine hK.out _ _ trivial (fun _ => ?_)
          refine wpAnyH_done (by kernel_rfl) ?_ _
          clear hK K hHeld
          have hz4 : ∀ y ∈ L4, y.size ≤ 140737488351232 := fun y hy => by
            rcases z4 y hy with rfl | hy
            · exact HQS.out
            · exact HRF.out.sz y hy
          have hkr4 : KR R wF (v1.setCell ⟨R, 3, none⟩ (.slice C4 L4.length u4)) := KR.setR (KR.then (Keep.refl _ wF) hb4) 3 _
          have HC1 := hid (k4.setC r4 hz4)
          have HE4 := hid e4
          have HY1 := hid (HRF.out.tree HF1.out hkr4)
          have HY2 := hid (HRF.out.tree HF2.out hkr4)
          have HY3 := hid (HRF.out.tree HF3.out hkr4)
          have HKC := hid (HKF.out.trans hkr4)
          clear k4 r4 e4 z4 hz4 hkr4 hb4 HP kF
          obtain ⟨q0, q1, q2, q3, qf⟩ := HC1.out.cells
          have HA1 := hid (refadd x'.a.A x'.a.c x'.a.l B2 d2 l2 _ HC1.out.a HC1.out.ga HY2.out (by have := (HROOM.out _ _ _ _ HONE.out (kA := l2.length) (by have := congrArg List.length HE2.out; rw [List.length_map] at this; omega) (Nat.zero_le _) (Nat.zero_le _) (Nat.zero_le _)).a; exact this))
          go_wp2_with fail
          clear s0 s1 s2 s3 sf f3
          refine HA1.out.mono ?_
          rintro e v3 ⟨⟨C5, u5, T5, rfl, r5, g5, e5⟩, hb5⟩
          have k5 := HC1.out.below hb5
          obtain ⟨s0, s1, s2, s3, sf⟩ := k5.cells
          have f0 := sf 0
          have HC2 := hid (k5.setA r5 g5)
          have hkr5 := KR.setR (KR.then (Keep.refl (fun k => k ≠ R) _) hb5) 0 (.slice C5 T5.length u5)
          have HE5 := hid e5
          have HX1' := hid (HC1.out.tree HY1.out hkr5)
          have HX3' := hid (HC1.out.tree HY3.out hkr5)
          have HKC2 := hid (HKC.out.trans hkr5)
          clear k5 r5 g5 e5 hkr5 hb5 HA1 q0 q1 q2 q3 qf HY1 HY2 HY3 HC1 HKC
          obtain ⟨q0, q1, q2, q3, qf⟩ := HC2.out.cells
          have HA2 := hid (refadd x'.b.A x'.b.c x'.b.l B3 d3 l3 _ HC2.out.b HC2.out.gb HX3'.out (by have := (HROOM.out _ _ _ _ HONE.out (kB := l3.length) (Nat.zero_le _) (by have := congrArg List.length HE3.out; rw [List.length_map] at this; omega) (Nat.zero_le _) (Nat.zero_le _)).b; exact this))
          go_wp2_with fail
          clear s0 s1 s2 s3 sf f0
          refine HA2.out.mono ?_
          rintro e v5 ⟨⟨C6, u6, T6, rfl, r6, g6, e6⟩, hb6⟩
          have k6' := HC2.out.below hb6
          obtain ⟨s0, s1, s2, s3, sf⟩ := k6'.cells
          have f1 := sf 1
          have HC3 := hid (k6'.setB r6 g6)
          have hkr6 := KR.setR (KR.then (Keep.refl (fun k => k ≠ R) _) hb6) 1 (.slice C6 T6.length u6)
          have HE6 := hid e6
          have HX1'' := hid (HC2.out.tree HX1'.out hkr6)
          have HKC3 := hid (HKC2.out.trans hkr6)
          clear k6' r6 g6 e6 hkr6 hb6 HA2 q0 q1 q2 q3 qf HX1' HX3' HC2 HKC2
          obtain ⟨q0, q1, q2, q3, qf⟩ := HC3.out.cells
          have HA3 := hid (refadd x'.o.A x'.o.c x'.o.l B1 d1 l1 _ HC3.out.o HC3.out.go HX1''.out (by have := (HROOM.out _ _ _ _ HONE.out (kO := l1.length) (Nat.zero_le _) (Nat.zero_le _) (by have := congrArg List.length HE1.out; rw [List.length_map] at this; omega) (Nat.zero_le _)).o; exact this))
          go_wp2_with fail
          clear s0 s1 s2 s3 sf f1
          refine HA3.out.mono ?_
          rintro e v7 ⟨⟨C7, u7', T7, rfl, r7, g7, e7⟩, hb7⟩
          have k7' := HC3.out.below hb7
          obtain ⟨s0, s1, s2, s3, sf⟩ := k7'.cells
          have f2 := sf 2
          have HC4 := hid (k7'.setO r7 g7)
          have HE7 := hid e7
          have HKC4 := hid (HKC3.out.trans (KR.setR (KR.then (Keep.refl (fun k => k ≠ R) _) hb7) 2 (.slice C7 T7.length u7')))
          clear k7' r7 g7 e7 hb7 HA3 q0 q1 q2 q3 qf HC3 HKC3
          have HAB9 : HidP (RI.abs { x' with cA := C4, cc := u4, LC := L4, a := ⟨C5, u5, T5⟩, b := ⟨C6, u6, T6⟩, o := ⟨C7, u7', T7⟩ } = stepA x'.abs (underA (a.l.map Itm.abs) LN[j].toList) (underA (b.l.map Itm.abs) LN[j].toList) (underA (o.l.map Itm.abs) LN[j].toList) [LN[j].toList]) := hid (by
            unfold stepA RI.abs
            simp only [List.foldl_cons, List.foldl_nil]
            rw [HE5.out, HE6.out, HE7.out, HE4.out, HE1.out, HE2.out, HE3.out])
          go_wp2_with fail
          go_roundg (LN.length - (j + 1))
          case measure => omega
          case rel => exact ⟨j + 1, _, by omega, rfl, by go_num, HFIN.out _ _ _ _ _ _ HC4.out HAB9.out HKC4.out HONE.out⟩
      have HONE := hid (one_desc (m := n - 1) HTK.out HFO.out (by unfold bothD; rw [Hda.out, Hdb.out]; rfl))
      generalize wG = wE at *
      obtain ⟨m, hm⟩ : ∃ m, n = m + 1 := by
        cases n with
        | zero =>
          exfalso
          have h1 := HNN.out
          have h2 := HSH.out
          have h3 := pathB_short HPQ.out
          omega
        | succ m => exact ⟨m, rfl⟩
      have hba := thenA (Below.refl _ wE) (.cells #[.string LN[j], .bool true, .slice none 0 0] 42 (0, 0))
      have hWa := thenB hW hba
      have HRA := hid (HRB6.out.below hWa)
      have HTI : HidP (Tr (wE.alloc (.cells #[.string LN[j], .bool true, .slice none 0 0] 42 (0, 0))) (some ⟨wE.heap.size, 0, none⟩) 1 [⟨LN[j], true, none, 0, []⟩]) := hid (Tr.ofRow (n := 1) (e := 42) (by
        have h1 := Row.ofBlock (e := 42) (sz := 3) (n := 1) (heap_alloc_new wE (.cells #[.string LN[j], .bool true, .slice none 0 0] 42 (0, 0))) rfl (by simp [maxLen])
        exact h1) (fun y hy => by
          rw [List.mem_singleton.1 hy]
          exact ⟨HQS.out, by simp, (Row.nil _ 5 1).src, by simp⟩) (by simp)).2
      have HALL0 := refall R x' (some ⟨wE.heap.size, 0, none⟩) 1 [⟨LN[j], true, none, 0, []⟩] _ HRA.out HTI.out (HROOM.out _ _ _ _ HONE.out (by simp) (by simp) (by simp) (Nat.zero_le _))
      rw [show ([⟨LN[j], true, none, 0, []⟩] : List Itm).length = 1 from rfl] at HALL0
      have HALL := hid HALL0
      clear HALL0
      have kE := cellB hW k6
      have HoE := hid (Ho.out.below hWa)
      have HaE := hid (Ha.out.below hWa)
      have HbE := hid (Hb.out.below hWa)
      have HKA := hid (KR.then (Keep.refl (fun k => k ≠ R) w6) hWa)
      have kA := cellB hWa k6
      clear HS1 HS2 HS3 Ho Ha Hb hW hba hWa HTI
      go_wp2_with fail
      refine HALL.out.mono ?_
      rintro e w9 ⟨⟨v, rfl⟩, ⟨x2, hx2, he2⟩, hk2⟩
      have k9 : w9.cell? ⟨bN, oN + j, none⟩ = some (.string LN[j]) := (World.cell?_of_block (a := ⟨bN, oN + j, none⟩) (hk2.block _ (World.block_lt_of_cell? _ _ kA) HNE.out)).trans kA
      have HO9 := hid (HRA.out.tree HoE.out hk2)
      have HA9 := hid (HRA.out.tree HaE.out hk2)
      have HB9 := hid (HRA.out.tree HbE.out hk2)
      have HX9 := hid hx2
      have HK9 := hid (HKA.out.trans hk2)
      obtain ⟨do_, hdo⟩ : ∃ t, foundDir (o.l.map Itm.abs) LN[j].toList = t := ⟨_, rfl⟩
      have HDO0 := refdir22 o.A o.c o.l LN[j] w9 HO9.out
      rw [hdo] at HDO0
      have HDO := hid HDO0
      have Hdo := hid hdo
      clear HDO0 hdo hx2 hk2 HALL kE kA HoE HaE HbE HKA HRA
      go_wp2_with fail
      refine HDO.out.mono ?_
      rintro e w11 ⟨rfl, hb11⟩
      have k11 := cellB hb11 k9
      have HX11 := hid (HX9.out.below hb11)
      have Ho11 := hid (HO9.out.below hb11)
      have Ha11 := hid (HA9.out.below hb11)
      have Hb11 := hid (HB9.out.below hb11)
      have HK11 := hid (KR.then HK9.out hb11)
      clear hb11 HX9 HO9 HA9 HB9 HK9 HDO k9
      cases do_
      · clear Ho11
        have HROOM3 := hid (HROOM2.out x2 _ _ _ _ _ _ _ _ he2 HONE.out (kA := (mgX (namesA (o.l.map Itm.abs) (a.l.map Itm.abs) (b.l.map Itm.abs)) (descB (o.l.map Itm.abs) (a.l.map Itm.abs) (b.l.map Itm.abs)) (ruleA (o.l.map Itm.abs) (a.l.map Itm.abs) (b.l.map Itm.abs)) (n - 1) LN[j].toList).length) (kB := (mgX (namesA (o.l.map Itm.abs) (a.l.map Itm.abs) (b.l.map Itm.abs)) (descB (o.l.map Itm.abs) (a.l.map Itm.abs) (b.l.map Itm.abs)) (ruleB (o.l.map Itm.abs) (a.l.map Itm.abs) (b.l.map Itm.abs)) (n - 1) LN[j].toList).length) (kO := (mgX (namesA (o.l.map Itm.abs) (a.l.map Itm.abs) (b.l.map Itm.abs)) (descB (o.l.map Itm.abs) (a.l.map Itm.abs) (b.l.map Itm.abs)) (ruleO (o.l.map Itm.abs) (a.l.map Itm.abs) (b.l.map Itm.abs)) (n - 1) LN[j].toList).length) (kC := (mgC (namesA (o.l.map Itm.abs) (a.l.map Itm.abs) (b.l.map Itm.abs)) (descB (o.l.map Itm.abs) (a.l.map Itm.abs) (b.l.map Itm.abs)) (confB (o.l.map Itm.abs) (a.l.map Itm.abs) (b.l.map Itm.abs)) (n - 1) LN[j].toList).length) (by rw [List.length_cons]; simp; omega) (by rw [List.length_cons]; simp; omega) (by rw [List.length_cons]; simp; omega) (by simp))
        have HIH := hid (ih m hm ⟨none, 0, []⟩ a b LN[j] x2 R w11 (right3_nil HRR.out) (by have := HNN.out; have := HSH.out; omega) HX11.out (Tr.none _) Ha11.out Hb11.out (by have h9 := HROOM3.out; rw [show n - 1 = m by omega] at h9; obtain ⟨n1, n2, n3, n4⟩ := nil_all HRR.out (path_ne HPQ.out) Hdo.out m; simp only [List.map_nil]; rw [n1, n2, n3, n4]; exact h9))
        clear HROOM3 HX11 Ha11 Hb11
        go_wp2_with fail
        refine HIH.out.mono ?_
        rintro e w12 ⟨⟨v', rfl⟩, ⟨x3, hx3, he3⟩, hk3⟩
        have HX12 := hid hx3
        have HK12 := hid (HK11.out.trans hk3)
        have HE12 : HidP (x3.abs = stepA x'.abs ((⟨LN[j].toList, true, []⟩ : AIt) :: (mgX (namesA (o.l.map Itm.abs) (a.l.map Itm.abs) (b.l.map Itm.abs)) (descB (o.l.map Itm.abs) (a.l.map Itm.abs) (b.l.map Itm.abs)) (ruleA (o.l.map Itm.abs) (a.l.map Itm.abs) (b.l.map Itm.abs)) (n - 1) LN[j].toList)) ((⟨LN[j].toList, true, []⟩ : AIt) :: (mgX (namesA (o.l.map Itm.abs) (a.l.map Itm.abs) (b.l.map Itm.abs)) (descB (o.l.map Itm.abs) (a.l.map Itm.abs) (b.l.map Itm.abs)) (ruleB (o.l.map Itm.abs) (a.l.map Itm.abs) (b.l.map Itm.abs)) (n - 1) LN[j].toList)) ((⟨LN[j].toList, true, []⟩ : AIt) :: (mgX (namesA (o.l.map Itm.abs) (a.l.map Itm.abs) (b.l.map Itm.abs)) (descB (o.l.map Itm.abs) (a.l.map Itm.abs) (b.l.map Itm.abs)) (ruleO (o.l.map Itm.abs) (a.l.map Itm.abs) (b.l.map Itm.abs)) (n - 1) LN[j].toList)) (mgC (namesA (o.l.map Itm.abs) (a.l.map Itm.abs) (b.l.map Itm.abs)) (descB (o.l.map Itm.abs) (a.l.map Itm.abs) (b.l.map Itm.abs)) (confB (o.l.map Itm.abs) (a.l.map Itm.abs) (b.l.map Itm.abs)) (n - 1) LN[j].toList)) := hid (by
          rw [show n - 1 = m by omega]
          simp only [List.map_nil] at he3
          obtain ⟨n1, n2, n3, n4⟩ := nil_all HRR.out (path_ne HPQ.out) Hdo.out m
          rw [n1, n2, n3, n4] at he3
          rw [he3, he2, stepA_then]
          rfl)
        clear hx3 he3 hk3 HIH
        go_wp2_with fail
        go_roundg (LN.length - (j + 1))
        case measure => omega
        case rel => exact ⟨j + 1, _, by omega, rfl, by go_num, HFIN.out _ _ _ _ _ _ HX12.out HE12.out HK12.out HONE.out⟩
      · have HROOM3 := hid (HROOM2.out x2 _ _ _ _ _ _ _ _ he2 HONE.out (kA := (mgX (namesA (o.l.map Itm.abs) (a.l.map Itm.abs) (b.l.map Itm.abs)) (descB (o.l.map Itm.abs) (a.l.map Itm.abs) (b.l.map Itm.abs)) (ruleA (o.l.map Itm.abs) (a.l.map Itm.abs) (b.l.map Itm.abs)) (n - 1) LN[j].toList).length) (kB := (mgX (namesA (o.l.map Itm.abs) (a.l.map Itm.abs) (b.l.map Itm.abs)) (descB (o.l.map Itm.abs) (a.l.map Itm.abs) (b.l.map Itm.abs)) (ruleB (o.l.map Itm.abs) (a.l.map Itm.abs) (b.l.map Itm.abs)) (n - 1) LN[j].toList).length) (kO := (mgX (namesA (o.l.map Itm.abs) (a.l.map Itm.abs) (b.l.map Itm.abs)) (descB (o.l.map Itm.abs) (a.l.map Itm.abs) (b.l.map Itm.abs)) (ruleO (o.l.map Itm.abs) (a.l.map Itm.abs) (b.l.map Itm.abs)) (n - 1) LN[j].toList).length) (kC := (mgC (namesA (o.l.map Itm.abs) (a.l.map Itm.abs) (b.l.map Itm.abs)) (descB (o.l.map Itm.abs) (a.l.map Itm.abs) (b.l.map Itm.abs)) (confB (o.l.map Itm.abs) (a.l.map Itm.abs) (b.l.map Itm.abs)) (n - 1) LN[j].toList).length) (by rw [List.length_cons]; simp; omega) (by rw [List.length_cons]; simp; omega) (by rw [List.length_cons]; simp; omega) (by simp))
        have HIH := hid (ih m hm o a b LN[j] x2 R w11 HRR.out (by have := HNN.out; have := HSH.out; omega) HX11.out Ho11.out Ha11.out Hb11.out (by have h9 := HROOM3.out; rw [show n - 1 = m by omega] at h9; exact h9))
        clear HROOM3 HX11 Ho11 Ha11 Hb11
        go_wp2_with fail
        refine HIH.out.mono ?_
        rintro e w12 ⟨⟨v', rfl⟩, ⟨x3, hx3, he3⟩, hk3⟩
        have HX12 := hid hx3
        have HK12 := hid (HK11.out.trans hk3)
        have HE12 : HidP (x3.abs = stepA x'.abs ((⟨LN[j].toList, true, []⟩ : AIt) :: (mgX (namesA (o.l.map Itm.abs) (a.l.map Itm.abs) (b.l.map Itm.abs)) (descB (o.l.map Itm.abs) (a.l.map Itm.abs) (b.l.map Itm.abs)) (ruleA (o.l.map Itm.abs) (a.l.map Itm.abs) (b.l.map Itm.abs)) (n - 1) LN[j].toList)) ((⟨LN[j].toList, true, []⟩ : AIt) :: (mgX (namesA (o.l.map Itm.abs) (a.l.map Itm.abs) (b.l.map Itm.abs)) (descB (o.l.map Itm.abs) (a.l.map Itm.abs) (b.l.map Itm.abs)) (ruleB (o.l.map Itm.abs) (a.l.map Itm.abs) (b.l.map Itm.abs)) (n - 1) LN[j].toList)) ((⟨LN[j].toList, true, []⟩ : AIt) :: (mgX (namesA (o.l.map Itm.abs) (a.l.map Itm.abs) (b.l.map Itm.abs)) (descB (o.l.map Itm.abs) (a.l.map Itm.abs) (b.l.map Itm.abs)) (ruleO (o.l.map Itm.abs) (a.l.map Itm.abs) (b.l.map Itm.abs)) (n - 1) LN[j].toList)) (mgC (namesA (o.l.map Itm.abs) (a.l.map Itm.abs) (b.l.map Itm.abs)) (descB (o.l.map Itm.abs) (a.l.map Itm.abs) (b.l.map Itm.abs)) (confB (o.l.map Itm.abs) (a.l.map Itm.abs) (b.l.map Itm.abs)) (n - 1) LN[j].toList)) := hid (by
          rw [show n - 1 = m by omega]
          rw [he3, he2, stepA_then]
          rfl)
        clear hx3 he3 hk3 HIH
        go_wp2_with fail
        go_roundg (LN.length - (j + 1))
        case measure => omega
        case rel => exact ⟨j + 1, _, by omega, rfl, by go_num, HFIN.out _ _ _ _ _ _ HX12.out HE12.out HK12.out HONE.out⟩
    · obtain rfl : j = LN.length := by omega
      have hab := habs.out
      simp only [List.take_length] at hab
      rw [← HTOT.out.1, ← HTOT.out.2.1, ← HTOT.out.2.2.1, ← HTOT.out.2.2.2] at hab
      have HAB := hid hab
      clear hab
      go_wp2_with fail
      go_end0
      exact ⟨⟨_, rfl⟩, ⟨x', HRB.out, HAB.out⟩, HK3.out.trans HKR.out⟩

end Go.Proofs.YtfbbjfbnkcklgaaGreatDoor
