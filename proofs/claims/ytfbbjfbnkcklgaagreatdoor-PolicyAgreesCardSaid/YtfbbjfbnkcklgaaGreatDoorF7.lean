/- law22.value, law22.in -/
import Derived.Test.YtfbbjfbnkcklgaaGreatDoorF1
namespace Go.Proofs.YtfbbjfbnkcklgaaGreatDoor
open Go.RowKit

/-- nothing at a path -/
def zeroItm : Itm := ⟨⟨#[]⟩, false, none, 0, []⟩
theorem Good.zero (w : World) : Good w zeroItm := ⟨by show (0 : Nat) ≤ _; omega, by simp [zeroItm], (Row.nil w 5 1).src, by simp [zeroItm]⟩
/-- what a tree has at a path, or nothing -/
def valA (T : List AIt) (p : Txt) : AIt := (findA T p).getD ⟨[], false, []⟩
set_option maxHeartbeats 2000000 in
theorem value_walk (A : Option Addr) (c : Nat) (l : List Itm) (q : ByteArray) (w : World) (h : Tr w A c l) :
    Calls Tryz.prog 16 #[.slice A l.length c, .string q] w fun e w' => (∃ x : Itm, e = .returned (.agg #[.string x.p, .bool x.d, .slice x.dA x.bs.length x.dc]) ∧ Good w' x ∧ x.abs = valA (l.map Itm.abs) q.toList) ∧ Below w.heap.size w w' := by
  have hb0 := thenA (Below.refl _ w) (.cells #[.string ⟨#[]⟩, .bool false, .slice none 0 0] 42 (0, 0))
  have hq0 := heap_alloc_new w (.cells #[.string ⟨#[]⟩, .bool false, .slice none 0 0] 42 (0, 0))
  have HF : HidP (Calls Tryz.prog 45 #[.slice A l.length c, .string q] (w.alloc (.cells #[.string ⟨#[]⟩, .bool false, .slice none 0 0] 42 (0, 0))) fun e w' => (∃ (x : Itm) (f : Bool), e = .returned (.tuple #[.agg #[.string x.p, .bool x.d, .slice x.dA x.bs.length x.dc], .bool f]) ∧ Good w x ∧ x.abs = valA (l.map Itm.abs) q.toList) ∧ Below (w.alloc (.cells #[.string ⟨#[]⟩, .bool false, .slice none 0 0] 42 (0, 0))).heap.size (w.alloc (.cells #[.string ⟨#[]⟩, .bool false, .slice none 0 0] 42 (0, 0))) w') := hid (by
    refine (reffind A c l q _ (h.below hb0)).mono ?_
    unfold valA
    rw [find_abs]
    rintro e w' ⟨hb, (⟨x, hx, rfl⟩ | ⟨hx, rfl⟩)⟩
    · rw [hx]
      exact ⟨⟨x, true, rfl, h.good x (List.mem_of_find?_eq_some hx), rfl⟩, hb⟩
    · rw [hx]
      exact ⟨⟨zeroItm, false, rfl, Good.zero w, by simp [zeroItm, Itm.abs]⟩, hb⟩)
  clear h
  go_enter Tryz.func16, Tryz.ntmps16
  go_wp2_with fail
  refine HF.out.mono ?_
  rintro e w1 ⟨⟨x, f, rfl, hg, hx⟩, hb1⟩
  have q1 := (hb1.block _ (blkLt hq0)).trans hq0
  have hbx := thenA (Below.refl _ w1) (.cells #[.string x.p, .bool x.d, .slice x.dA x.bs.length x.dc] 42 (0, 0))
  have q2 := (hbx.block _ (blkLt q1)).trans q1
  have f0 := blkFree q2 0
  have f1 := blkFree q2 1
  have f2 := blkFree q2 2
  have r0 := (blkCell q2 0).trans (rfl : _ = some (Value.string ⟨#[]⟩))
  have r1 := (blkCell q2 1).trans (rfl : _ = some (Value.bool false))
  have r2 := (blkCell q2 2).trans (rfl : _ = some (Value.slice none 0 0))
  have HG := hid hg
  have HX := hid hx
  have hfin := thenB hb0 (thenB hb1 hbx)
  have hF := blkSet (blkSet (blkSet q2 0 (.string x.p)) 1 (.bool x.d)) 2 (.slice x.dA x.bs.length x.dc)
  have y0 := (blkCell hF 0).trans (rfl : _ = some (Value.string x.p))
  have y1 := (blkCell hF 1).trans (rfl : _ = some (Value.bool x.d))
  have y2 := (blkCell hF 2).trans (rfl : _ = some (Value.slice x.dA x.bs.length x.dc))
  have HFIN : HidP (Below w.heap.size w ((((w1.alloc (.cells #[.string x.p, .bool x.d, .slice x.dA x.bs.length x.dc] 42 (0, 0))).setCell ⟨w.heap.size, 0, none⟩ (.string x.p)).setCell ⟨w.heap.size, 1, none⟩ (.bool x.d)).setCell ⟨w.heap.size, 2, none⟩ (.slice x.dA x.bs.length x.dc))) := hid (((hfin.setCell (Nat.le_refl _) _).setCell (Nat.le_refl _) _).setCell (Nat.le_refl _) _)
  have HG2 := hid (HG.out.below HFIN.out)
  clear hg hx hb0 hq0 hb1 hbx q1 HF hF hfin q2 HG
  go_wp2_with fail
  exact bodyPost_ret (v := .agg #[.string x.p, .bool x.d, .slice x.dA x.bs.length x.dc]) (by simp [results, Tryz.results16, go_sem, y0, y1, y2]) rfl ⟨⟨x, rfl, HG2.out, HX.out⟩, HFIN.out⟩

set_option maxRecDepth 100000 in
set_option maxHeartbeats 2000000 in
theorem lawin_walk (A : Option Addr) (c : Nat) (l : List ByteArray) (p : ByteArray) (w : World) (hl : Row w 9 1 (.slice A l.length c) (l.map .string)) (hn : l.length ≤ 1000000) (hsz : ∀ q ∈ l, q.size ≤ 140737488351232) :
    Calls Tryz.prog 17 #[.slice A l.length c, .string p] w fun e w' => e = .returned (.bool (l.any fun q => withinA q.toList p.toList)) ∧ Below w.heap.size w w' := by
  have HL := hid hl
  have HSZ := hid hsz
  clear hl hsz
  go_enter Tryz.func17, Tryz.ntmps17
  go_wp2_with fail
  go_loopg [5] l.length (fun k i wr => ∃ j : Nat, j ≤ l.length ∧ k = l.length - j ∧ i = .int .i64 j ∧ Below w.heap.size w wr ∧ (l.take j).any (fun q => withinA q.toList p.toList) = false)
  case atStart => exact ⟨0, Nat.zero_le _, rfl, rfl, Below.refl _ _, rfl⟩
  case round =>
    obtain ⟨j, hj, rfl, rfl, hb, ht⟩ := hrel
    have HT := hid ht
    clear ht
    by_cases hlt : j < l.length
    · have i0 : (0 : Int) ≤ (j : Int) := by omega
      have i1 : (j : Int) < (l.length : Int) := by omega
      obtain ⟨b1, o1, hA, k1⟩ := (HL.out.below hb).str hlt
      subst hA
      have HW := hid (refwithin l[j] p wr (HSZ.out _ (List.getElem_mem hlt)))
      have HY : HidP (withinA l[j].toList p.toList = true → l.any (fun q => withinA q.toList p.toList) = true) := hid (fun h => List.any_eq_true.2 ⟨_, List.getElem_mem hlt, h⟩)
      have HN : HidP (withinA l[j].toList p.toList = false → (l.take (j + 1)).any (fun q => withinA q.toList p.toList) = false) := hid (fun h => by
        rw [List.take_add_one, List.any_append, HT.out, List.getElem?_eq_getElem hlt]
        simp [h])
      cases hd : withinA l[j].toList p.toList
      · rw [hd] at HW
        have HN2 := hid (HN.out hd)
        go_wp2_with fail
        refine HW.out.mono ?_
        rintro e w1 ⟨rfl, rfl⟩
        go_wp2_with fail
        go_roundg (l.length - (j + 1))
        case measure => omega
        case rel => exact ⟨j + 1, by omega, rfl, by go_num, hb, HN2.out⟩
      · rw [hd] at HW
        have HY2 := hid (HY.out hd)
        go_wp2_with fail
        refine HW.out.mono ?_
        rintro e w1 ⟨rfl, rfl⟩
        go_wp2_with fail
        go_ret
        exact ⟨by rw [HY2.out]; rfl, hb⟩
    · obtain rfl : j = l.length := by omega
      have HE := HT.out
      rw [List.take_length] at HE
      have HE := hid HE
      go_wp2_with fail
      go_ret
      exact ⟨by rw [HE.out]; rfl, hb⟩

end Go.Proofs.YtfbbjfbnkcklgaaGreatDoor

/- MergeSpec: the plain law, path by path -/
namespace Go.Proofs.YtfbbjfbnkcklgaaGreatDoor
open Go.RowKit

theorem val_iff {S T : List AIt} {t : Txt} (ht : t ≠ []) : valA S t = valA T t ↔ findA S t = findA T t := by
  unfold valA
  cases h1 : findA S t with
  | none =>
    cases h2 : findA T t with
    | none => simp
    | some z =>
      have hz := (find_some h2).2
      simp only [Option.getD_none, Option.getD_some, reduceCtorEq, iff_false]
      rintro e
      rw [← e] at hz
      exact ht hz.symm
  | some y =>
    have hy := (find_some h1).2
    cases h2 : findA T t with
    | none =>
      simp only [Option.getD_none, Option.getD_some, reduceCtorEq, iff_false]
      rintro e
      rw [e] at hy
      exact ht hy.symm
    | some z => simp
/-- what the law asks at a path -/
structure SpecAt (o a b : List AIt) (t : Txt) : Prop where
  inA : (mgS o a b).any (fun q => withinA q t) = true → valA (mA o a b) t = valA a t
  inB : (mgS o a b).any (fun q => withinA q t) = true → valA (mB o a b) t = valA b t
  inO : (mgS o a b).any (fun q => withinA q t) = true → valA (mO o a b) t = valA o t
  outB : (mgS o a b).any (fun q => withinA q t) = false → valA (mA o a b) t = valA (mB o a b) t
  outO : (mgS o a b).any (fun q => withinA q t) = false → valA (mA o a b) t = valA (mO o a b) t
  ao : (mgS o a b).any (fun q => withinA q t) = false → valA a t = valA o t → valA (mA o a b) t = valA b t
  bo : (mgS o a b).any (fun q => withinA q t) = false → valA b t = valA o t → valA (mA o a b) t = valA a t
  ab : (mgS o a b).any (fun q => withinA q t) = false → valA a t = valA b t → valA (mA o a b) t = valA a t
theorem spec_at {o a b : List AIt} (h : Right3 o a b) {t : Txt} (ht : t ≠ []) : SpecAt o a b t := by
  have key : (mgS o a b).any (fun q => withinA q t) = true → ∃ c ∈ mgCs o a b, withinA c t = true := fun hc => by
    obtain ⟨c, h1, h2⟩ := List.any_eq_true.1 hc
    exact ⟨c, mem_mgS.1 h1, h2⟩
  have out : (mgS o a b).any (fun q => withinA q t) = false → ∀ c ∈ mgCs o a b, withinA c t = false := fun hc c h1 => by
    rw [List.any_eq_false] at hc
    have := hc c (mem_mgS.2 h1)
    simpa using this
  refine ⟨fun hc => ?_, fun hc => ?_, fun hc => ?_, fun hc => ?_, fun hc => ?_, fun hc he => ?_, fun hc he => ?_, fun hc he => ?_⟩
  · obtain ⟨c, h1, h2⟩ := key hc; exact (val_iff ht).2 (spec_in h h1 h2).1
  · obtain ⟨c, h1, h2⟩ := key hc; exact (val_iff ht).2 (spec_in h h1 h2).2.1
  · obtain ⟨c, h1, h2⟩ := key hc; exact (val_iff ht).2 (spec_in h h1 h2).2.2
  · exact (val_iff ht).2 (spec_out h (out hc)).1
  · exact (val_iff ht).2 (spec_out h (out hc)).2.1
  · exact (val_iff ht).2 ((spec_out h (out hc)).2.2.1 ((val_iff ht).1 he))
  · exact (val_iff ht).2 ((spec_out h (out hc)).2.2.2.1 ((val_iff ht).1 he))
  · exact (val_iff ht).2 ((spec_out h (out hc)).2.2.2.2 ((val_iff ht).1 he))

end Go.Proofs.YtfbbjfbnkcklgaaGreatDoor

/- MergeConflicts: merge.Sides at a conflict -/
namespace Go.Proofs.YtfbbjfbnkcklgaaGreatDoor
open Go.RowKit

theorem conf_path {o a b : List AIt} (h : Right3 o a b) {c : Txt} (hc : c ∈ mgS o a b) : pathB c = true := h.pathU ((mem_Cs h).1 (mem_mgS.1 hc)).1.1
theorem conf_is {o a b : List AIt} (h : Right3 o a b) {c : Txt} (hc : c ∈ mgS o a b) : confB o a b c = true := ((mem_Cs h).1 (mem_mgS.1 hc)).2
theorem str_small {q : ByteArray} (h : pathB q.toList = true) : q.size ≤ 140737488351232 := by
  have := pathB_short h
  rw [str_len] at this
  omega
set_option maxHeartbeats 2000000 in
theorem sides3_walk (o a b : TrI) (p : ByteArray) (w : World) (ho : Tr w o.A o.c o.l) (ha : Tr w a.A a.c a.l) (hb : Tr w b.A b.c b.l) (hr : right3 (o.l.map Itm.abs) (a.l.map Itm.abs) (b.l.map Itm.abs) = true) (hp : pathB p.toList = true) (hc : confB (o.l.map Itm.abs) (a.l.map Itm.abs) (b.l.map Itm.abs) p.toList = true) :
    Calls Tryz.prog 20 #[.slice o.A o.l.length o.c, .slice a.A a.l.length a.c, .slice b.A b.l.length b.c, .string p] w fun e w' => e = .returned (.int .i64 3) ∧ Below w.heap.size w w' := by
  have H1 := hid (mright_walk o a b w ho ha hb)
  rw [hr] at H1
  have H2 : HidP (∀ W, Calls Tryz.prog 43 #[.string p] W fun e w' => e = .returned (.bool true) ∧ Below W.heap.size W w') := hid (fun W => by
    have := path_walk p (str_small hp) W
    rwa [hp] at this)
  have HU1 := hid (fun W (hW : Below w.heap.size w W) => under_walk o.A o.c o.l p W (ho.below hW))
  have HU2 := hid (fun W (hW : Below w.heap.size w W) => under_walk a.A a.c a.l p W (ha.below hW))
  have HU3 := hid (fun W (hW : Below w.heap.size w W) => under_walk b.A b.c b.l p W (hb.below hW))
  obtain ⟨k1, k2, _⟩ := conf_parts hc
  rw [take_parts] at k1
  rw [first_part] at k2
  have N1 := hid k1.1
  have N2 := hid k1.2
  have N3 := hid k2
  clear ho ha hb hr hp hc k1 k2
  go_enter Tryz.func20, Tryz.ntmps20
  go_wp2_with fail
  refine H1.out.mono ?_
  rintro e w1 ⟨rfl, hb1⟩
  go_wp2_with fail
  refine (H2.out _).mono ?_
  rintro e w2 ⟨rfl, hb2'⟩
  have hb2 := thenB hb1 hb2'
  go_wp2_with fail
  refine (HU1.out _ hb2).mono ?_
  rintro e w3 ⟨⟨B1, d1, l1, rfl, ht1, he1⟩, hb3'⟩
  have hb3 := thenB hb2 hb3'
  have HT1 := hid ht1
  have HE1 := hid he1
  clear ht1 he1
  go_wp2_with fail
  refine (HU2.out _ hb3).mono ?_
  rintro e w4 ⟨⟨B2, d2, l2, rfl, ht2, he2⟩, hb4'⟩
  have hb4 := thenB hb3 hb4'
  have HT2 := hid ht2
  have HE2 := hid he2
  clear ht2 he2
  go_wp2_with fail
  refine (HU3.out _ hb4).mono ?_
  rintro e w5 ⟨⟨B3, d3, l3, rfl, ht3, he3⟩, hb5'⟩
  have hb5 := thenB hb4 hb5'
  have HT3 := hid ht3
  have HE3 := hid he3
  clear ht3 he3
  have T1 := hid ((HT1.out.below hb4').below hb5')
  have T2 := hid (HT2.out.below hb5')
  have HS1 : HidP (∀ W, Below w5.heap.size w5 W → Calls Tryz.prog 26 #[.slice B2 l2.length d2, .slice B3 l3.length d3] W fun e w' => e = .returned (.bool false) ∧ Below W.heap.size W w') := hid (fun W hW => by
    have := tsame_walk B2 B3 d2 d3 l2 l3 W (T2.out.below hW) (HT3.out.below hW)
    rwa [show sameL l2 l3 = false from decide_eq_false (by rw [HE2.out, HE3.out]; exact N1.out)] at this)
  have HS2 : HidP (∀ W, Below w5.heap.size w5 W → Calls Tryz.prog 26 #[.slice B3 l3.length d3, .slice B1 l1.length d1] W fun e w' => e = .returned (.bool false) ∧ Below W.heap.size W w') := hid (fun W hW => by
    have := tsame_walk B3 B1 d3 d1 l3 l1 W (HT3.out.below hW) (T1.out.below hW)
    rwa [show sameL l3 l1 = false from decide_eq_false (by rw [HE1.out, HE3.out]; exact N2.out)] at this)
  have HS3 : HidP (∀ W, Below w5.heap.size w5 W → Calls Tryz.prog 26 #[.slice B2 l2.length d2, .slice B1 l1.length d1] W fun e w' => e = .returned (.bool false) ∧ Below W.heap.size W w') := hid (fun W hW => by
    have := tsame_walk B2 B1 d2 d1 l2 l1 W (T2.out.below hW) (T1.out.below hW)
    rwa [show sameL l2 l1 = false from decide_eq_false (by rw [HE2.out, HE1.out]; exact N3.out)] at this)
  clear hb2' hb3' hb4' hb5' hb1 hb2 hb3 hb4
  go_wp2_with fail
  refine (HS1.out _ (Below.refl _ _)).mono ?_
  rintro e w6 ⟨rfl, hc1⟩
  go_wp2_with fail
  refine (HS2.out _ hc1).mono ?_
  rintro e w7 ⟨rfl, hc2⟩
  have hc12 := thenB hc1 hc2
  go_wp2_with fail
  refine (HS3.out _ hc12).mono ?_
  rintro e w8 ⟨rfl, hc3⟩
  have hfin := thenB hb5 (thenB hc12 hc3)
  go_wp2_with fail
  go_ret
  exact ⟨rfl, hfin⟩

end Go.Proofs.YtfbbjfbnkcklgaaGreatDoor
