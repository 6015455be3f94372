/- policy.Settle -/
import Derived.Test.YtfbbjfbnkcklgaaGreatDoorJ1
namespace Go.Proofs.YtfbbjfbnkcklgaaGreatDoor
open Go.RowKit

theorem infoChoice : (Tryz.prog.info? 84).map (fun i => (i.zero, i.size, i.bytes)) = some (some (.agg #[.string ByteArray.empty, .int .i64 0]), 2, 24) := by kernel_rfl
theorem chC_one (how : Int) (x : ByteArray) : ∀ u ∈ chC how x, u.oneCell' = true := by
  intro u hu
  simp [chC] at hu
  rcases hu with rfl | rfl <;> rfl
theorem ch_src (W : World) (q : ByteArray) (how : Int) : Src (W.alloc (.cells #[.string q, .int .i64 how] 84 (0, 0))) 2 (.slice (some ⟨W.heap.size, 0, none⟩) 1 1) (chC how q) :=
  (Row.ofBlock (sz := 2) (n := 1) (heap_alloc_new W _) rfl (by simp [maxLen])).src

set_option maxHeartbeats 2000000 in
theorem settle_bad (x : RI) (how : Int) (W : World) (hh : howB how = false) :
    Calls Tryz.prog 25 #[.agg #[.slice x.a.A x.a.l.length x.a.c, .slice x.b.A x.b.l.length x.b.c, .slice x.o.A x.o.l.length x.o.c, .slice x.cA x.LC.length x.cc], .int .i64 how] W fun e w' => e = .returned (.tuple #[.agg #[.slice none 0 0, .slice none 0 0, .slice none 0 0, .slice none 0 0], .int .i64 1]) ∧ Below W.heap.size W w' := by
  have HR := hid (pright_walk how)
  rw [hh] at HR
  have hb0 : Below W.heap.size W ((W.alloc (.cells #[.slice x.a.A x.a.l.length x.a.c, .slice x.b.A x.b.l.length x.b.c, .slice x.o.A x.o.l.length x.o.c, .slice x.cA x.LC.length x.cc] 28 (0, 0))).alloc (.cells #[.slice none 0 0, .slice none 0 0, .slice none 0 0, .slice none 0 0] 28 (0, 0))) := thenA (thenA (Below.refl _ W) _) _
  have hq8 := heap_alloc_new (W.alloc (.cells #[.slice x.a.A x.a.l.length x.a.c, .slice x.b.A x.b.l.length x.b.c, .slice x.o.A x.o.l.length x.o.c, .slice x.cA x.LC.length x.cc] 28 (0, 0))) (.cells #[.slice none 0 0, .slice none 0 0, .slice none 0 0, .slice none 0 0] 28 (0, 0))
  rw [World.size_alloc] at hq8
  go_enter Tryz.func25, Tryz.ntmps25
  go_wp2_with fail
  refine (HR.out _).mono ?_
  rintro e w1 ⟨rfl, rfl⟩
  generalize ((W.alloc (.cells #[.slice x.a.A x.a.l.length x.a.c, .slice x.b.A x.b.l.length x.b.c, .slice x.o.A x.o.l.length x.o.c, .slice x.cA x.LC.length x.cc] 28 (0, 0))).alloc (.cells #[.slice none 0 0, .slice none 0 0, .slice none 0 0, .slice none 0 0] 28 (0, 0))) = w1 at *
  have r0 : w1.cell? ⟨W.heap.size + 1, 0, none⟩ = some (.slice none 0 0) := (blkCell hq8 0).trans rfl
  have r1 : w1.cell? ⟨W.heap.size + 1, 1, none⟩ = some (.slice none 0 0) := (blkCell hq8 1).trans rfl
  have r2 : w1.cell? ⟨W.heap.size + 1, 2, none⟩ = some (.slice none 0 0) := (blkCell hq8 2).trans rfl
  have r3 : w1.cell? ⟨W.heap.size + 1, 3, none⟩ = some (.slice none 0 0) := (blkCell hq8 3).trans rfl
  have f0 := blkFree hq8 0
  have f1 := blkFree hq8 1
  have f2 := blkFree hq8 2
  have f3 := blkFree hq8 3
  have hF := blkSet (blkSet (blkSet (blkSet hq8 0 (.slice none 0 0)) 1 (.slice none 0 0)) 2 (.slice none 0 0)) 3 (.slice none 0 0)
  have y0 := (blkCell hF 0).trans (rfl : _ = some (Value.slice none 0 0))
  have y1 := (blkCell hF 1).trans (rfl : _ = some (Value.slice none 0 0))
  have y2 := (blkCell hF 2).trans (rfl : _ = some (Value.slice none 0 0))
  have y3 := (blkCell hF 3).trans (rfl : _ = some (Value.slice none 0 0))
  have T5 : HidP (Below W.heap.size W ((((w1.setCell ⟨W.heap.size + 1, 0, none⟩ (.slice none 0 0)).setCell ⟨W.heap.size + 1, 1, none⟩ (.slice none 0 0)).setCell ⟨W.heap.size + 1, 2, none⟩ (.slice none 0 0)).setCell ⟨W.heap.size + 1, 3, none⟩ (.slice none 0 0))) := hid (KR.below hb0 (KR.setR (KR.setR (KR.setR (KR.setR (Keep.refl _ w1) 0 (.slice none 0 0)) 1 (.slice none 0 0)) 2 (.slice none 0 0)) 3 (.slice none 0 0)) (by omega))
  clear hF hb0
  go_wp2_with fail
  refine bodyPost_ret (v := .tuple #[.agg #[.slice none 0 0, .slice none 0 0, .slice none 0 0, .slice none 0 0], .int .i64 1]) (by simp [results, Tryz.results25, go_sem, y0, y1, y2, y3]) rfl ?_
  exact ⟨rfl, T5.out⟩

/-- what Settle hands back -/
def SetOk (W : World) (x : RI) (how : Int) (e : Ending) (w' : World) : Prop := ((bigS (settleL how (x.LC.map fun z : ByteArray => z.toList) (start x)) = true ∧ e = .returned (.tuple #[.agg #[.slice none 0 0, .slice none 0 0, .slice none 0 0, .slice none 0 0], .int .i64 2])) ∨ (bigS (settleL how (x.LC.map fun z : ByteArray => z.toList) (start x)) = false ∧ ∃ y : RI, e = .returned (.tuple #[.agg #[.slice y.a.A y.a.l.length y.a.c, .slice y.b.A y.b.l.length y.b.c, .slice y.o.A y.o.l.length y.o.c, .slice y.cA y.LC.length y.cc], .int .i64 0]) ∧ RIok w' y ∧ y.abs = settleL how (x.LC.map fun z : ByteArray => z.toList) (start x))) ∧ Below W.heap.size W w'
set_option maxRecDepth 100000 in
set_option maxHeartbeats 8000000 in
theorem settle_walk (x : RI) (how : Int) (W : World) (h : RIok W x) (hf : Fit x.abs) (hh : howB how = true) (ho : Once x.LC) (hn : x.LC.length ≤ 100000) (hB : ∀ j ≤ x.LC.length, Bnd (settleL how ((x.LC.map fun z : ByteArray => z.toList).take j) (start x))) :
    Calls Tryz.prog 25 #[.agg #[.slice x.a.A x.a.l.length x.a.c, .slice x.b.A x.b.l.length x.b.c, .slice x.o.A x.o.l.length x.o.c, .slice x.cA x.LC.length x.cc], .int .i64 how] W (SetOk W x how) := by
  have HR := hid (pright_walk how)
  rw [hh] at HR
  obtain ⟨ti, hi0, hz0, hz1, hz2⟩ := info_parts infoChoice
  have HCH := hid (fun (CA : Option Addr) (Cc : Nat) (w' : World) (hb : Below W.heap.size W w') (hc : Recs (chC how) 2 w' CA Cc x.LC) => choose_walk x CA Cc how w' (h.below hb) hf hc hh ho hn hB)
  have HX := hid h
  have hb0 : Below W.heap.size W ((W.alloc (.cells #[.slice x.a.A x.a.l.length x.a.c, .slice x.b.A x.b.l.length x.b.c, .slice x.o.A x.o.l.length x.o.c, .slice x.cA x.LC.length x.cc] 28 (0, 0))).alloc (.cells #[.slice none 0 0, .slice none 0 0, .slice none 0 0, .slice none 0 0] 28 (0, 0))) := thenA (thenA (Below.refl _ W) _) _
  have hq8 := heap_alloc_new (W.alloc (.cells #[.slice x.a.A x.a.l.length x.a.c, .slice x.b.A x.b.l.length x.b.c, .slice x.o.A x.o.l.length x.o.c, .slice x.cA x.LC.length x.cc] 28 (0, 0))) (.cells #[.slice none 0 0, .slice none 0 0, .slice none 0 0, .slice none 0 0] 28 (0, 0))
  have hq7 := (heap_alloc_old (W.alloc (.cells #[.slice x.a.A x.a.l.length x.a.c, .slice x.b.A x.b.l.length x.b.c, .slice x.o.A x.o.l.length x.o.c, .slice x.cA x.LC.length x.cc] 28 (0, 0))) (.cells #[.slice none 0 0, .slice none 0 0, .slice none 0 0, .slice none 0 0] 28 (0, 0)) (by simp)).trans (heap_alloc_new W (.cells #[.slice x.a.A x.a.l.length x.a.c, .slice x.b.A x.b.l.length x.b.c, .slice x.o.A x.o.l.length x.o.c, .slice x.cA x.LC.length x.cc] 28 (0, 0)))
  rw [World.size_alloc] at hq8
  clear h hf hh ho hB
  go_enter Tryz.func25, Tryz.ntmps25
  go_wp2_with fail
  refine (HR.out _).mono ?_
  rintro e w1 ⟨rfl, rfl⟩
  generalize ((W.alloc (.cells #[.slice x.a.A x.a.l.length x.a.c, .slice x.b.A x.b.l.length x.b.c, .slice x.o.A x.o.l.length x.o.c, .slice x.cA x.LC.length x.cc] 28 (0, 0))).alloc (.cells #[.slice none 0 0, .slice none 0 0, .slice none 0 0, .slice none 0 0] 28 (0, 0))) = w1 at *
  have HCS : HidP (CS W x w1) := hid ⟨hq7, hq8, hb0⟩
  obtain ⟨z0, z1, z2, z3⟩ := HCS.out.cells
  clear hq7 hq8 hb0 HR
  go_wp2_with fail
  go_loopg [6, 16] x.LC.length (fun k last i wr => ∃ (j : Nat) (LA : Option Addr) (Lc : Nat) (M : List ByteArray), j ≤ x.LC.length ∧ k = x.LC.length - j ∧ i = .int .i64 j ∧ last = .slice LA M.length Lc ∧ M = x.LC.take j ∧ Row wr 84 2 (.slice LA M.length Lc) (M.flatMap (chC how)) ∧ (∀ k, (Value.slice LA M.length Lc).ownBlock = some k → w1.heap.size ≤ k) ∧ Below w1.heap.size w1 wr)
  case atStart => exact ⟨0, none, 0, [], Nat.zero_le _, rfl, rfl, rfl, rfl, Row.nil _ _ _, by simp [Value.ownBlock], Below.refl _ _⟩
  case round =>
    obtain ⟨j, LA, Lc, M, hj, rfl, rfl, rfl, hM, hrow, hfr, hbr⟩ := hrel
    have HM := hid hM
    have HFR := hid hfr
    clear hM hfr
    by_cases hlt : j < x.LC.length
    · have i0 : (0 : Int) ≤ (j : Int) := by omega
      have i1 : (j : Int) < (x.LC.length : Int) := by omega
      obtain ⟨cb, co, hcA, ck⟩ := (HX.out.c.below (HCS.out.below hbr).bel).str hlt
      have HML : HidP (M.length ≤ 100000 ∧ M.length = j) := hid (by rw [HM.out, List.length_take]; omega)
      have HMN : HidP (M ++ [x.LC[j]] = x.LC.take (j + 1)) := hid (by rw [HM.out, List.take_add_one, List.getElem?_eq_getElem hlt]; rfl)
      have hba := thenA (Below.refl _ wr) (.cells #[.string x.LC[j], .int .i64 how] 84 (0, 0))
      have hsi := ch_src wr x.LC[j] how
      have hfl := flat_len (chC_len how) M
      have hc1 : (M.flatMap (chC how)).length + (chC how x.LC[j]).length ≤ maxLen := by
        have := HML.out.1
        rw [hfl, chC_len]
        simp only [maxLen]
        omega
      have hc2 : ((M.flatMap (chC how)).length + (chC how x.LC[j]).length) * 24 ≤ 140737488355328 := by
        have := HML.out.1
        rw [hfl, chC_len]
        omega
      have HCA := hid hcA
      rw [hcA]
      clear hcA hfl
      go_wp2_with (at_builtin; refine wpList_append_row _ rfl _ _ 82 rfl 84 ti (.agg #[.string ByteArray.empty, .int .i64 0]) 2 24 Tryz.underlying82 hi0 hz0 hz1 hz2 rfl (by decide) (.slice LA M.length Lc) (M.flatMap (chC how)) rfl (by exact hrow.below hba) (.slice (some ⟨wr.heap.size, 0, none⟩) 1 1) (chC how x.LC[j]) rfl (by exact hsi) (chC_one how _) hc1 hc2 ?_; intro cA cn cc w7 hr7 hg7 ha7)
      have hr8 : Row w7 84 2 (.slice cA cn cc) ((M ++ [x.LC[j]]).flatMap (chC how)) := by rw [List.flatMap_append]; simpa using hr7
      have hcn : cn = (M ++ [x.LC[j]]).length := by
        have h1 := hr8.count
        rw [flat_len (chC_len how)] at h1
        omega
      have hsz6 := hbr.size
      have hf7 := fresh_of ha7 HFR.out (by simp; omega)
      have hb7 : Below w1.heap.size w1 w7 := Below.grownNew (thenB hbr hba) hg7 (by simp; omega) HFR.out
      obtain ⟨M2, hM2⟩ : ∃ M2, M2 = M ++ [x.LC[j]] := ⟨_, rfl⟩
      rw [← hM2] at hr8 hcn
      subst hcn
      have HM2 : HidP (M2 = x.LC.take (j + 1)) := hid (by rw [hM2, HMN.out])
      have HR8 := hid hr8
      clear hr7 hg7 ha7 hr8 hM2 hrow hsi hc1 hc2 hba
      rw [← HCA.out]
      go_roundg (x.LC.length - (j + 1))
      case measure => omega
      case rel => exact ⟨j + 1, cA, cc, M2, by omega, rfl, by go_num, rfl, HM2.out, HR8.out, hf7, hb7⟩
    · obtain rfl : j = x.LC.length := by omega
      obtain rfl : M = x.LC := by rw [HM.out, List.take_length]
      replace HCS := hid (HCS.out.below hbr)
      have HRC := hid (Recs.ofRow (chC_len how) (by omega) hrow).2
      obtain ⟨z0, z1, z2, z3⟩ := HCS.out.cells
      have HCC := hid (HCH.out LA Lc wr HCS.out.bel HRC.out)
      clear hrow HCH HFR HM
      go_wp2_with fail
      refine HCC.out.mono ?_
      rintro e w2 ⟨hor, hb2⟩
      have HC2 := hid (HCS.out.below hb2)
      clear hb2 HCC z0 z1 z2 z3
      have hq8 := HC2.out.rs
      have r0 : w2.cell? ⟨W.heap.size + 1, 0, none⟩ = some (.slice none 0 0) := (blkCell hq8 0).trans rfl
      have r1 : w2.cell? ⟨W.heap.size + 1, 1, none⟩ = some (.slice none 0 0) := (blkCell hq8 1).trans rfl
      have r2 : w2.cell? ⟨W.heap.size + 1, 2, none⟩ = some (.slice none 0 0) := (blkCell hq8 2).trans rfl
      have r3 : w2.cell? ⟨W.heap.size + 1, 3, none⟩ = some (.slice none 0 0) := (blkCell hq8 3).trans rfl
      have f0 := blkFree hq8 0
      have f1 := blkFree hq8 1
      have f2 := blkFree hq8 2
      have f3 := blkFree hq8 3
      rcases hor with ⟨hbig, rfl⟩ | ⟨hbig, y, rfl, hy, hya⟩
      · have HBIG := hid hbig
        clear hbig
        have hF := blkSet (blkSet (blkSet (blkSet hq8 0 (.slice none 0 0)) 1 (.slice none 0 0)) 2 (.slice none 0 0)) 3 (.slice none 0 0)
        have y0 := (blkCell hF 0).trans (rfl : _ = some (Value.slice none 0 0))
        have y1 := (blkCell hF 1).trans (rfl : _ = some (Value.slice none 0 0))
        have y2 := (blkCell hF 2).trans (rfl : _ = some (Value.slice none 0 0))
        have y3 := (blkCell hF 3).trans (rfl : _ = some (Value.slice none 0 0))
        have hkf : KR (W.heap.size + 1) w2 ((((w2.setCell ⟨W.heap.size + 1, 0, none⟩ (.slice none 0 0)).setCell ⟨W.heap.size + 1, 1, none⟩ (.slice none 0 0)).setCell ⟨W.heap.size + 1, 2, none⟩ (.slice none 0 0)).setCell ⟨W.heap.size + 1, 3, none⟩ (.slice none 0 0)) := KR.setR (KR.setR (KR.setR (KR.setR (Keep.refl _ w2) 0 (.slice none 0 0)) 1 (.slice none 0 0)) 2 (.slice none 0 0)) 3 (.slice none 0 0)
        have T5 := hid (KR.below HC2.out.bel hkf (by omega))
        clear hF hkf hq8
        go_wp2_with fail
        refine bodyPost_ret (v := .tuple #[.agg #[.slice none 0 0, .slice none 0 0, .slice none 0 0, .slice none 0 0], .int .i64 2]) (by simp [results, Tryz.results25, go_sem, y0, y1, y2, y3]) rfl ?_
        exact ⟨.inl ⟨HBIG.out, rfl⟩, T5.out⟩
      · have HBIG := hid hbig
        have HYA := hid hya
        clear hbig hya
        obtain ⟨w9, hw9⟩ : ∃ w9, w9 = ((((w2.setCell ⟨W.heap.size + 1, 0, none⟩ (.slice y.a.A y.a.l.length y.a.c)).setCell ⟨W.heap.size + 1, 1, none⟩ (.slice y.b.A y.b.l.length y.b.c)).setCell ⟨W.heap.size + 1, 2, none⟩ (.slice y.o.A y.o.l.length y.o.c)).setCell ⟨W.heap.size + 1, 3, none⟩ (.slice y.cA y.LC.length y.cc)) := ⟨_, rfl⟩
        have hF := blkSet (blkSet (blkSet (blkSet hq8 0 (.slice y.a.A y.a.l.length y.a.c)) 1 (.slice y.b.A y.b.l.length y.b.c)) 2 (.slice y.o.A y.o.l.length y.o.c)) 3 (.slice y.cA y.LC.length y.cc)
        have y0 := (blkCell hF 0).trans (rfl : _ = some (Value.slice y.a.A y.a.l.length y.a.c))
        have y1 := (blkCell hF 1).trans (rfl : _ = some (Value.slice y.b.A y.b.l.length y.b.c))
        have y2 := (blkCell hF 2).trans (rfl : _ = some (Value.slice y.o.A y.o.l.length y.o.c))
        have y3 := (blkCell hF 3).trans (rfl : _ = some (Value.slice y.cA y.LC.length y.cc))
        have hkf : KR (W.heap.size + 1) w2 ((((w2.setCell ⟨W.heap.size + 1, 0, none⟩ (.slice y.a.A y.a.l.length y.a.c)).setCell ⟨W.heap.size + 1, 1, none⟩ (.slice y.b.A y.b.l.length y.b.c)).setCell ⟨W.heap.size + 1, 2, none⟩ (.slice y.o.A y.o.l.length y.o.c)).setCell ⟨W.heap.size + 1, 3, none⟩ (.slice y.cA y.LC.length y.cc)) := KR.setR (KR.setR (KR.setR (KR.setR (Keep.refl _ w2) 0 (.slice y.a.A y.a.l.length y.a.c)) 1 (.slice y.b.A y.b.l.length y.b.c)) 2 (.slice y.o.A y.o.l.length y.o.c)) 3 (.slice y.cA y.LC.length y.cc)
        have T5 := hid (KR.below HC2.out.bel hkf (by omega))
        rw [← hw9] at y0 y1 y2 y3 hkf T5
        have HYT : HidP (RIok w9 y) := hid ⟨hy.a.aside hq8 nils_no nils_nos hkf, hy.b.aside hq8 nils_no nils_nos hkf, hy.o.aside hq8 nils_no nils_nos hkf, hy.c.keep fun k hk => hkf.block k (hy.c.lt k hk) (fun e => hy.c.neBlk hq8 (by decide) (by rw [← e]; exact hk)), hy.n⟩
        rw [hw9] at y0 y1 y2 y3
        clear hF hkf hq8 hy
        go_wp2_with fail
        rw [← hw9] at *
        refine bodyPost_ret (v := .tuple #[.agg #[.slice y.a.A y.a.l.length y.a.c, .slice y.b.A y.b.l.length y.b.c, .slice y.o.A y.o.l.length y.o.c, .slice y.cA y.LC.length y.cc], .int .i64 0]) (by simp [results, Tryz.results25, go_sem, y0, y1, y2, y3]) rfl ?_
        exact ⟨.inr ⟨HBIG.out, y, rfl, HYT.out, HYA.out⟩, T5.out⟩

end Go.Proofs.YtfbbjfbnkcklgaaGreatDoor

/- settled conflicts, as plain lists -/
namespace Go.Proofs.YtfbbjfbnkcklgaaGreatDoor
open Go.RowKit

/-- right, however great -/
structure RightW (T : List AIt) : Prop where
  sorted : sortedA T
  each : ∀ x ∈ T, okI x ∧ dirOK T x.p
theorem RightP.w {T : List AIt} (h : RightP T) : RightW T := ⟨h.sorted, h.each⟩
theorem RightW.right {T : List AIt} (h : RightW T) (hl : T.length ≤ 60) : RightP T := ⟨hl, h.sorted, h.each⟩
theorem RightW.path {T : List AIt} (h : RightW T) {x : AIt} (hx : x ∈ T) : pathB x.p = true := (h.each x hx).1.1

section
variable {T S L : List AIt} {p q c t : Txt}
theorem mem_set (hd : L.Pairwise fun x y => x.p ≠ y.p) (hw : ∀ x ∈ L, withinA p x.p = true) {z : AIt} : z ∈ setA T p L ↔ z ∈ L ∨ (z ∈ T ∧ withinA p z.p = false) := by
  unfold setA
  rw [mem_puts hd]
  constructor
  · rintro (h | ⟨h, _⟩)
    · exact .inl h
    · exact .inr ⟨(mem_rest.1 h).1, (mem_rest.1 h).2 p (by simp)⟩
  · rintro (h | ⟨h, h1⟩)
    · exact .inl h
    · refine .inr ⟨mem_rest.2 ⟨h, fun c hc => by rw [List.mem_singleton.1 hc]; exact h1⟩, fun x hx e => ?_⟩
      rw [e, hw x hx] at h1
      cases h1
theorem find_set_out (hs : sortedA T) (hd : L.Pairwise fun x y => x.p ≠ y.p) (hw : ∀ x ∈ L, withinA p x.p = true) (ht : withinA p t = false) : findA (setA T p L) t = findA T t := by
  have hss := set_sorted hs p L
  cases hf : findA T t with
  | none =>
    rw [find_none_iff] at hf ⊢
    intro z hz e
    rcases (mem_set hd hw).1 hz with h | ⟨h, _⟩
    · have h1 := hw z h
      rw [e, ht] at h1
      cases h1
    · exact hf z h e
  | some y =>
    rw [find_iff hs] at hf
    rw [find_iff hss]
    exact ⟨(mem_set hd hw).2 (.inr ⟨hf.1, by rw [hf.2]; exact ht⟩), hf.2⟩
theorem find_set_in (hs : sortedA T) (hs2 : sortedA S) (hd : L.Pairwise fun x y => x.p ≠ y.p) (hw : ∀ x ∈ L, withinA p x.p = true) (ht : withinA p t = true) : findA (setA T p L) t = findA (setA S p L) t := by
  have h1 := set_sorted hs p L
  have h2 := set_sorted hs2 p L
  cases hf : findA (setA S p L) t with
  | none =>
    rw [find_none_iff] at hf ⊢
    intro z hz e
    rcases (mem_set hd hw).1 hz with h | ⟨_, h⟩
    · exact hf z ((mem_set hd hw).2 (.inl h)) e
    · rw [e, ht] at h; cases h
  | some y =>
    rw [find_iff h2] at hf
    rw [find_iff h1]
    rcases (mem_set hd hw).1 hf.1 with h | ⟨_, h⟩
    · exact ⟨(mem_set hd hw).2 (.inl h), hf.2⟩
    · rw [hf.2, ht] at h; cases h
theorem set_same (hs : sortedA T) : setA T p (underA T p) = T := by
  obtain ⟨h1, h2⟩ := under_facts hs p
  refine sorted_ext (set_sorted hs p _) hs fun z => ?_
  rw [mem_set h1 h2]
  constructor
  · rintro (h | ⟨h, _⟩)
    · exact (mem_under.1 h).1
    · exact h
  · intro h
    cases hw : withinA p z.p
    · exact .inr ⟨h, rfl⟩
    · exact .inl (mem_under.2 ⟨h, hw⟩)
/-- a tree with a part set is right -/
theorem set_right (hT : RightW T) (hp : pathB p = true) (hdir : dirOK T p) (hd : L.Pairwise fun x y => x.p ≠ y.p) (hw : ∀ x ∈ L, withinA p x.p = true) (hok : ∀ x ∈ L, okI x) (hin : ∀ x ∈ L, x.p ≠ p → ∃ y ∈ L, y.p = upT x.p ∧ y.d = true) : RightW (setA T p L) := by
  have hO : ∀ z : Txt, pathB z = true → withinA p z = false ∨ z = p → dirOK T z → dirOK (setA T p L) z := by
    rintro z hz hwz (h0 | ⟨y, hy, hyp, hyd⟩)
    · exact .inl h0
    · by_cases hn : (splitL z).1 = []
      · exact .inl hn
      refine .inr ⟨y, (mem_set hd hw).2 (.inr ⟨hy, ?_⟩), hyp, hyd⟩
      rw [hyp]
      cases hq : withinA p (splitL z).1
      · rfl
      · exfalso
        rcases hwz with h1 | h1
        · rw [within_dir hz hn hq] at h1; cases h1
        · subst h1
          have h2 := within_len hq
          have h3 := dir_len hz hn
          omega
  refine ⟨set_sorted hT.sorted p L, fun z hz => ?_⟩
  rcases (mem_set hd hw).1 hz with h | ⟨h, h1⟩
  · refine ⟨hok z h, ?_⟩
    by_cases e : z.p = p
    · rw [e]
      exact hO p hp (.inr rfl) hdir
    · obtain ⟨y, hy, hyp, hyd⟩ := hin z h e
      exact .inr ⟨y, (mem_set hd hw).2 (.inl hy), hyp, hyd⟩
  · exact ⟨(hT.each z h).1, hO z.p (hT.path h) (.inl h1) (hT.each z h).2⟩
/-- what is under a path of a right tree may be set -/
theorem under_in (hT : RightW T) (hp : pathB p = true) : (∀ x ∈ underA T p, okI x) ∧ ∀ x ∈ underA T p, x.p ≠ p → ∃ y ∈ underA T p, y.p = upT x.p ∧ y.d = true := by
  refine ⟨fun x hx => (hT.each x (mem_under.1 hx).1).1, fun x hx hne => ?_⟩
  obtain ⟨h1, h2⟩ := mem_under.1 hx
  obtain ⟨h3, h4⟩ := within_up (hT.path h1) (path_ne hp) (Ne.symm hne) h2
  rcases (hT.each x h1).2 with h0 | ⟨y, hy, hyp, hyd⟩
  · exact absurd h0 h3
  · exact ⟨y, mem_under.2 ⟨hy, by rw [hyp]; exact h4⟩, hyp, hyd⟩
theorem set_up (hd : L.Pairwise fun x y => x.p ≠ y.p) (hw : ∀ x ∈ L, withinA p x.p = true) {z : Txt} (hup : upT z = upT p) (hp : pathB p = true) (h : dirOK T z) : dirOK (setA T p L) z := by
  rcases h with h0 | ⟨y, hy, hyp, hyd⟩
  · exact .inl h0
  · by_cases hn : (splitL z).1 = []
    · exact .inl hn
    refine .inr ⟨y, (mem_set hd hw).2 (.inr ⟨hy, ?_⟩), hyp, hyd⟩
    rw [hyp]
    cases hq : withinA p (splitL z).1
    · rfl
    · exfalso
      have h2 := within_len hq
      have h3 := dir_len hp (by have : upT z = upT p := hup; unfold upT at this; rw [← this]; exact hn)
      have h4 : (splitL z).1 = (splitL p).1 := hup
      rw [h4] at h2
      omega
theorem name_up (hp : pathB p = true) (hq : pathB (p ++ [126]) = true) : upT (p ++ [126]) = upT p := by
  unfold upT
  rw [split_fst hp, split_fst hq]
  have e : nameL (p ++ [126]) = nameL p ++ [126] := by
    unfold nameL
    rw [List.reverse_append, List.reverse_cons, List.reverse_nil, List.nil_append, List.singleton_append, List.takeWhile_cons_of_pos (by decide), List.reverse_cons]
  have hl : (nameL p).length ≤ p.length := by
    unfold nameL
    rw [List.length_reverse]
    have h1 : (p.reverse.takeWhile (· != 47)).length ≤ p.reverse.length := (List.takeWhile_prefix _).length_le
    rw [List.length_reverse] at h1
    exact h1
  unfold dirL
  rw [e, List.length_append, List.length_append, List.length_singleton, List.take_append_of_le_length (by omega)]
  congr 1
  omega
end
end Go.Proofs.YtfbbjfbnkcklgaaGreatDoor

/- all conflicts settled, one behind the other, as plain lists -/
namespace Go.Proofs.YtfbbjfbnkcklgaaGreatDoor
open Go.RowKit

section
variable {T : List AIt} {p q : Txt}
/-- what moves to the other path may be set there -/
theorem moved_set (hT : RightW T) (hp : pathB p = true) (hall : ∀ x ∈ underA T p, pathB (mvA p q x).p = true) :
    ((underA T p).map (mvA p q)).Pairwise (fun x y => x.p ≠ y.p) ∧ (∀ x ∈ (underA T p).map (mvA p q), withinA q x.p = true) ∧ (∀ x ∈ (underA T p).map (mvA p q), okI x) ∧
      ∀ x ∈ (underA T p).map (mvA p q), x.p ≠ q → ∃ y ∈ (underA T p).map (mvA p q), y.p = upT x.p ∧ y.d = true := by
  refine ⟨?_, ?_, ?_, ?_⟩
  · rw [List.pairwise_map]
    refine List.Pairwise.imp_of_mem ?_ (under_facts hT.sorted p).1
    intro a b ha hb hne e
    obtain ⟨t, e1, e2, _⟩ := under_form (to := q) hp ha
    obtain ⟨s, e3, e4, _⟩ := under_form (to := q) hp hb
    rw [e2, e4] at e
    rw [List.append_cancel_left e] at e1
    exact hne (e1.trans e3.symm)
  · intro x hx
    obtain ⟨z, hz, rfl⟩ := List.mem_map.1 hx
    exact within_moved (path_ne hp) (mem_under.1 hz).2
  · intro x hx
    obtain ⟨z, hz, rfl⟩ := List.mem_map.1 hx
    have h1 := (hT.each z (mem_under.1 hz).1).1
    exact ⟨hall z hz, h1.2.1, h1.2.2⟩
  · intro x hx hne
    obtain ⟨z, hz, rfl⟩ := List.mem_map.1 hx
    obtain ⟨t, e1, e2, ht⟩ := under_form (to := q) hp hz
    have htn : t ≠ [] := fun e => hne (by rw [e2, e, List.append_nil])
    have hzp : z.p ≠ p := fun e => by
      rw [e] at e1
      have h1 := congrArg List.length e1
      rw [List.length_append] at h1
      exact htn (List.eq_nil_of_length_eq_zero (by omega))
    obtain ⟨y, hy, hyp, hyd⟩ := (under_in hT hp).2 z hz hzp
    obtain ⟨r, e3, e4, _⟩ := under_form (to := q) hp hy
    have hzpath := hT.path (mem_under.1 hz).1
    have hdn : dirL z.p ≠ [] := by
      have h1 := path_ne (hT.path (mem_under.1 hy).1)
      rw [hyp] at h1
      unfold upT at h1
      rwa [split_fst hzpath] at h1
    obtain ⟨m, e5, hm⟩ := dir_form hdn
    have e6 : dirL z.p = p ++ r := by
      rw [← e3, hyp]
      unfold upT
      rw [split_fst hzpath]
    have e7 : t = r ++ 47 :: m := by
      rw [e6, e1, List.append_assoc] at e5
      exact List.append_cancel_left e5
    refine ⟨mvA p q y, List.mem_map_of_mem hy, ?_, hyd⟩
    unfold upT
    rw [split_fst (hall z hz), e2, e7, ← List.append_assoc, dir_app hm, e4]
end

/-- the three trees, and their conflicts, ahead of all -/
structure Base (A B O : List AIt) (C : List Txt) : Prop where
  ra : RightP A
  rb : RightP B
  ro : RightP O
  up : sortedN C
  path : ∀ c ∈ C, pathB c = true
  da : ∀ c ∈ C, dirOK A c
  db : ∀ c ∈ C, dirOK B c
  dd : ∀ c ∈ C, dirOK O c
  apart : ∀ c ∈ C, ∀ d ∈ C, c ≠ d → withinA c d = false
  some : ∀ c ∈ C, ∃ z, (z ∈ A ∨ z ∈ B ∨ z ∈ O) ∧ z.p = c
  calm : ∀ t, (∀ c ∈ C, withinA c t = false) → findA A t = findA B t ∧ findA A t = findA O t
  conf : ∀ c ∈ C, confB O A B c = true
  len : C.length ≤ 200

structure Inv (A B O : List AIt) (T : List Txt) (v : Abs4) : Prop where
  ra : RightW v.1
  rb : RightW v.2.1
  ro : RightW v.2.2.1
  ne : ∀ u ∈ T, u ≠ []
  out : ∀ t, (∀ u ∈ T, withinA u t = false) → findA v.1 t = findA A t ∧ findA v.2.1 t = findA B t ∧ findA v.2.2.1 t = findA O t
  one : ∀ u ∈ T, ∀ t, withinA u t = true → findA v.1 t = findA v.2.1 t ∧ findA v.1 t = findA v.2.2.1 t
def putAll (v : Abs4) (p : Txt) (L : List AIt) : Abs4 := (setA v.1 p L, setA v.2.1 p L, setA v.2.2.1 p L, v.2.2.2)
/-- a list that may be set at a path -/
structure Fine (p : Txt) (L : List AIt) : Prop where
  path : pathB p = true
  once : L.Pairwise fun x y => x.p ≠ y.p
  within : ∀ x ∈ L, withinA p x.p = true
  ok : ∀ x ∈ L, okI x
  up : ∀ x ∈ L, x.p ≠ p → ∃ y ∈ L, y.p = upT x.p ∧ y.d = true
theorem Fine.nil {p : Txt} (hp : pathB p = true) : Fine p [] := ⟨hp, List.Pairwise.nil, by simp, by simp, by simp⟩
theorem Fine.under {p : Txt} {T : List AIt} (hp : pathB p = true) (hT : RightW T) : Fine p (underA T p) := ⟨hp, (under_facts hT.sorted p).1, (under_facts hT.sorted p).2, (under_in hT hp).1, (under_in hT hp).2⟩
section
variable {A B O : List AIt} {T : List Txt} {v : Abs4} {p : Txt} {L : List AIt}
theorem Inv.put (h : Inv A B O T v) (hf : Fine p L) (da : dirOK v.1 p) (db : dirOK v.2.1 p) (dd : dirOK v.2.2.1 p) : Inv A B O (p :: T) (putAll v p L) := by
  refine ⟨set_right h.ra hf.path da hf.once hf.within hf.ok hf.up, set_right h.rb hf.path db hf.once hf.within hf.ok hf.up, set_right h.ro hf.path dd hf.once hf.within hf.ok hf.up, ?_, ?_, ?_⟩
  · intro u hu
    rcases List.mem_cons.1 hu with rfl | hu
    · exact path_ne hf.path
    · exact h.ne u hu
  · intro t ht
    have h1 := ht p (by simp)
    obtain ⟨a1, a2, a3⟩ := h.out t fun u hu => ht u (List.mem_cons_of_mem _ hu)
    exact ⟨(find_set_out h.ra.sorted hf.once hf.within h1).trans a1, (find_set_out h.rb.sorted hf.once hf.within h1).trans a2, (find_set_out h.ro.sorted hf.once hf.within h1).trans a3⟩
  · intro u hu t ht
    cases hw : withinA p t
    · rcases List.mem_cons.1 hu with rfl | hu
      · rw [ht] at hw; cases hw
      · obtain ⟨a1, a2⟩ := h.one u hu t ht
        show findA (setA v.1 p L) t = findA (setA v.2.1 p L) t ∧ findA (setA v.1 p L) t = findA (setA v.2.2.1 p L) t
        rw [find_set_out h.ra.sorted hf.once hf.within hw, find_set_out h.rb.sorted hf.once hf.within hw, find_set_out h.ro.sorted hf.once hf.within hw]
        exact ⟨a1, a2⟩
    · exact ⟨find_set_in h.ra.sorted h.rb.sorted hf.once hf.within hw, find_set_in h.ra.sorted h.ro.sorted hf.once hf.within hw⟩
theorem dir_kept {X V : List AIt} {c : Txt} (hX : sortedA X) (hV : sortedA V) (ho : findA V (upT c) = findA X (upT c)) (h : dirOK X c) : dirOK V c := by
  rcases h with h0 | ⟨y, hy, hyp, hyd⟩
  · exact .inl h0
  · have h1 := (find_iff (t := upT c) hX).2 ⟨hy, hyp⟩
    rw [← ho, find_iff hV] at h1
    exact .inr ⟨y, h1.1, hyp, hyd⟩
theorem up_out {c : Txt} (hc : pathB c = true) (hd : upT c ≠ []) (hf : ∀ u ∈ T, withinA u c = false) : ∀ u ∈ T, withinA u (upT c) = false := fun u hu => by
  cases hw : withinA u (upT c)
  · rfl
  · have := within_dir hc hd hw
    rw [hf u hu] at this
    cases this
theorem Inv.dirs (h : Inv A B O T v) {C : List Txt} (hb : Base A B O C) {c : Txt} (hc : c ∈ C) (hf : ∀ u ∈ T, withinA u c = false) : dirOK v.1 c ∧ dirOK v.2.1 c ∧ dirOK v.2.2.1 c := by
  by_cases hd : upT c = []
  · exact ⟨.inl hd, .inl hd, .inl hd⟩
  obtain ⟨a1, a2, a3⟩ := h.out (upT c) (up_out (hb.path c hc) hd hf)
  exact ⟨dir_kept hb.ra.sorted h.ra.sorted a1 (hb.da c hc), dir_kept hb.rb.sorted h.rb.sorted a2 (hb.db c hc), dir_kept hb.ro.sorted h.ro.sorted a3 (hb.dd c hc)⟩
theorem Inv.under (h : Inv A B O T v) {C : List Txt} (hb : Base A B O C) {c : Txt} (hc : c ≠ []) (hf : ∀ u ∈ T, withinA u c = false ∧ withinA c u = false) : underA v.1 c = underA A c ∧ underA v.2.1 c = underA B c ∧ underA v.2.2.1 c = underA O c := by
  have key : ∀ t, withinA c t = true → ∀ u ∈ T, withinA u t = false := fun t ht u hu => by
    cases hw : withinA u t
    · rfl
    · obtain ⟨f1, f2⟩ := hf u hu
      rcases within_two hw ht (h.ne u hu) hc with h1 | h1
      · rw [h1] at f1; cases f1
      · rw [h1] at f2; cases f2
  exact ⟨(underL_eq h.ra.sorted hb.ra.sorted).2 fun t ht => (h.out t (key t ht)).1, (underL_eq h.rb.sorted hb.rb.sorted).2 fun t ht => (h.out t (key t ht)).2.1, (underL_eq h.ro.sorted hb.ro.sorted).2 fun t ht => (h.out t (key t ht)).2.2⟩
end

/-- how far all have come: D is done, R is left, T was set -/
structure Lp (A B O : List AIt) (how : Int) (N : Nat) (D R T : List Txt) (v : Abs4) : Prop where
  inv : Inv A B O T v
  left : v.2.2.2.Sublist D
  tin : ∀ u ∈ T, ∃ c ∈ D, c ∉ v.2.2.2 ∧ (u = c ∨ u = nameA c)
  tall : ∀ c ∈ D, c ∉ v.2.2.2 → c ∈ T
  far : ∀ u ∈ T, ∀ c, c ∈ v.2.2.2 ∨ c ∈ R → withinA u c = false ∧ withinA c u = false
  na : v.1.length ≤ N
  nb : v.2.1.length ≤ N
  no : v.2.2.1.length ≤ N
  none : (how = 1 ∨ how = 2 ∨ how = 4) → v.2.2.2 = []
  zero : how = 0 → T = []
  small : how = 0 ∨ how = 4 → v.1.length ≤ 60 ∧ v.2.1.length ≤ 60 ∧ v.2.2.1.length ≤ 60
section
variable {A B O : List AIt} {C D R T : List Txt} {v : Abs4} {p : Txt} {L : List AIt} {how : Int} {N : Nat}
theorem Base.mid (hb : Base A B O C) (hC : C = D ++ p :: R) : p ∉ D ∧ p ∉ R := by
  have h := hb.up
  rw [hC] at h
  unfold sortedN at h
  obtain ⟨_, h2, h3⟩ := List.pairwise_append.1 h
  refine ⟨fun hp => ?_, fun hp => ?_⟩
  · exact less_ne (h3 p hp p (by simp)) rfl
  · exact less_ne ((List.pairwise_cons.1 h2).1 p hp) rfl
theorem Lp.live (h : Lp A B O how N D (p :: R) T v) (hC : C = D ++ p :: R) {c : Txt} (hc : c ∈ v.2.2.2 ∨ c ∈ R) : c ∈ C := by
  rw [hC]
  rcases hc with hc | hc
  · exact List.mem_append_left _ (h.left.subset hc)
  · exact List.mem_append_right _ (List.mem_cons_of_mem _ hc)
theorem Lp.push (h : Lp A B O how N D (p :: R) T v) (hb : Base A B O C) (hC : C = D ++ p :: R) (hh : ¬ (how = 1 ∨ how = 2 ∨ how = 4)) : Lp A B O how N (D ++ [p]) R T (pushC v p) := by
  obtain ⟨m1, m2⟩ := hb.mid hC
  refine ⟨⟨h.inv.ra, h.inv.rb, h.inv.ro, h.inv.ne, h.inv.out, h.inv.one⟩, h.left.append (List.Sublist.refl _), ?_, ?_, ?_, h.na, h.nb, h.no, fun e => absurd e hh, h.zero, h.small⟩
  · intro u hu
    obtain ⟨c, h1, h2, h3⟩ := h.tin u hu
    refine ⟨c, List.mem_append_left _ h1, fun hc => ?_, h3⟩
    rcases List.mem_append.1 hc with hc | hc
    · exact h2 hc
    · rw [List.mem_singleton.1 hc] at h1
      exact m1 h1
  · intro c hc hn
    have hn' : c ∉ v.2.2.2 ++ [p] := hn
    rw [List.mem_append, List.mem_singleton] at hn' hc
    rcases hc with hc | hc
    · exact h.tall c hc fun e => hn' (.inl e)
    · exact absurd (.inr hc) hn'
  · intro u hu c hc
    have hc' : c ∈ v.2.2.2 ++ [p] ∨ c ∈ R := hc
    rw [List.mem_append, List.mem_singleton] at hc'
    refine h.far u hu c ?_
    rcases hc' with (hc | hc) | hc
    · exact .inl hc
    · exact .inr (by rw [hc]; simp)
    · exact .inr (List.mem_cons_of_mem _ hc)
theorem Lp.put (h : Lp A B O how N D (p :: R) T v) (hb : Base A B O C) (hC : C = D ++ p :: R) (hf : Fine p L) (hL : L.length ≤ 60) (h0 : how ≠ 0) (h4 : how = 4 → L = []) : Lp A B O how (N + 60) (D ++ [p]) R (p :: T) (putAll v p L) := by
  obtain ⟨m1, m2⟩ := hb.mid hC
  have hpC : p ∈ C := by rw [hC]; simp
  have hpf : ∀ u ∈ T, withinA u p = false := fun u hu => (h.far u hu p (.inr (by simp))).1
  obtain ⟨d1, d2, d3⟩ := h.inv.dirs hb hpC hpf
  have n1 := set_len_le v.1 p L
  have n2 := set_len_le v.2.1 p L
  have n3 := set_len_le v.2.2.1 p L
  have k1 := h.na
  have k2 := h.nb
  have k3 := h.no
  refine ⟨h.inv.put hf d1 d2 d3, h.left.trans (List.sublist_append_left _ _), ?_, ?_, ?_, by show (setA v.1 p L).length ≤ _; omega, by show (setA v.2.1 p L).length ≤ _; omega, by show (setA v.2.2.1 p L).length ≤ _; omega, h.none, fun e => absurd e h0, ?_⟩
  · intro u hu
    rcases List.mem_cons.1 hu with rfl | hu
    · exact ⟨u, by simp, fun hc => m1 (h.left.subset hc), .inl rfl⟩
    · obtain ⟨c, c1, c2, c3⟩ := h.tin u hu
      exact ⟨c, List.mem_append_left _ c1, c2, c3⟩
  · intro c hc hn
    rw [List.mem_append, List.mem_singleton] at hc
    rcases hc with hc | hc
    · exact List.mem_cons_of_mem _ (h.tall c hc hn)
    · rw [hc]; simp
  · intro u hu c hc
    rcases List.mem_cons.1 hu with rfl | hu
    · have hcC := h.live hC hc
      have hne : c ≠ u := fun e => by
        rcases hc with hc | hc
        · rw [e] at hc; exact m1 (h.left.subset hc)
        · rw [e] at hc; exact m2 hc
      exact ⟨hb.apart u hpC c hcC hne.symm, hb.apart c hcC u hpC hne⟩
    · exact h.far u hu c (hc.imp id (List.mem_cons_of_mem _))
  · rintro (e | e)
    · exact absurd e h0
    · obtain ⟨s1, s2, s3⟩ := h.small (.inr e)
      have e2 := h4 e
      rw [e2, List.length_nil] at n1 n2 n3
      rw [e2]
      exact ⟨by show (setA v.1 p []).length ≤ _; omega, by show (setA v.2.1 p []).length ≤ _; omega, by show (setA v.2.2.1 p []).length ≤ _; omega⟩
theorem Lp.weaken {M : Nat} (h : Lp A B O how N D R T v) (hM : N ≤ M) : Lp A B O how M D R T v :=
  ⟨h.inv, h.left, h.tin, h.tall, h.far, Nat.le_trans h.na hM, Nat.le_trans h.nb hM, Nat.le_trans h.no hM, h.none, h.zero, h.small⟩
theorem Lp.far_p (h : Lp A B O how N D (p :: R) T v) : ∀ u ∈ T, withinA u p = false ∧ withinA p u = false := fun u hu => h.far u hu p (.inr (by simp))
theorem Lp.unders (h : Lp A B O how N D (p :: R) T v) (hb : Base A B O C) (hC : C = D ++ p :: R) : underA v.1 p = underA A p ∧ underA v.2.1 p = underA B p ∧ underA v.2.2.1 p = underA O p :=
  h.inv.under hb (path_ne (hb.path p (by rw [hC]; simp))) h.far_p
theorem first_put (hs : sortedA v.1) : firstA v p = putAll v p (underA v.1 p) := by
  unfold firstA putAll
  rw [set_same hs]
theorem second_put (hs : sortedA v.2.1) : secondA v p = putAll v p (underA v.2.1 p) := by
  unfold secondA putAll
  rw [set_same hs]
/-- the other path, too -/
theorem Lp.other (h : Lp A B O how N D (p :: R) T v) (hb : Base A B O C) (hC : C = D ++ p :: R) (h3 : how = 3) (hok : bothOk v p = true) : Lp A B O how (N + 60 + 60) (D ++ [p]) R (nameA p :: p :: T) (bothA v p) := by
  have hpC : p ∈ C := by rw [hC]; simp
  have hp := hb.path p hpC
  obtain ⟨m1, m2⟩ := hb.mid hC
  obtain ⟨u1, u2, u3⟩ := h.unders hb hC
  unfold bothOk at hok
  simp only [Bool.and_eq_true, Bool.not_eq_true', List.isEmpty_eq_false_iff] at hok
  obtain ⟨⟨⟨⟨k1, k2⟩, k3⟩, k4⟩, k5⟩ := hok
  have hq : nameA p = p ++ [126] ∧ pathB (p ++ [126]) = true := by
    unfold nameA at k1 ⊢
    split at k1
    · rename_i hh
      rw [if_pos hh]
      exact ⟨rfl, hh.2⟩
    · exact absurd rfl k1
  have hqp : pathB (nameA p) = true := by rw [hq.1]; exact hq.2
  have hup : upT (nameA p) = upT p := by rw [hq.1]; exact name_up hp hq.2
  have hlen : (underA v.1 p).length ≤ 60 := by
    rw [u1]
    exact Nat.le_trans (List.length_filter_le _ _) hb.ra.len
  have hlen2 : ((underA v.2.1 p).map (mvA p (nameA p))).length ≤ 60 := by
    rw [List.length_map, u2]
    exact Nat.le_trans (List.length_filter_le _ _) hb.rb.len
  have hfin := Fine.under hp h.inv.ra
  have hl1 := h.put hb hC hfin hlen (by omega) (by omega)
  have hall : ∀ x ∈ underA v.2.1 p, pathB (mvA p (nameA p) x).p = true := fun x hx => List.all_eq_true.1 k5 x hx
  obtain ⟨f1, f2, f3, f4⟩ := moved_set h.inv.rb hp hall
  have hfm : Fine (nameA p) ((underA v.2.1 p).map (mvA p (nameA p))) := ⟨hqp, f1, f2, f3, f4⟩
  obtain ⟨d1, d2, d3⟩ := h.inv.dirs hb hpC fun u hu => (h.far_p u hu).1
  have dq : ∀ X : List AIt, dirOK X p → dirOK X (nameA p) := fun X hX => by
    have e : (splitL (nameA p)).1 = (splitL p).1 := hup
    unfold dirOK at hX ⊢
    rw [e]
    exact hX
  have e1 := set_up (T := v.1) hfin.once hfin.within hup hp (dq _ d1)
  have e2 := set_up (T := v.2.1) hfin.once hfin.within hup hp (dq _ d2)
  have e3 := set_up (T := v.2.2.1) hfin.once hfin.within hup hp (dq _ d3)
  have hbe : bothA v p = putAll (putAll v p (underA v.1 p)) (nameA p) ((underA v.2.1 p).map (mvA p (nameA p))) := by
    unfold bothA
    rw [first_put h.inv.ra.sorted]
    rfl
  rw [hbe]
  have n1 := set_len_le (putAll v p (underA v.1 p)).1 (nameA p) ((underA v.2.1 p).map (mvA p (nameA p)))
  have n2 := set_len_le (putAll v p (underA v.1 p)).2.1 (nameA p) ((underA v.2.1 p).map (mvA p (nameA p)))
  have n3 := set_len_le (putAll v p (underA v.1 p)).2.2.1 (nameA p) ((underA v.2.1 p).map (mvA p (nameA p)))
  have q1 := hl1.na
  have q2 := hl1.nb
  have q3 := hl1.no
  unfold freeB at k4
  simp only [Bool.and_eq_true, List.isEmpty_iff] at k4
  obtain ⟨⟨z1, z2⟩, z3⟩ := k4
  refine ⟨hl1.inv.put hfm e1 e2 e3, hl1.left, ?_, ?_, ?_, by show (setA _ _ _).length ≤ _; omega, by show (setA _ _ _).length ≤ _; omega, by show (setA _ _ _).length ≤ _; omega, by omega, by omega, by omega⟩
  · intro u hu
    rcases List.mem_cons.1 hu with rfl | hu
    · exact ⟨p, by simp, fun hc => m1 (h.left.subset hc), .inr rfl⟩
    · exact hl1.tin u hu
  · intro c hc hn
    exact List.mem_cons_of_mem _ (hl1.tall c hc hn)
  · intro u hu c hc
    rcases List.mem_cons.1 hu with rfl | hu
    · have hcl : c ∈ v.2.2.2 ∨ c ∈ R := hc
      have hcC := h.live hC hcl
      have hne : c ≠ p := fun e => by
        rcases hcl with hc | hc
        · rw [e] at hc; exact m1 (h.left.subset hc)
        · rw [e] at hc; exact m2 hc
      have hcn := path_ne (hb.path c hcC)
      obtain ⟨w1, w2, w3⟩ := h.inv.under hb hcn fun u hu => h.far u hu c (hcl.imp id (List.mem_cons_of_mem _))
      have hqc : withinA (nameA p) c = false := by
        cases hw : withinA (nameA p) c
        · rfl
        · exfalso
          obtain ⟨z, hz, hzp⟩ := hb.some c hcC
          have key : ∀ {X V : List AIt}, z ∈ X → underA V c = underA X c → underA V (nameA p) = [] → False := fun {X V} hzX hu he => by
            have h1 : z ∈ underA X c := mem_under.2 ⟨hzX, by rw [hzp]; exact within_self c⟩
            rw [← hu] at h1
            have h2 : z ∈ underA V (nameA p) := mem_under.2 ⟨(mem_under.1 h1).1, by rw [hzp]; exact hw⟩
            rw [he] at h2
            cases h2
          rcases hz with hz | hz | hz
          · exact key hz w1 z1
          · exact key hz w2 z2
          · exact key hz w3 z3
      refine ⟨hqc, ?_⟩
      cases hw : withinA c (nameA p)
      · rfl
      · exfalso
        have hcq : c ≠ nameA p := fun e => by rw [e, within_self] at hqc; cases hqc
        obtain ⟨g1, g2⟩ := within_up hqp hcn hcq hw
        have e : (splitL (nameA p)).1 = (splitL p).1 := hup
        rw [e] at g1 g2
        have h5 := within_dir hp g1 g2
        rw [hb.apart c hcC p hpC hne] at h5
        cases h5
    · exact hl1.far u hu c hc
theorem Lp.step (h : Lp A B O how N D (p :: R) T v) (hb : Base A B O C) (hC : C = D ++ p :: R) (hh : howB how = true) : ∃ T', Lp A B O how (N + 120) (D ++ [p]) R T' (stepS how v p) := by
  have hpC : p ∈ C := by rw [hC]; simp
  have hp := hb.path p hpC
  obtain ⟨u1, u2, u3⟩ := h.unders hb hC
  unfold howB at hh
  rw [Bool.and_eq_true, decide_eq_true_eq, decide_eq_true_eq] at hh
  by_cases h1 : how = 1
  · subst h1
    have e : stepS 1 v p = putAll v p (underA v.1 p) := by
      show firstA v p = _
      exact first_put h.inv.ra.sorted
    rw [e]
    exact ⟨_, (h.put hb hC (Fine.under hp h.inv.ra) (by rw [u1]; exact Nat.le_trans (List.length_filter_le _ _) hb.ra.len) (by omega) (by omega)).weaken (by omega)⟩
  by_cases h2 : how = 2
  · subst h2
    have e : stepS 2 v p = putAll v p (underA v.2.1 p) := by
      show secondA v p = _
      exact second_put h.inv.rb.sorted
    rw [e]
    exact ⟨_, (h.put hb hC (Fine.under hp h.inv.rb) (by rw [u2]; exact Nat.le_trans (List.length_filter_le _ _) hb.rb.len) (by omega) (by omega)).weaken (by omega)⟩
  by_cases h3 : how = 3
  · subst h3
    cases hok : bothOk v p
    · have e : stepS 3 v p = pushC v p := by
        show (if bothOk v p = true then bothR v p else pushC (bothR v p) p) = _
        unfold bothR
        rw [hok]
        rfl
      rw [e]
      exact ⟨_, (h.push hb hC (by omega)).weaken (by omega)⟩
    · have e : stepS 3 v p = bothA v p := by
        show (if bothOk v p = true then bothR v p else pushC (bothR v p) p) = _
        unfold bothR
        rw [hok]
        rfl
      rw [e]
      exact ⟨_, (h.other hb hC rfl hok).weaken (by omega)⟩
  by_cases h4 : how = 4
  · subst h4
    have e : stepS 4 v p = putAll v p [] := rfl
    rw [e]
    exact ⟨_, (h.put hb hC (Fine.nil hp) (by simp) (by omega) (fun _ => rfl)).weaken (by omega)⟩
  · have e : stepS how v p = pushC v p := by
      unfold stepS oneA
      rw [if_neg h1, if_neg h2, if_neg h3, if_neg h4]
      rfl
    rw [e]
    exact ⟨_, (h.push hb hC (by omega)).weaken (by omega)⟩
theorem Lp.start (hb : Base A B O C) (how : Int) : Lp A B O how 60 [] C [] (A, B, O, []) :=
  ⟨⟨hb.ra.w, hb.rb.w, hb.ro.w, by simp, fun _ _ => ⟨rfl, rfl, rfl⟩, by simp⟩, List.Sublist.refl _, by simp, by simp, by simp, hb.ra.len, hb.rb.len, hb.ro.len, fun _ => rfl, fun _ => rfl, fun _ => ⟨hb.ra.len, hb.rb.len, hb.ro.len⟩⟩
theorem lp_all (hb : Base A B O C) (hh : howB how = true) : ∀ j ≤ C.length, ∃ T, Lp A B O how (60 + 120 * j) (C.take j) (C.drop j) T (settleL how (C.take j) (A, B, O, [])) := by
  intro j
  induction j with
  | zero => intro _; exact ⟨[], Lp.start hb how⟩
  | succ j ih =>
    intro hj
    obtain ⟨T, h⟩ := ih (by omega)
    have hlt : j < C.length := by omega
    rw [List.drop_eq_getElem_cons hlt] at h
    obtain ⟨T', h'⟩ := h.step hb (by rw [← List.drop_eq_getElem_cons hlt, List.take_append_drop]) hh
    refine ⟨T', ?_⟩
    have e1 : C.take (j + 1) = C.take j ++ [C[j]] := by rw [List.take_add_one, List.getElem?_eq_getElem hlt]; rfl
    rw [e1]
    have e2 : settleL how (C.take j ++ [C[j]]) (A, B, O, []) = stepS how (settleL how (C.take j) (A, B, O, [])) C[j] := by
      unfold settleL
      rw [List.foldl_append]
      rfl
    rw [e2]
    exact h'.weaken (by omega)
end
end Go.Proofs.YtfbbjfbnkcklgaaGreatDoor

/- settled trees: alike, merged again, beside the conflicts -/
namespace Go.Proofs.YtfbbjfbnkcklgaaGreatDoor
open Go.RowKit

section
variable {o a b : List AIt} {L : List Txt}
/-- trees that differ at conflicts alone are merged to themselves -/
theorem calm_conf (h : Right3 o a b) (hp : ∀ c ∈ L, pathB c = true) (h3 : ∀ c ∈ L, confB o a b c = true) (hd : ∀ c ∈ L, dirOK a c ∧ dirOK b c) {c : Txt} (hc : c ∈ L) : c ∈ mgCs o a b := by
  obtain ⟨k1, k2, k3⟩ := conf_parts (h3 c hc)
  have hcn := path_ne (hp c hc)
  have hU : inU o a b c := by
    have hne := (take_parts.1 k1).1
    have key : ∀ {X : List AIt}, RightP X → underA X c ≠ [] → ∃ x ∈ X, x.p = c := fun {X} hX he => by
      obtain ⟨z, hz⟩ := List.exists_mem_of_ne_nil _ he
      obtain ⟨hz1, hz2⟩ := mem_under.1 hz
      by_cases e : c = z.p
      · exact ⟨z, hz1, e.symm⟩
      · obtain ⟨y, hy, hyp, _⟩ := right_above hX hcn z.p.length z (Nat.le_refl _) hz1 hz2 e
        exact ⟨y, hy, hyp⟩
    by_cases ha : underA a c = []
    · exact .inr (.inr (key h.b fun e => hne (by rw [ha, e])))
    · exact .inr (.inl (key h.a ha))
  refine (mem_Cs h).2 ⟨⟨hU, within_self c, ?_, fun r hr hw hne => ?_⟩, h3 c hc⟩
  · unfold descB
    rw [k3]
    simp
  · have hrn := path_ne (h.pathU hr)
    have t1 := take_parts.1 k1
    have t2 := first_part.1 k2
    have d1 : takeA o a b r = false := take_parts.2 ⟨fun e => t1.1 (under_sub h.a.sorted h.b.sorted hcn hw e), fun e => t1.2 (under_sub h.b.sorted h.o.sorted hcn hw e)⟩
    have d2 : firstO o a r = false := first_part.2 fun e => t2 (under_sub h.a.sorted h.o.sorted hcn hw e)
    obtain ⟨g1, g2⟩ := within_up (hp c hc) hrn hne hw
    have key : ∀ {X : List AIt}, RightP X → dirOK X c → foundDir X r = true := fun {X} hX he => by
      rcases he with h0 | ⟨y, hy, hyp, hyd⟩
      · exact absurd h0 g1
      · rw [← hyp] at g2
        by_cases e : r = y.p
        · unfold foundDir
          rw [e, find_of_mem hX.sorted hy]
          exact hyd
        · obtain ⟨x, hx, hxp, hxd⟩ := right_above hX hrn y.p.length y (Nat.le_refl _) hy g2 e
          unfold foundDir
          rw [← hxp, find_of_mem hX.sorted hx]
          exact hxd
    obtain ⟨e1, e2⟩ := hd c hc
    unfold descB bothD
    rw [d1, d2, key h.a e1, key h.b e2]
    rfl
theorem calm_again (h : Right3 o a b) (hp : ∀ c ∈ L, pathB c = true) (h2 : ∀ t, (∀ c ∈ L, withinA c t = false) → findA a t = findA b t ∧ findA a t = findA o t) (h3 : ∀ c ∈ L, confB o a b c = true) (hd : ∀ c ∈ L, dirOK a c ∧ dirOK b c) :
    (∀ c, c ∈ mgCs o a b ↔ c ∈ L) ∧ mA o a b = a ∧ mB o a b = b ∧ mO o a b = o := by
  have hin : ∀ c ∈ L, c ∈ mgCs o a b := fun c hc => calm_conf h hp h3 hd hc
  have hiff : ∀ c, c ∈ mgCs o a b ↔ c ∈ L := fun c => by
    refine ⟨fun hc => ?_, hin c⟩
    obtain ⟨k1, k2⟩ := (mem_Cs h).1 hc
    have hne := (take_parts.1 (conf_parts k2).1).1
    have hcn := path_ne (h.pathU k1.1)
    apply Classical.byContradiction
    intro hnL
    apply hne
    refine (underL_eq h.a.sorted h.b.sorted).2 fun t ht => (h2 t fun d hdL => ?_).1
    cases hw : withinA d t
    · rfl
    · exfalso
      have hdne : d ≠ c := fun e => hnL (by rw [← e]; exact hdL)
      rcases within_two hw ht (path_ne (hp d hdL)) hcn with h5 | h5
      · rw [conf_apart h (hin d hdL) hc hdne] at h5; cases h5
      · rw [conf_apart h hc (hin d hdL) hdne.symm] at h5; cases h5
  have key : ∀ t, findA (mA o a b) t = findA a t ∧ findA (mB o a b) t = findA b t ∧ findA (mO o a b) t = findA o t := fun t => by
    by_cases hx : ∃ c ∈ L, withinA c t = true
    · obtain ⟨c, hc, hw⟩ := hx
      exact spec_in h (hin c hc) hw
    · have hx' : ∀ c ∈ L, withinA c t = false := fun c hc => by
        cases hw : withinA c t
        · rfl
        · exact absurd ⟨c, hc, hw⟩ hx
      obtain ⟨e1, e2, e3, _⟩ := spec_out h (t := t) fun c hc => hx' c ((hiff c).1 hc)
      obtain ⟨f1, f2⟩ := h2 t hx'
      have e4 := e3 f2
      exact ⟨e4.trans f1.symm, e1.symm.trans e4, e2.symm.trans (e4.trans (f1.symm.trans f2))⟩
  exact ⟨hiff, find_ext (mgT_sorted _ _ _ _) h.a.sorted fun t => (key t).1, find_ext (mgT_sorted _ _ _ _) h.b.sorted fun t => (key t).2.1, find_ext (mgT_sorted _ _ _ _) h.o.sorted fun t => (key t).2.2⟩
end

section
variable {A B O : List AIt} {C T : List Txt} {v : Abs4} {how : Int} {N : Nat}
theorem Lp.bnd {D R : List Txt} (h : Lp A B O how N D R T v) (hN : N ≤ 30000) (hD : D.length ≤ 30000) : Bnd v :=
  ⟨Nat.le_trans h.na hN, Nat.le_trans h.nb hN, Nat.le_trans h.no hN, Nat.le_trans h.left.length_le hD, h.inv.ra.sorted, h.inv.rb.sorted, h.inv.ro.sorted, fun y hy => by have := pathB_short (h.inv.rb.path hy); omega⟩
theorem Lp.calm (h : Lp A B O how N C [] T v) (hb : Base A B O C) : ∀ t, (∀ c ∈ v.2.2.2, withinA c t = false) → findA v.1 t = findA v.2.1 t ∧ findA v.1 t = findA v.2.2.1 t := by
  intro t ht
  by_cases hx : ∃ u ∈ T, withinA u t = true
  · obtain ⟨u, hu, hw⟩ := hx
    exact h.inv.one u hu t hw
  · have hx' : ∀ u ∈ T, withinA u t = false := fun u hu => by
      cases hw : withinA u t
      · rfl
      · exact absurd ⟨u, hu, hw⟩ hx
    obtain ⟨a1, a2, a3⟩ := h.inv.out t hx'
    obtain ⟨c1, c2⟩ := hb.calm t fun c hc => by
      by_cases hl : c ∈ v.2.2.2
      · exact ht c hl
      · exact hx' c (h.tall c hc hl)
    rw [a1, a2, a3]
    exact ⟨c1, c2⟩
/-- with the first, the second, or none taken all three are the same -/
theorem Lp.alike (h : Lp A B O how N C [] T v) (hb : Base A B O C) (hh : how = 1 ∨ how = 2 ∨ how = 4) : v.2.2.2 = [] ∧ v.1 = v.2.1 ∧ v.1 = v.2.2.1 := by
  have h0 := h.none hh
  have hc := h.calm hb
  rw [h0] at hc
  exact ⟨h0, find_ext h.inv.ra.sorted h.inv.rb.sorted fun t => (hc t (by simp)).1, find_ext h.inv.ra.sorted h.inv.ro.sorted fun t => (hc t (by simp)).2⟩
theorem left_sorted (h : Lp A B O how N C [] T v) (hb : Base A B O C) : sortedN v.2.2.2 := hb.up.sublist h.left
/-- left, all is as it was -/
theorem Lp.as_was (h : Lp A B O how N C [] T v) (hb : Base A B O C) (hh : how = 0) : v = (A, B, O, C) := by
  have h0 := h.zero hh
  have ho := h.inv.out
  rw [h0] at ho
  have e1 : v.1 = A := find_ext h.inv.ra.sorted hb.ra.sorted fun t => (ho t (by simp)).1
  have e2 : v.2.1 = B := find_ext h.inv.rb.sorted hb.rb.sorted fun t => (ho t (by simp)).2.1
  have e3 : v.2.2.1 = O := find_ext h.inv.ro.sorted hb.ro.sorted fun t => (ho t (by simp)).2.2
  have e4 : v.2.2.2 = C := sortedN_ext (left_sorted h hb) hb.up fun c => ⟨fun hc => h.left.subset hc, fun hc => by
    apply Classical.byContradiction
    intro hn
    have := h.tall c hc hn
    rw [h0] at this
    cases this⟩
  obtain ⟨v1, v2, v3, v4⟩ := v
  simp only at e1 e2 e3 e4
  rw [e1, e2, e3, e4]
/-- merged once more all is as it is -/
theorem Lp.again (h : Lp A B O how N C [] T v) (hb : Base A B O C) (hs : bigS v = false) : mOut v.2.2.1 v.1 v.2.1 = ⟨v.1, v.2.1, v.2.2.1, v.2.2.2, 0⟩ ∧ RightP v.1 ∧ RightP v.2.1 ∧ RightP v.2.2.1 := by
  unfold bigS at hs
  have hl := of_decide_eq_false hs
  have r1 := h.inv.ra.right (by omega)
  have r2 := h.inv.rb.right (by omega)
  have r3 := h.inv.ro.right (by omega)
  have h3 : Right3 v.2.2.1 v.1 v.2.1 := ⟨r3, r1, r2⟩
  have hin : ∀ c ∈ v.2.2.2, c ∈ C := fun c hc => h.left.subset hc
  have hfar : ∀ c ∈ v.2.2.2, ∀ u ∈ T, withinA u c = false ∧ withinA c u = false := fun c hc u hu => h.far u hu c (.inl hc)
  obtain ⟨k1, k2, k3, k4⟩ := calm_again h3 (L := v.2.2.2) (fun c hc => hb.path c (hin c hc)) (h.calm hb) (fun c hc => by
    have hcn := path_ne (hb.path c (hin c hc))
    obtain ⟨u1, u2, u3⟩ := h.inv.under hb hcn (hfar c hc)
    obtain ⟨f1, f2, f3⟩ := h.inv.out c fun u hu => (hfar c hc u hu).1
    have := hb.conf c (hin c hc)
    unfold confB takeA firstO bothD foundDir at this ⊢
    rw [u1, u2, u3, f1, f2]
    exact this) (fun c hc => by
    obtain ⟨d1, d2, _⟩ := h.inv.dirs hb (hin c hc) fun u hu => (hfar c hc u hu).1
    exact ⟨d1, d2⟩)
  have hbig : bigB v.2.2.1 v.1 v.2.1 = false := by
    unfold bigB
    rw [show mgT v.2.2.1 v.1 v.2.1 (selA v.2.2.1 v.1 v.2.1) = v.1 from k2, show mgT v.2.2.1 v.1 v.2.1 (selB v.2.2.1 v.1 v.2.1) = v.2.1 from k3, show mgT v.2.2.1 v.1 v.2.1 (selO v.2.2.1 v.1 v.2.1) = v.2.2.1 from k4]
    exact hs
  have hms : mgS v.2.2.1 v.1 v.2.1 = v.2.2.2 := sortedN_ext mgS_sorted (left_sorted h hb) fun c => by rw [mem_mgS]; exact k1 c
  refine ⟨?_, r1, r2, r3⟩
  rw [out_is h3 hbig, k2, k3, k4, hms]
def besideL (C : List Txt) : List Txt := C ++ (C.map nameA).filter fun q => !q.isEmpty
/-- beside the conflicts, and their other paths, nothing changes -/
theorem Lp.beside (h : Lp A B O how N C [] T v) (hb : Base A B O C) : restA v.1 (besideL C) = restA A (besideL C) ∧ restA v.2.1 (besideL C) = restA B (besideL C) := by
  have hT : ∀ u ∈ T, u ∈ besideL C := fun u hu => by
    obtain ⟨c, hc, _, e⟩ := h.tin u hu
    unfold besideL
    rcases e with rfl | rfl
    · exact List.mem_append_left _ hc
    · refine List.mem_append_right _ (List.mem_filter.2 ⟨List.mem_map_of_mem hc, ?_⟩)
      have := h.inv.ne _ hu
      simpa using this
  have key : ∀ {X V : List AIt}, sortedA X → sortedA V → (∀ t, (∀ u ∈ T, withinA u t = false) → findA V t = findA X t) → restA V (besideL C) = restA X (besideL C) := fun {X V} hX hV he => by
    refine sorted_ext (hV.filter _) (hX.filter _) fun z => ?_
    rw [mem_rest, mem_rest]
    have hz : (∀ c ∈ besideL C, withinA c z.p = false) → findA V z.p = findA X z.p := fun hc => he z.p fun u hu => hc u (hT u hu)
    constructor
    · rintro ⟨h1, h2⟩
      have h3 := find_of_mem hV h1
      rw [hz h2, find_iff hX] at h3
      exact ⟨h3.1, h2⟩
    · rintro ⟨h1, h2⟩
      have h3 := find_of_mem hX h1
      rw [← hz h2, find_iff hV] at h3
      exact ⟨h3.1, h2⟩
  exact ⟨key hb.ra.sorted h.inv.ra.sorted fun t ht => (h.inv.out t ht).1, key hb.rb.sorted h.inv.rb.sorted fun t ht => (h.inv.out t ht).2.1⟩
theorem Lp.fits60 {D R : List Txt} (h : Lp A B O how N D R T v) (hh : how = 0 ∨ how = 4) : bigS v = false := by
  obtain ⟨h1, h2, h3⟩ := h.small hh
  unfold bigS
  exact decide_eq_false (by omega)
end

section
variable {o a b : List AIt}
/-- what Merge answers is such a beginning -/
theorem base_of (h : Right3 o a b) (hbig : bigB o a b = false) : Base (mA o a b) (mB o a b) (mO o a b) (mgS o a b) := by
  unfold bigB at hbig
  have hl := of_decide_eq_false hbig
  have ra := right_mgT h (sel_A o a b) (by omega)
  have rb := right_mgT h (sel_B o a b) (by omega)
  have ro := right_mgT h (sel_O o a b) (by omega)
  have h' : Right3 (mO o a b) (mA o a b) (mB o a b) := ⟨ro, ra, rb⟩
  have hdir : ∀ (s : Txt → List AIt), Sel o a b s → ∀ c ∈ mgS o a b, dirOK (mgT o a b s) c := fun s hs c hc => by
    have h1 := ((mem_Cs h).1 (mem_mgS.1 hc)).1
    by_cases hd : upT c = []
    · exact .inl hd
    · exact .inr ⟨⟨upT c, true, []⟩, (mem_mgT h hs).2 (.inl ⟨stop_up h h1, up_in h h1.1 hd, rfl⟩), rfl, rfl⟩
  refine ⟨ra, rb, ro, mgS_sorted, fun c hc => conf_path h hc, hdir _ (sel_A o a b), hdir _ (sel_B o a b), hdir _ (sel_O o a b), fun c hc d hd hne => conf_apart h (mem_mgS.1 hc) (mem_mgS.1 hd) hne, fun c hc => ?_, fun t ht => ?_, fun c hc => ?_, ?_⟩
  · rcases conf_inU' h (mem_mgS.1 hc) with ⟨x, hx, e⟩ | ⟨x, hx, e⟩ | ⟨x, hx, e⟩
    · exact ⟨x, .inr (.inr hx), e⟩
    · exact ⟨x, .inl hx, e⟩
    · exact ⟨x, .inr (.inl hx), e⟩
  · obtain ⟨e1, e2, _⟩ := spec_out h (t := t) fun c hc => ht c (mem_mgS.2 hc)
    exact ⟨e1, e2⟩
  · exact ((mem_Cs h').1 ((again_Cs h h').2 (mem_mgS.1 hc))).2
  · have h1 := mgCs_len h
    have h2 := h.o.len
    have h3 := h.a.len
    have h4 := h.b.len
    have h5 : (mgS o a b).length ≤ (mgCs o a b).length := by
      have hnd : (mgS o a b).Nodup := (mgS_sorted (o := o) (a := a) (b := b)).imp fun h => less_ne h
      exact List.Nodup.length_le_of_subset hnd fun c hc => mem_mgS.1 hc
    omega
end
/-- a result that Merge made fits -/
theorem Base.fit {A B O : List AIt} {C : List Txt} (h : Base A B O C) : Fit (A, B, O, C) := by
  have hd : ∀ {X : List AIt}, RightP X → ∀ c, dirOK X c → holdsB X c = true := fun {X} hX c hc => by
    unfold holdsB
    rcases hc with h0 | ⟨y, hy, hyp, hyd⟩
    · rw [h0]; rfl
    · rw [Bool.or_eq_true]
      right
      unfold foundDir
      rw [← hyp, find_of_mem hX.sorted hy]
      exact hyd
  refine ⟨right_iff.2 h.ra, right_iff.2 h.rb, right_iff.2 h.ro, h.path, fun c hc => hd h.ra c (h.da c hc), fun c hc => hd h.rb c (h.db c hc), fun c hc => hd h.ro c (h.dd c hc), ?_⟩
  have h1 : C.Pairwise fun c d => Op.bytesLess c d = true ∧ (c ∈ C ∧ d ∈ C) := by
    have h2 := h.up
    unfold sortedN at h2
    exact (List.pairwise_iff_forall_sublist.2 fun {c d} hs => ⟨List.pairwise_iff_forall_sublist.1 h2 hs, hs.subset (by simp), hs.subset (by simp)⟩)
  refine h1.imp fun {c d} hcd => ⟨hcd.1, ?_⟩
  cases hp : prefB (c ++ [47]) d
  · rfl
  · exfalso
    have h3 := pref_app hp
    have h4 : withinA c d = true := within_iff.2 (.inr (.inr ⟨d.drop (c ++ [47]).length, by
      have h5 := h3
      rw [List.append_assoc] at h5
      exact h5.symm⟩))
    rw [h.apart c hcd.2.1 d hcd.2.2 (less_ne hcd.1)] at h4
    cases h4
end Go.Proofs.YtfbbjfbnkcklgaaGreatDoor

/- Settle at what Merge answers -/
namespace Go.Proofs.YtfbbjfbnkcklgaaGreatDoor
open Go.RowKit

theorem once_of {L : List ByteArray} (h : sortedN (L.map fun z : ByteArray => z.toList)) : Once L := by
  unfold sortedN at h
  rw [List.pairwise_map] at h
  exact h.imp fun h => less_ne h
/-- what Settle makes of what Merge answers -/
def stO (how : Int) (o a b : List AIt) : Abs4 := settleL how (mgS o a b) (mA o a b, mB o a b, mO o a b, [])
theorem lp_of {o a b : List AIt} {how : Int} (hr : Right3 o a b) (hbig : bigB o a b = false) (hh : howB how = true) : ∃ T N, N ≤ 30000 ∧ Lp (mA o a b) (mB o a b) (mO o a b) how N (mgS o a b) [] T (stO how o a b) := by
  have hb := base_of hr hbig
  obtain ⟨T, h⟩ := lp_all hb hh _ (Nat.le_refl _)
  rw [List.take_length, List.drop_length] at h
  have := hb.len
  exact ⟨T, _, by omega, h⟩
theorem settle_ri {x : RI} {w : World} {o a b : List AIt} (hx : RIok w x) (hr : Right3 o a b) (hbig : bigB o a b = false) (he : x.abs = (mA o a b, mB o a b, mO o a b, mgS o a b)) {how : Int} (hh : howB how = true) :
    Calls Tryz.prog 25 #[.agg #[.slice x.a.A x.a.l.length x.a.c, .slice x.b.A x.b.l.length x.b.c, .slice x.o.A x.o.l.length x.o.c, .slice x.cA x.LC.length x.cc], .int .i64 how] w fun e w' => ((bigS (stO how o a b) = true ∧ e = .returned (.tuple #[.agg #[.slice none 0 0, .slice none 0 0, .slice none 0 0, .slice none 0 0], .int .i64 2])) ∨ (bigS (stO how o a b) = false ∧ ∃ y : RI, e = .returned (.tuple #[.agg #[.slice y.a.A y.a.l.length y.a.c, .slice y.b.A y.b.l.length y.b.c, .slice y.o.A y.o.l.length y.o.c, .slice y.cA y.LC.length y.cc], .int .i64 0]) ∧ RIok w' y ∧ y.abs = stO how o a b)) ∧ Below w.heap.size w w' := by
  have hb := base_of hr hbig
  have h2 := he
  unfold RI.abs at h2
  simp only [Prod.mk.injEq] at h2
  obtain ⟨e1, e2, e3, e4⟩ := h2
  have hst : start x = (mA o a b, mB o a b, mO o a b, []) := by unfold start; rw [e1, e2, e3]
  have hL : x.LC.length = (mgS o a b).length := by rw [← e4, List.length_map]
  have hlen := hb.len
  have hw := settle_walk x how w hx (by rw [he]; exact hb.fit) hh (once_of (by rw [e4]; exact hb.up)) (by omega) (fun j hj => by
    rw [hst, e4]
    obtain ⟨T, h⟩ := lp_all hb hh j (by omega)
    exact h.bnd (by omega) (by rw [List.length_take]; omega))
  unfold SetOk at hw
  rw [hst, e4] at hw
  exact hw
/-- a result that is small enough is as the law says -/
theorem st_again {o a b : List AIt} {how : Int} (hr : Right3 o a b) (hbig : bigB o a b = false) (hh : howB how = true) (hs : bigS (stO how o a b) = false) : mOut (stO how o a b).2.2.1 (stO how o a b).1 (stO how o a b).2.1 = ⟨(stO how o a b).1, (stO how o a b).2.1, (stO how o a b).2.2.1, (stO how o a b).2.2.2, 0⟩ ∧ RightP (stO how o a b).1 ∧ RightP (stO how o a b).2.1 ∧ RightP (stO how o a b).2.2.1 := by
  obtain ⟨T, N, hN, h⟩ := lp_of hr hbig hh
  exact h.again (base_of hr hbig) hs
theorem st_beside {o a b : List AIt} {how : Int} (hr : Right3 o a b) (hbig : bigB o a b = false) (hh : howB how = true) : restA (stO how o a b).1 (besideL (mgS o a b)) = restA (mA o a b) (besideL (mgS o a b)) ∧ restA (stO how o a b).2.1 (besideL (mgS o a b)) = restA (mB o a b) (besideL (mgS o a b)) := by
  obtain ⟨T, N, hN, h⟩ := lp_of hr hbig hh
  exact h.beside (base_of hr hbig)
theorem st_alike {o a b : List AIt} {how : Int} (hr : Right3 o a b) (hbig : bigB o a b = false) (hh : howB how = true) (h1 : how = 1 ∨ how = 2 ∨ how = 4) : (stO how o a b).2.2.2 = [] ∧ (stO how o a b).1 = (stO how o a b).2.1 ∧ (stO how o a b).1 = (stO how o a b).2.2.1 := by
  obtain ⟨T, N, hN, h⟩ := lp_of hr hbig hh
  exact h.alike (base_of hr hbig) h1
theorem st_zero {o a b : List AIt} (hr : Right3 o a b) (hbig : bigB o a b = false) : stO 0 o a b = (mA o a b, mB o a b, mO o a b, mgS o a b) := by
  obtain ⟨T, N, hN, h⟩ := lp_of (how := 0) hr hbig (by decide)
  exact h.as_was (base_of hr hbig) rfl
theorem st_big {o a b : List AIt} {how : Int} (hr : Right3 o a b) (hbig : bigB o a b = false) (hh : howB how = true) (hs : bigS (stO how o a b) = true) : how ≠ 0 ∧ how ≠ 4 := by
  obtain ⟨T, N, hN, h⟩ := lp_of hr hbig hh
  constructor
  · intro e
    rw [h.fits60 (.inl e)] at hs
    cases hs
  · intro e
    rw [h.fits60 (.inr e)] at hs
    cases hs
theorem file_right : Right3 (fileT 49) (fileT 50) (fileT 51) := right3_iff.1 (by kernel_rfl)
theorem file_small : bigB (fileT 49) (fileT 50) (fileT 51) = false := by kernel_rfl
theorem file_first : stO 1 (fileT 49) (fileT 50) (fileT 51) = (fileT 50, fileT 50, fileT 50, []) := by kernel_rfl
def otherT : List AIt := [⟨[120], false, [50]⟩, ⟨[120, 126], false, [51]⟩]
theorem file_both : stO 3 (fileT 49) (fileT 50) (fileT 51) = (otherT, otherT, otherT, []) := by kernel_rfl
end Go.Proofs.YtfbbjfbnkcklgaaGreatDoor

/- law23.alive (printed by gen/genJ15.py) -/
namespace Go.Proofs.YtfbbjfbnkcklgaaGreatDoor
open Go.RowKit

set_option maxRecDepth 100000 in
set_option maxHeartbeats 2000000 in
theorem file23_walk (b : UInt8) (w : World) :
    Calls Tryz.prog 49 #[.string ⟨#[b]⟩] w fun e w' => (∃ t : TrI, e = .returned (.slice t.A t.l.length t.c) ∧ Tr w' t.A t.c t.l ∧ t.l.map Itm.abs = [⟨[120], false, [(b.toNat : Int)]⟩]) ∧ Below w.heap.size w w' := by
  have kc := Go.Lib.run_convert_string_bytes (P := Tryz.prog) w 9 40 5 ⟨#[b]⟩ Tryz.underlying9 Tryz.underlying40 Tryz.underlying5
  have hb := bytes_below w 5 ⟨#[b]⟩
  have hc0 := Go.Lib.bytesWorld_cell w 5 ⟨#[b]⟩ 0 (by show 0 < 1; omega)
  have hcap := grownCap_ge w 1 0 5
  rw [show (⟨#[b]⟩ : ByteArray).size = 1 from rfl] at kc
  have hsz : (Go.Lib.bytesWorld w 5 ⟨#[b]⟩).heap.size = w.heap.size + 1 := Go.Lib.bytesWorld_size _ _ _
  generalize grownCap w 1 0 5 = G at *
  generalize Go.Lib.bytesWorld w 5 ⟨#[b]⟩ = W at *
  have hsrc : Src W 1 (.slice (some ⟨w.heap.size, 0, none⟩) 1 G) (nums [(b.toNat : Int)]) := ⟨_, 1, G, rfl, rfl, hcap, (fun h => nomatch h), fun j u hj => ⟨_, rfl, by
    rw [add_lit', Nat.zero_add]
    cases j with
    | zero => rw [hc0]; simpa [nums] using hj
    | succ j => simp [nums] at hj⟩⟩
  have hgood : Good W ⟨⟨#[120]⟩, false, some ⟨w.heap.size, 0, none⟩, G, [(b.toNat : Int)]⟩ := ⟨by show (1 : Nat) ≤ _; omega, by simp, hsrc, fun x hx => by
    have := b.toNat_lt
    simp at hx
    omega⟩
  have hba := thenA (Below.refl _ W) (.cells #[.string ⟨#[120]⟩, .bool false, .slice (some ⟨w.heap.size, 0, none⟩) 1 G] 42 (0, 0))
  have HT := hid (Tr.one1 (e := 42) ⟨⟨#[120]⟩, false, some ⟨w.heap.size, 0, none⟩, G, [(b.toNat : Int)]⟩ (heap_alloc_new W _) (hgood.below hba))
  have hbw := thenB hb hba
  clear hsrc hgood hc0 hcap hb hba hsz
  go_enter Tryz.func49, Tryz.ntmps49
  go_wp2_with fail
  go_ret
  exact ⟨⟨⟨some ⟨W.heap.size, 0, none⟩, 1, [⟨⟨#[120]⟩, false, some ⟨w.heap.size, 0, none⟩, G, [(b.toNat : Int)]⟩]⟩, rfl, HT.out, by simp [Itm.abs, toList_lit]⟩, hbw⟩


set_option maxRecDepth 100000 in
set_option maxHeartbeats 4000000 in
theorem alive23_walk (w : World) : Calls Tryz.prog 24 #[] w fun e w' => e = .returned (.bool true) ∧ Below w.heap.size w w' := by
  have HF := hid (fun b W => file23_walk b W)
  go_enter Tryz.func24, Tryz.ntmps24
  go_wp2_with fail
  refine (HF.out 49 _).mono ?_
  rintro e w1 ⟨⟨t1, rfl, h1, e1⟩, hb1⟩
  have H1 := hid h1
  have E1 := hid e1
  clear h1 e1
  go_wp2_with fail
  refine (HF.out 50 _).mono ?_
  rintro e w2 ⟨⟨t2, rfl, h2, e2⟩, hb2⟩
  have H2 := hid h2
  have E2 := hid e2
  clear h2 e2
  go_wp2_with fail
  refine (HF.out 51 _).mono ?_
  rintro e w3 ⟨⟨t3, rfl, h3, e3⟩, hb3⟩
  have HM := hid (merge_is ((H1.out.below hb2).below hb3) (H2.out.below hb3) h3 E1.out E2.out e3 (by simp) (by simp) (by simp) (m := ⟨fileT 50, fileT 51, fileT 49, [[120]], 0⟩) out_two (by simp))
  have hbA := thenB hb1 (thenB hb2 hb3)
  clear h3 e3 hb1 hb2 hb3 H1 H2 E1 E2
  go_wp2_with fail
  refine HM.out.mono ?_
  rintro e w4 ⟨⟨x, rfl, hx, hxe⟩, hb4⟩
  have hB4 := thenA (Below.refl _ w4) (.cells #[.slice x.a.A x.a.l.length x.a.c, .slice x.b.A x.b.l.length x.b.c, .slice x.o.A x.o.l.length x.o.c, .slice x.cA x.LC.length x.cc] 28 (0, 0))
  have hbB := thenB (thenB hbA hb4) hB4
  have q4 := heap_alloc_new w4 (.cells #[.slice x.a.A x.a.l.length x.a.c, .slice x.b.A x.b.l.length x.b.c, .slice x.o.A x.o.l.length x.o.c, .slice x.cA x.LC.length x.cc] 28 (0, 0))
  have HX := hid (hx.below hB4)
  have HXE : HidP (x.abs = (mA (fileT 49) (fileT 50) (fileT 51), mB (fileT 49) (fileT 50) (fileT 51), mO (fileT 49) (fileT 50) (fileT 51), mgS (fileT 49) (fileT 50) (fileT 51))) := hid (hxe.trans (by
    have := out_is file_right file_small
    rw [out_two] at this
    simp only [MOut.mk.injEq] at this
    rw [← this.1, ← this.2.1, ← this.2.2.1, ← this.2.2.2.1]))
  have HS1 := hid (settle_ri (how := 1) HX.out file_right file_small HXE.out (by decide))
  clear hx hxe hb4 hbA HM hB4
  obtain ⟨z0, z1, z2, z3⟩ := cells4 q4
  go_wp2_with fail
  generalize w4.alloc (.cells #[.slice x.a.A x.a.l.length x.a.c, .slice x.b.A x.b.l.length x.b.c, .slice x.o.A x.o.l.length x.o.c, .slice x.cA x.LC.length x.cc] 28 (0, 0)) = wm at *
  refine HS1.out.mono ?_
  rintro e w5 ⟨hor, hb5⟩
  rcases hor with ⟨hbig, _⟩ | ⟨_, y, rfl, hy, hye⟩
  · exfalso
    rw [file_first] at hbig
    revert hbig
    decide
  rw [file_first] at hye
  have hB5 := thenA (Below.refl _ w5) (.cells #[.slice y.a.A y.a.l.length y.a.c, .slice y.b.A y.b.l.length y.b.c, .slice y.o.A y.o.l.length y.o.c, .slice y.cA y.LC.length y.cc] 28 (0, 0))
  have hbC := thenB hb5 hB5
  have q5 := heap_alloc_new w5 (.cells #[.slice y.a.A y.a.l.length y.a.c, .slice y.b.A y.b.l.length y.b.c, .slice y.o.A y.o.l.length y.o.c, .slice y.cA y.LC.length y.cc] 28 (0, 0))
  have HY := hid (hy.below hB5)
  have HYE := hid hye
  have q4' := (hbC.block _ (blkLt q4)).trans q4
  have HS3 := hid (settle_ri (how := 3) (HX.out.below hbC) file_right file_small HXE.out (by decide))
  have hbD := thenB hbB hbC
  clear hy hye hb5 hB5 HS1 hbC hbB q4
  obtain ⟨z0, z1, z2, z3⟩ := cells4 q4'
  go_wp2_with fail
  generalize w5.alloc (.cells #[.slice y.a.A y.a.l.length y.a.c, .slice y.b.A y.b.l.length y.b.c, .slice y.o.A y.o.l.length y.o.c, .slice y.cA y.LC.length y.cc] 28 (0, 0)) = wn at *
  refine HS3.out.mono ?_
  rintro e w6 ⟨hor, hb6⟩
  rcases hor with ⟨hbig, _⟩ | ⟨_, z, rfl, hz, hze⟩
  · exfalso
    rw [file_both] at hbig
    revert hbig
    decide
  rw [file_both] at hze
  have hze2 := hze
  unfold RI.abs otherT at hze2
  simp only [Prod.mk.injEq] at hze2
  obtain ⟨f1, f2, f3, f4⟩ := hze2
  obtain ⟨⟨za, zc, zl⟩, ⟨zb, zd, zm⟩, zo, zcA, zcc, zL⟩ := z
  simp only at f1 f2 f3 f4
  obtain ⟨u1, r1, rfl, g1, k1⟩ := List.map_eq_cons_iff.1 f1
  obtain ⟨u2, r2, rfl, g2, k2⟩ := List.map_eq_cons_iff.1 k1
  obtain rfl := List.map_eq_nil_iff.1 k2
  obtain ⟨v1, s1, rfl, g3, k3⟩ := List.map_eq_cons_iff.1 f2
  obtain ⟨v2, s2, rfl, g4, k4⟩ := List.map_eq_cons_iff.1 k3
  obtain rfl := List.map_eq_nil_iff.1 k4
  obtain ⟨ba, oa, hA, ka0, ka1, ka2, ga⟩ := hz.a.at (i := 1) (by simp)
  obtain ⟨bb, ob, hB, kb0, kb1, kb2, gb⟩ := hz.b.at (i := 1) (by simp)
  simp only at hA hB
  subst hA hB
  obtain ⟨up, ud, udA, udc, ubs⟩ := u2
  obtain ⟨vp, vd, vdA, vdc, vbs⟩ := v2
  simp only [Itm.abs, AIt.mk.injEq] at g2 g4
  obtain ⟨_, _, rfl⟩ := g2
  obtain ⟨gp, _, _⟩ := g4
  obtain rfl : vp = ⟨#[120, 126]⟩ := toList_inj (by rw [gp, toList_lit])
  have hcv : ∀ W, Below w6.heap.size w6 W → (convert 40 9 (.slice udA 1 udc)).run Tryz.prog W = .ok (.string ⟨#[51]⟩) W := fun W hW => by
    have h1 := (ga.below hW).src.string
    simpa [strOfNums] using h1
  have hB6 := thenA (Below.refl _ w6) (.cells #[.slice (some ⟨ba, oa, none⟩) 2 zc, .slice (some ⟨bb, ob, none⟩) 2 zd, .slice zo.A zo.l.length zo.c, .slice zcA zL.length zcc] 28 (0, 0))
  have q6 := heap_alloc_new w6 (.cells #[.slice (some ⟨ba, oa, none⟩) 2 zc, .slice (some ⟨bb, ob, none⟩) 2 zd, .slice zo.A zo.l.length zo.c, .slice zcA zL.length zcc] 28 (0, 0))
  have hbE := thenB hb6 hB6
  have HY2 := hid (HY.out.b.below hbE)
  have q5' := (hbE.block _ (blkLt q5)).trans q5
  have k1 : (w6.alloc (.cells #[.slice (some ⟨ba, oa, none⟩) 2 zc, .slice (some ⟨bb, ob, none⟩) 2 zd, .slice zo.A zo.l.length zo.c, .slice zcA zL.length zcc] 28 (0, 0))).cell? ⟨w5.heap.size, 1, none⟩ = some (.slice y.b.A y.b.l.length y.b.c) := (blkCell q5' 1).trans rfl
  have k2 := (blkCell q6 0).trans (rfl : _ = some (Value.slice (some ⟨ba, oa, none⟩) 2 zc))
  have k3 := (blkCell q6 1).trans (rfl : _ = some (Value.slice (some ⟨bb, ob, none⟩) 2 zd))
  have k4 := cellB hB6 (show w6.cell? ⟨bb, ob + 3, none⟩ = some (.string ⟨#[120, 126]⟩) from kb0)
  have k5 := cellB hB6 (show w6.cell? ⟨ba, oa + 3 + 2, none⟩ = some (.slice udA 1 udc) from ka2)
  have HCV := hid (fun W hW => hcv W (thenB hB6 hW))
  have HYE2 : HidP (y.b.l.map Itm.abs = fileT 50) := hid (by
    have := HYE.out
    unfold RI.abs at this
    simp only [Prod.mk.injEq] at this
    exact this.2.1)
  have HBD := hid (thenB hbD hbE)
  clear hcv hz hze f1 f2 f3 f4 g1 g3 gp ga gb ka0 ka1 ka2 kb0 kb1 kb2 HS3 HYE hbD hbE q4' q5 q5' hb6 hB6
  go_wp2_with fail
  generalize w6.alloc (.cells #[.slice (some ⟨ba, oa, none⟩) 2 zc, .slice (some ⟨bb, ob, none⟩) 2 zd, .slice zo.A zo.l.length zo.c, .slice zcA zL.length zcc] 28 (0, 0)) = w9 at *
  have HST : HidP (∀ W w', (Below w9.heap.size w9 W ∧ W.cell? ⟨w5.heap.size, 1, none⟩ = some (.slice y.b.A y.b.l.length y.b.c) ∧ W.cell? ⟨w6.heap.size, 0, none⟩ = some (.slice (some ⟨ba, oa, none⟩) 2 zc) ∧ W.cell? ⟨w6.heap.size, 1, none⟩ = some (.slice (some ⟨bb, ob, none⟩) 2 zd) ∧ W.cell? ⟨bb, ob + 3, none⟩ = some (.string ⟨#[120, 126]⟩) ∧ W.cell? ⟨ba, oa + 3 + 2, none⟩ = some (.slice udA 1 udc) ∧ (convert 40 9 (.slice udA 1 udc)).run Tryz.prog W = .ok (.string ⟨#[51]⟩) W) → Below W.heap.size W w' → (Below w9.heap.size w9 w' ∧ w'.cell? ⟨w5.heap.size, 1, none⟩ = some (.slice y.b.A y.b.l.length y.b.c) ∧ w'.cell? ⟨w6.heap.size, 0, none⟩ = some (.slice (some ⟨ba, oa, none⟩) 2 zc) ∧ w'.cell? ⟨w6.heap.size, 1, none⟩ = some (.slice (some ⟨bb, ob, none⟩) 2 zd) ∧ w'.cell? ⟨bb, ob + 3, none⟩ = some (.string ⟨#[120, 126]⟩) ∧ w'.cell? ⟨ba, oa + 3 + 2, none⟩ = some (.slice udA 1 udc) ∧ (convert 40 9 (.slice udA 1 udc)).run Tryz.prog w' = .ok (.string ⟨#[51]⟩) w')) := hid (fun W w' hW hb => ⟨thenB hW.1 hb, cellB hb hW.2.1, cellB hb hW.2.2.1, cellB hb hW.2.2.2.1, cellB hb hW.2.2.2.2.1, cellB hb hW.2.2.2.2.2.1, HCV.out _ (thenB hW.1 hb)⟩)
  have hs0 : Below w9.heap.size w9 w9 ∧ w9.cell? ⟨w5.heap.size, 1, none⟩ = some (.slice y.b.A y.b.l.length y.b.c) ∧ w9.cell? ⟨w6.heap.size, 0, none⟩ = some (.slice (some ⟨ba, oa, none⟩) 2 zc) ∧ w9.cell? ⟨w6.heap.size, 1, none⟩ = some (.slice (some ⟨bb, ob, none⟩) 2 zd) ∧ w9.cell? ⟨bb, ob + 3, none⟩ = some (.string ⟨#[120, 126]⟩) ∧ w9.cell? ⟨ba, oa + 3 + 2, none⟩ = some (.slice udA 1 udc) ∧ (convert 40 9 (.slice udA 1 udc)).run Tryz.prog w9 = .ok (.string ⟨#[51]⟩) w9 := ⟨Below.refl _ _, k1, k2, k3, k4, k5, HCV.out _ (Below.refl _ _)⟩
  have HF1 : HidP (∀ W, (Below w9.heap.size w9 W ∧ W.cell? ⟨w5.heap.size, 1, none⟩ = some (.slice y.b.A y.b.l.length y.b.c) ∧ W.cell? ⟨w6.heap.size, 0, none⟩ = some (.slice (some ⟨ba, oa, none⟩) 2 zc) ∧ W.cell? ⟨w6.heap.size, 1, none⟩ = some (.slice (some ⟨bb, ob, none⟩) 2 zd) ∧ W.cell? ⟨bb, ob + 3, none⟩ = some (.string ⟨#[120, 126]⟩) ∧ W.cell? ⟨ba, oa + 3 + 2, none⟩ = some (.slice udA 1 udc) ∧ (convert 40 9 (.slice udA 1 udc)).run Tryz.prog W = .ok (.string ⟨#[51]⟩) W) → Calls Tryz.prog 49 #[.string ⟨#[50]⟩] W fun e w' => (∃ t : TrI, e = .returned (.slice t.A t.l.length t.c) ∧ Tr w' t.A t.c t.l ∧ t.l.map Itm.abs = fileT 50) ∧ (Below w9.heap.size w9 w' ∧ w'.cell? ⟨w5.heap.size, 1, none⟩ = some (.slice y.b.A y.b.l.length y.b.c) ∧ w'.cell? ⟨w6.heap.size, 0, none⟩ = some (.slice (some ⟨ba, oa, none⟩) 2 zc) ∧ w'.cell? ⟨w6.heap.size, 1, none⟩ = some (.slice (some ⟨bb, ob, none⟩) 2 zd) ∧ w'.cell? ⟨bb, ob + 3, none⟩ = some (.string ⟨#[120, 126]⟩) ∧ w'.cell? ⟨ba, oa + 3 + 2, none⟩ = some (.slice udA 1 udc) ∧ (convert 40 9 (.slice udA 1 udc)).run Tryz.prog w' = .ok (.string ⟨#[51]⟩) w')) := hid (fun W hW => (file23_walk 50 W).mono (by
    rintro e w' ⟨⟨t, rfl, h1, h2⟩, h3⟩
    exact ⟨⟨t, rfl, h1, h2⟩, HST.out _ _ hW h3⟩))
  have HS1 : HidP (∀ W (t : TrI), (Below w9.heap.size w9 W ∧ W.cell? ⟨w5.heap.size, 1, none⟩ = some (.slice y.b.A y.b.l.length y.b.c) ∧ W.cell? ⟨w6.heap.size, 0, none⟩ = some (.slice (some ⟨ba, oa, none⟩) 2 zc) ∧ W.cell? ⟨w6.heap.size, 1, none⟩ = some (.slice (some ⟨bb, ob, none⟩) 2 zd) ∧ W.cell? ⟨bb, ob + 3, none⟩ = some (.string ⟨#[120, 126]⟩) ∧ W.cell? ⟨ba, oa + 3 + 2, none⟩ = some (.slice udA 1 udc) ∧ (convert 40 9 (.slice udA 1 udc)).run Tryz.prog W = .ok (.string ⟨#[51]⟩) W) → Tr W t.A t.c t.l → t.l.map Itm.abs = fileT 50 → Calls Tryz.prog 19 #[.slice y.b.A y.b.l.length y.b.c, .slice t.A t.l.length t.c] W fun e w' => e = .returned (.bool true) ∧ (Below w9.heap.size w9 w' ∧ w'.cell? ⟨w5.heap.size, 1, none⟩ = some (.slice y.b.A y.b.l.length y.b.c) ∧ w'.cell? ⟨w6.heap.size, 0, none⟩ = some (.slice (some ⟨ba, oa, none⟩) 2 zc) ∧ w'.cell? ⟨w6.heap.size, 1, none⟩ = some (.slice (some ⟨bb, ob, none⟩) 2 zd) ∧ w'.cell? ⟨bb, ob + 3, none⟩ = some (.string ⟨#[120, 126]⟩) ∧ w'.cell? ⟨ba, oa + 3 + 2, none⟩ = some (.slice udA 1 udc) ∧ (convert 40 9 (.slice udA 1 udc)).run Tryz.prog w' = .ok (.string ⟨#[51]⟩) w')) := hid (fun W t hW ht he => (refsame y.b.A t.A y.b.c t.c y.b.l t.l W (HY2.out.below hW.1) ht).mono (by
    rintro e w' ⟨rfl, h3⟩
    exact ⟨by rw [show sameL y.b.l t.l = true from decide_eq_true (HYE2.out.trans he.symm)], HST.out _ _ hW h3⟩))
  have hs1 := HST.out _ w9.drew hs0 ⟨rfl, rfl, rfl, Nat.le_refl _, fun _ _ => rfl⟩
  clear hs0 k1 k2 k3 k4 k5 HST
  go_region_held3 (fun W => Below w9.heap.size w9 W ∧ W.cell? ⟨w5.heap.size, 1, none⟩ = some (.slice y.b.A y.b.l.length y.b.c) ∧ W.cell? ⟨w6.heap.size, 0, none⟩ = some (.slice (some ⟨ba, oa, none⟩) 2 zc) ∧ W.cell? ⟨w6.heap.size, 1, none⟩ = some (.slice (some ⟨bb, ob, none⟩) 2 zd) ∧ W.cell? ⟨bb, ob + 3, none⟩ = some (.string ⟨#[120, 126]⟩) ∧ W.cell? ⟨ba, oa + 3 + 2, none⟩ = some (.slice udA 1 udc) ∧ (convert 40 9 (.slice udA 1 udc)).run Tryz.prog W = .ok (.string ⟨#[51]⟩) W) (assumption) (first | (refine step_callG 49 _ _ (by rfl) (by rfl) Tryz.func49 (by kernel_rfl) (by kernel_rfl) [.string ⟨#[50]⟩] (by rfl) (HF1.out _ (by assumption)) ?_; rintro e wf1 ⟨⟨tt1, rfl, hh1, ee1⟩, hS1⟩; have HT1 := hid hh1; have HE1 := hid ee1; clear hh1 ee1; refine ⟨_, rfl, ?_⟩) | (refine step_callG 19 _ _ (by rfl) (by rfl) Tryz.func19 (by kernel_rfl) (by kernel_rfl) [.slice y.b.A y.b.l.length y.b.c, .slice tt1.A tt1.l.length tt1.c] (by rfl) (HS1.out _ tt1 (by assumption) HT1.out HE1.out) ?_; rintro e ws1 ⟨rfl, hZ1⟩; refine ⟨_, rfl, ?_⟩))
  go_wp2_with fail
  go_ret
  exact ⟨rfl, thenB HBD.out hZ1.1⟩
end Go.Proofs.YtfbbjfbnkcklgaaGreatDoor
