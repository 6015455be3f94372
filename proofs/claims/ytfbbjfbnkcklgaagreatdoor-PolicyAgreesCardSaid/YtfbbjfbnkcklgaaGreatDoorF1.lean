/- results side by side: ref06.Names, ref22.Same, law22.Back -/
import Derived.Test.YtfbbjfbnkcklgaaGreatDoorE12
import Derived.Lib.ConvBytes
import Derived.Test.YtfbbjfbnkcklgaaGreatDoorB7
import Derived.Test.YtfbbjfbnkcklgaaGreatDoorG1
import Derived.Deep.RegionHeld3
namespace Go.Proofs.YtfbbjfbnkcklgaaGreatDoor
open Go.RowKit

theorem Row.str {w : World} {e : TypeId} {A : Option Addr} {n c : Nat} {ss : List ByteArray} (h : Row w e 1 (.slice A n c) (ss.map .string)) {i : Nat} (hi : i < ss.length) : ∃ b off, A = some ⟨b, off, none⟩ ∧ w.cell? ⟨b, off + i, none⟩ = some (.string ss[i]) := by
  obtain ⟨A', n', c', hv, hl, hn, hc, hh⟩ := h
  cases hv
  rw [List.length_map] at hl
  rcases hh with ⟨_, rfl⟩ | ⟨b, off, cs, rfl, hb, hs, ht⟩
  · omega
  · refine ⟨b, off, rfl, ?_⟩
    have h1 : (ss.map Value.string)[i]? = cs[off + i]? := by
      rw [← ht, List.getElem?_take, if_pos (by omega), List.getElem?_drop, Array.getElem?_toList]
    rw [blkCell hb, ← h1, List.getElem?_map, List.getElem?_eq_getElem hi]
    rfl
theorem Row.slen {w : World} {e : TypeId} {A : Option Addr} {n c : Nat} {ss : List ByteArray} (h : Row w e 1 (.slice A n c) (ss.map .string)) : n = ss.length := by
  have hn := h.count
  rw [List.length_map] at hn
  omega
set_option maxRecDepth 100000 in
set_option maxHeartbeats 2000000 in
theorem names_walk (A B : Option Addr) (c d : Nat) (l m : List ByteArray) (w : World) (hl : Row w 9 1 (.slice A l.length c) (l.map .string)) (hm : Row w 9 1 (.slice B m.length d) (m.map .string)) (n1 : l.length ≤ 1000000) (_ : m.length ≤ 1000000) :
    Calls Tryz.prog 28 #[.slice A l.length c, .slice B m.length d] w fun e w' => e = .returned (.bool (decide (l.map (fun z : ByteArray => z.toList) = m.map fun z : ByteArray => z.toList))) ∧ Below w.heap.size w w' := by
  by_cases hlen : l.length = m.length
  case neg =>
    have e : decide (l.map (fun z : ByteArray => z.toList) = m.map fun z : ByteArray => z.toList) = false := decide_eq_false (fun h => hlen (by have := congrArg List.length h; simpa using this))
    rw [e]
    have g1 : ((l.length : Int) != (m.length : Int)) = true := by simp; omega
    have g2 : ¬ ((l.length : Int) = (m.length : Int)) := by omega
    have g3 : ¬ (l.length = m.length) := hlen
    clear e hlen
    go_enter Tryz.func28, Tryz.ntmps28
    go_wp2_with fail
    go_ret
    exact ⟨rfl, Below.refl _ _⟩
  case pos =>
    have HL := hid hl
    rw [← hlen] at hm ⊢
    have HM := hid hm
    have HLEN := hid hlen
    clear hl hm hlen
    go_enter Tryz.func28, Tryz.ntmps28
    go_wp2_with fail
    go_loopg [5] l.length (fun k i wr => ∃ j : Nat, j ≤ l.length ∧ k = l.length - j ∧ i = .int .i64 j ∧ Below w.heap.size w wr ∧ (l.take j).map (fun z : ByteArray => z.toList) = (m.take j).map fun z : ByteArray => z.toList)
    case atStart => exact ⟨0, Nat.zero_le _, rfl, rfl, Below.refl _ _, by simp⟩
    case round =>
      obtain ⟨j, hj, rfl, rfl, hb, ht⟩ := hrel
      have HT := hid ht
      clear ht
      by_cases hlt : j < l.length
      · have hlt2 : j < m.length := by have := HLEN.out; omega
        have i0 : (0 : Int) ≤ (j : Int) := by omega
        have i1 : (j : Int) < (l.length : Int) := by omega
        obtain ⟨b1, o1, hA, k1⟩ := (HL.out.below hb).str hlt
        obtain ⟨b2, o2, hB, k2⟩ := (HM.out.below hb).str hlt2
        subst hA
        subst hB
        have hout : (l[j].toList == m[j].toList) = false → decide (l.map (fun z : ByteArray => z.toList) = m.map fun z : ByteArray => z.toList) = false := fun h => decide_eq_false (fun e => by
          have h2 := congrArg (fun q => q[j]?) e
          simp only [List.getElem?_map, List.getElem?_eq_getElem hlt, List.getElem?_eq_getElem hlt2, Option.map_some, Option.some.injEq] at h2
          rw [h2] at h
          simp at h)
        have hnext : (l[j].toList == m[j].toList) = true → (l.take (j + 1)).map (fun z : ByteArray => z.toList) = (m.take (j + 1)).map fun z : ByteArray => z.toList := fun h => by
          rw [List.take_add_one, List.take_add_one, List.map_append, List.map_append, HT.out, List.getElem?_eq_getElem hlt, List.getElem?_eq_getElem hlt2]
          simp only [Option.toList_some, List.map_cons, List.map_nil]
          rw [beq_iff_eq.1 h]
        have HOUT := hid hout
        have HNEXT := hid hnext
        clear hout hnext
        cases hd : (l[j].toList == m[j].toList)
        · have hd2 : (l[j].toList != m[j].toList) = true := by simp only [bne, hd, Bool.not_false]
          have HO := hid (HOUT.out hd)
          go_wp2_with fail
          go_quiet (fail)
          go_wp2_with fail
          go_ret
          exact ⟨by rw [HO.out]; rfl, ⟨hb.os, hb.tape, hb.output, hb.size, hb.block⟩⟩
        · have hd2 : (l[j].toList != m[j].toList) = false := by simp only [bne, hd, Bool.not_true]
          have HN := hid (HNEXT.out hd)
          go_wp2_with fail
          go_quiet (fail)
          go_wp2_with fail
          go_roundg (l.length - (j + 1))
          case measure => omega
          case rel => exact ⟨j + 1, by omega, rfl, by go_num, ⟨hb.os, hb.tape, hb.output, hb.size, hb.block⟩, HN.out⟩
      · obtain rfl : j = l.length := by omega
        have e : decide (l.map (fun z : ByteArray => z.toList) = m.map fun z : ByteArray => z.toList) = true := decide_eq_true (by
          have h := HT.out
          rw [List.take_length] at h
          rw [h, HLEN.out, List.take_length])
        have HE := hid e
        clear e
        go_wp2_with fail
        go_ret
        exact ⟨by rw [HE.out]; rfl, hb⟩

end Go.Proofs.YtfbbjfbnkcklgaaGreatDoor

/- ref22.Same, law22.Back (printed by genF2.py) -/
namespace Go.Proofs.YtfbbjfbnkcklgaaGreatDoor
open Go.RowKit

/-- a result's parts in memory -/
structure RI where
  a : TrI
  b : TrI
  o : TrI
  cA : Option Addr
  cc : Nat
  LC : List ByteArray
structure RIok (w : World) (x : RI) : Prop where
  a : Tr w x.a.A x.a.c x.a.l
  b : Tr w x.b.A x.b.c x.b.l
  o : Tr w x.o.A x.o.c x.o.l
  c : Row w 9 1 (.slice x.cA x.LC.length x.cc) (x.LC.map .string)
  n : x.LC.length ≤ 1000000
theorem RIok.below {w w' : World} {x : RI} (h : RIok w x) (hb : Below w.heap.size w w') : RIok w' x := ⟨h.a.below hb, h.b.below hb, h.o.below hb, h.c.below hb, h.n⟩
def RI.abs (x : RI) : List AIt × List AIt × List AIt × List Txt := (x.a.l.map Itm.abs, x.b.l.map Itm.abs, x.o.l.map Itm.abs, x.LC.map fun z : ByteArray => z.toList)
def sameC (x y : RI) : Bool := decide (x.LC.map (fun z : ByteArray => z.toList) = y.LC.map fun z : ByteArray => z.toList)
def sameR (x y : RI) : Bool := sameL x.a.l y.a.l && sameL x.b.l y.b.l && sameL x.o.l y.o.l && sameC x y
theorem sameR_iff {x y : RI} : sameR x y = true ↔ x.abs = y.abs := by
  unfold sameR sameC sameL RI.abs
  simp only [Bool.and_eq_true, decide_eq_true_eq, Prod.mk.injEq, and_assoc]
theorem ri_of {w : World} {v : Value} {m : MOut} (h : ResOk w v m) (hn : m.C.length ≤ 1000000) : ∃ x : RI, v = .agg #[.slice x.a.A x.a.l.length x.a.c, .slice x.b.A x.b.l.length x.b.c, .slice x.o.A x.o.l.length x.o.c, .slice x.cA x.LC.length x.cc] ∧ RIok w x ∧ x.abs = (m.A, m.B, m.O, m.C) := by
  obtain ⟨tA, tB, tO, c, LC, rfl, h1, e1, h2, e2, h3, e3, h4, e4⟩ := h
  have hs := h4.slen
  obtain ⟨cA, cn, cc⟩ := c
  simp only at hs
  subst hs
  have hl := congrArg List.length e4
  rw [List.length_map] at hl
  exact ⟨⟨tA, tB, tO, cA, cc, LC⟩, rfl, ⟨h1, h2, h3, h4, by show LC.length ≤ _; omega⟩, by unfold RI.abs; rw [e1, e2, e3, e4]⟩
theorem boxed2 {w W : World} {x y : RI} (hb : Below ((w.alloc (.cells #[.slice x.a.A x.a.l.length x.a.c, .slice x.b.A x.b.l.length x.b.c, .slice x.o.A x.o.l.length x.o.c, .slice x.cA x.LC.length x.cc] 33 (0, 0))).alloc (.cells #[.slice y.a.A y.a.l.length y.a.c, .slice y.b.A y.b.l.length y.b.c, .slice y.o.A y.o.l.length y.o.c, .slice y.cA y.LC.length y.cc] 33 (0, 0))).heap.size ((w.alloc (.cells #[.slice x.a.A x.a.l.length x.a.c, .slice x.b.A x.b.l.length x.b.c, .slice x.o.A x.o.l.length x.o.c, .slice x.cA x.LC.length x.cc] 33 (0, 0))).alloc (.cells #[.slice y.a.A y.a.l.length y.a.c, .slice y.b.A y.b.l.length y.b.c, .slice y.o.A y.o.l.length y.o.c, .slice y.cA y.LC.length y.cc] 33 (0, 0))) W) :
    W.cell? ⟨w.heap.size, 0, none⟩ = some (.slice x.a.A x.a.l.length x.a.c) ∧ W.cell? ⟨w.heap.size, 1, none⟩ = some (.slice x.b.A x.b.l.length x.b.c) ∧ W.cell? ⟨w.heap.size, 2, none⟩ = some (.slice x.o.A x.o.l.length x.o.c) ∧ W.cell? ⟨w.heap.size, 3, none⟩ = some (.slice x.cA x.LC.length x.cc) ∧ W.cell? ⟨w.heap.size + 1, 0, none⟩ = some (.slice y.a.A y.a.l.length y.a.c) ∧ W.cell? ⟨w.heap.size + 1, 1, none⟩ = some (.slice y.b.A y.b.l.length y.b.c) ∧ W.cell? ⟨w.heap.size + 1, 2, none⟩ = some (.slice y.o.A y.o.l.length y.o.c) ∧ W.cell? ⟨w.heap.size + 1, 3, none⟩ = some (.slice y.cA y.LC.length y.cc) := by
  have h1 : ((w.alloc (.cells #[.slice x.a.A x.a.l.length x.a.c, .slice x.b.A x.b.l.length x.b.c, .slice x.o.A x.o.l.length x.o.c, .slice x.cA x.LC.length x.cc] 33 (0, 0))).alloc (.cells #[.slice y.a.A y.a.l.length y.a.c, .slice y.b.A y.b.l.length y.b.c, .slice y.o.A y.o.l.length y.o.c, .slice y.cA y.LC.length y.cc] 33 (0, 0))).heap[w.heap.size]? = some (.cells #[.slice x.a.A x.a.l.length x.a.c, .slice x.b.A x.b.l.length x.b.c, .slice x.o.A x.o.l.length x.o.c, .slice x.cA x.LC.length x.cc] 33 (0, 0)) := (heap_alloc_old _ _ (by simp)).trans (heap_alloc_new w _)
  have h2 : ((w.alloc (.cells #[.slice x.a.A x.a.l.length x.a.c, .slice x.b.A x.b.l.length x.b.c, .slice x.o.A x.o.l.length x.o.c, .slice x.cA x.LC.length x.cc] 33 (0, 0))).alloc (.cells #[.slice y.a.A y.a.l.length y.a.c, .slice y.b.A y.b.l.length y.b.c, .slice y.o.A y.o.l.length y.o.c, .slice y.cA y.LC.length y.cc] 33 (0, 0))).heap[w.heap.size + 1]? = some (.cells #[.slice y.a.A y.a.l.length y.a.c, .slice y.b.A y.b.l.length y.b.c, .slice y.o.A y.o.l.length y.o.c, .slice y.cA y.LC.length y.cc] 33 (0, 0)) := by
    have := heap_alloc_new (w.alloc (.cells #[.slice x.a.A x.a.l.length x.a.c, .slice x.b.A x.b.l.length x.b.c, .slice x.o.A x.o.l.length x.o.c, .slice x.cA x.LC.length x.cc] 33 (0, 0))) (.cells #[.slice y.a.A y.a.l.length y.a.c, .slice y.b.A y.b.l.length y.b.c, .slice y.o.A y.o.l.length y.o.c, .slice y.cA y.LC.length y.cc] 33 (0, 0))
    rw [World.size_alloc] at this
    exact this
  exact ⟨cellB hb ((blkCell h1 0).trans rfl), cellB hb ((blkCell h1 1).trans rfl), cellB hb ((blkCell h1 2).trans rfl), cellB hb ((blkCell h1 3).trans rfl), cellB hb ((blkCell h2 0).trans rfl), cellB hb ((blkCell h2 1).trans rfl), cellB hb ((blkCell h2 2).trans rfl), cellB hb ((blkCell h2 3).trans rfl)⟩

set_option maxRecDepth 100000 in
set_option maxHeartbeats 4000000 in
theorem same22_walk (x y : RI) (w : World) (hx : RIok w x) (hy : RIok w y) :
    Calls Tryz.prog 13 #[.agg #[.slice x.a.A x.a.l.length x.a.c, .slice x.b.A x.b.l.length x.b.c, .slice x.o.A x.o.l.length x.o.c, .slice x.cA x.LC.length x.cc], .agg #[.slice y.a.A y.a.l.length y.a.c, .slice y.b.A y.b.l.length y.b.c, .slice y.o.A y.o.l.length y.o.c, .slice y.cA y.LC.length y.cc]] w fun e w' => e = .returned (.bool (sameR x y)) ∧ Below w.heap.size w w' := by
  have H1 := hid (fun W (hW : Below w.heap.size w W) => refsame x.a.A y.a.A x.a.c y.a.c x.a.l y.a.l W (hx.a.below hW) (hy.a.below hW))
  have H2 := hid (fun W (hW : Below w.heap.size w W) => refsame x.b.A y.b.A x.b.c y.b.c x.b.l y.b.l W (hx.b.below hW) (hy.b.below hW))
  have H3 := hid (fun W (hW : Below w.heap.size w W) => refsame x.o.A y.o.A x.o.c y.o.c x.o.l y.o.l W (hx.o.below hW) (hy.o.below hW))
  have H4 := hid (fun W (hW : Below w.heap.size w W) => names_walk x.cA y.cA x.cc y.cc x.LC y.LC W (hx.c.below hW) (hy.c.below hW) hx.n hy.n)
  have hb0 := thenA (thenA (Below.refl _ w) (.cells #[.slice x.a.A x.a.l.length x.a.c, .slice x.b.A x.b.l.length x.b.c, .slice x.o.A x.o.l.length x.o.c, .slice x.cA x.LC.length x.cc] 33 (0, 0))) (.cells #[.slice y.a.A y.a.l.length y.a.c, .slice y.b.A y.b.l.length y.b.c, .slice y.o.A y.o.l.length y.o.c, .slice y.cA y.LC.length y.cc] 33 (0, 0))
  unfold sameR sameC
  clear hx hy
  generalize sameL x.a.l y.a.l = b1 at *
  generalize sameL x.b.l y.b.l = b2 at *
  generalize sameL x.o.l y.o.l = b3 at *
  generalize decide (x.LC.map (fun z : ByteArray => z.toList) = y.LC.map fun z : ByteArray => z.toList) = b4 at *
  cases b1
  · simp only [Bool.false_and]
    go_enter Tryz.func13, Tryz.ntmps13
    go_wp2_with fail
    refine (H1.out _ hb0).mono ?_
    rintro e w1 ⟨rfl, hc1⟩
    have hx1 := hc1
    obtain ⟨p0, p1, p2, p3, s0, s1, s2, s3⟩ := boxed2 hx1
    have hb1 := thenB hb0 hc1
    clear hc1
    go_wp2_with fail
    go_ret
    exact ⟨rfl, hb1⟩
  cases b2
  · simp only [Bool.false_and, Bool.and_false]
    go_enter Tryz.func13, Tryz.ntmps13
    go_wp2_with fail
    refine (H1.out _ hb0).mono ?_
    rintro e w1 ⟨rfl, hc1⟩
    have hx1 := hc1
    obtain ⟨p0, p1, p2, p3, s0, s1, s2, s3⟩ := boxed2 hx1
    have hb1 := thenB hb0 hc1
    clear hc1
    go_wp2_with fail
    refine (H2.out _ hb1).mono ?_
    rintro e w2 ⟨rfl, hc2⟩
    have hx2 := thenB hx1 hc2
    obtain ⟨p0, p1, p2, p3, s0, s1, s2, s3⟩ := boxed2 hx2
    have hb2 := thenB hb1 hc2
    clear hc2
    go_wp2_with fail
    go_ret
    exact ⟨rfl, hb2⟩
  cases b3
  · simp only [Bool.false_and, Bool.and_false]
    go_enter Tryz.func13, Tryz.ntmps13
    go_wp2_with fail
    refine (H1.out _ hb0).mono ?_
    rintro e w1 ⟨rfl, hc1⟩
    have hx1 := hc1
    obtain ⟨p0, p1, p2, p3, s0, s1, s2, s3⟩ := boxed2 hx1
    have hb1 := thenB hb0 hc1
    clear hc1
    go_wp2_with fail
    refine (H2.out _ hb1).mono ?_
    rintro e w2 ⟨rfl, hc2⟩
    have hx2 := thenB hx1 hc2
    obtain ⟨p0, p1, p2, p3, s0, s1, s2, s3⟩ := boxed2 hx2
    have hb2 := thenB hb1 hc2
    clear hc2
    go_wp2_with fail
    refine (H3.out _ hb2).mono ?_
    rintro e w3 ⟨rfl, hc3⟩
    have hx3 := thenB hx2 hc3
    obtain ⟨p0, p1, p2, p3, s0, s1, s2, s3⟩ := boxed2 hx3
    have hb3 := thenB hb2 hc3
    clear hc3
    go_wp2_with fail
    go_ret
    exact ⟨rfl, hb3⟩
  · simp only [Bool.true_and]
    go_enter Tryz.func13, Tryz.ntmps13
    go_wp2_with fail
    refine (H1.out _ hb0).mono ?_
    rintro e w1 ⟨rfl, hc1⟩
    have hx1 := hc1
    obtain ⟨p0, p1, p2, p3, s0, s1, s2, s3⟩ := boxed2 hx1
    have hb1 := thenB hb0 hc1
    clear hc1
    go_wp2_with fail
    refine (H2.out _ hb1).mono ?_
    rintro e w2 ⟨rfl, hc2⟩
    have hx2 := thenB hx1 hc2
    obtain ⟨p0, p1, p2, p3, s0, s1, s2, s3⟩ := boxed2 hx2
    have hb2 := thenB hb1 hc2
    clear hc2
    go_wp2_with fail
    refine (H3.out _ hb2).mono ?_
    rintro e w3 ⟨rfl, hc3⟩
    have hx3 := thenB hx2 hc3
    obtain ⟨p0, p1, p2, p3, s0, s1, s2, s3⟩ := boxed2 hx3
    have hb3 := thenB hb2 hc3
    clear hc3
    go_wp2_with fail
    refine (H4.out _ hb3).mono ?_
    rintro e w4 ⟨rfl, hc4⟩
    have hx4 := thenB hx3 hc4
    obtain ⟨p0, p1, p2, p3, s0, s1, s2, s3⟩ := boxed2 hx4
    have hb4 := thenB hb3 hc4
    clear hc4
    go_wp2_with fail
    go_ret
    exact ⟨by cases b4 <;> rfl, hb4⟩

set_option maxHeartbeats 2000000 in
theorem back_walk (x : RI) (w : World) :
    Calls Tryz.prog 14 #[.agg #[.slice x.a.A x.a.l.length x.a.c, .slice x.b.A x.b.l.length x.b.c, .slice x.o.A x.o.l.length x.o.c, .slice x.cA x.LC.length x.cc]] w fun e w' => e = .returned (.agg #[.slice x.a.A x.a.l.length x.a.c, .slice x.b.A x.b.l.length x.b.c, .slice x.o.A x.o.l.length x.o.c, .slice x.cA x.LC.length x.cc]) ∧ Below w.heap.size w w' := by
  go_enter Tryz.func14, Tryz.ntmps14
  have h2 : ((w.alloc (.cells #[.slice x.a.A x.a.l.length x.a.c, .slice x.b.A x.b.l.length x.b.c, .slice x.o.A x.o.l.length x.o.c, .slice x.cA x.LC.length x.cc] 28 (0, 0))).alloc (.cells #[.slice x.a.A x.a.l.length x.a.c, .slice x.b.A x.b.l.length x.b.c, .slice x.o.A x.o.l.length x.o.c, .slice x.cA x.LC.length x.cc] 33 (0, 0))).heap[w.heap.size + 1]? = some (.cells #[.slice x.a.A x.a.l.length x.a.c, .slice x.b.A x.b.l.length x.b.c, .slice x.o.A x.o.l.length x.o.c, .slice x.cA x.LC.length x.cc] 33 (0, 0)) := by
    have := heap_alloc_new (w.alloc (.cells #[.slice x.a.A x.a.l.length x.a.c, .slice x.b.A x.b.l.length x.b.c, .slice x.o.A x.o.l.length x.o.c, .slice x.cA x.LC.length x.cc] 28 (0, 0))) (.cells #[.slice x.a.A x.a.l.length x.a.c, .slice x.b.A x.b.l.length x.b.c, .slice x.o.A x.o.l.length x.o.c, .slice x.cA x.LC.length x.cc] 33 (0, 0))
    rw [World.size_alloc] at this
    exact this
  have y0 := (blkCell h2 0).trans (rfl : _ = some (Value.slice x.a.A x.a.l.length x.a.c))
  have y1 := (blkCell h2 1).trans (rfl : _ = some (Value.slice x.b.A x.b.l.length x.b.c))
  have y2 := (blkCell h2 2).trans (rfl : _ = some (Value.slice x.o.A x.o.l.length x.o.c))
  have y3 := (blkCell h2 3).trans (rfl : _ = some (Value.slice x.cA x.LC.length x.cc))
  have hb := thenA (thenA (Below.refl _ w) (.cells #[.slice x.a.A x.a.l.length x.a.c, .slice x.b.A x.b.l.length x.b.c, .slice x.o.A x.o.l.length x.o.c, .slice x.cA x.LC.length x.cc] 28 (0, 0))) (.cells #[.slice x.a.A x.a.l.length x.a.c, .slice x.b.A x.b.l.length x.b.c, .slice x.o.A x.o.l.length x.o.c, .slice x.cA x.LC.length x.cc] 33 (0, 0))
  clear h2
  go_wp2_with fail
  exact bodyPost_ret (v := .agg #[.slice x.a.A x.a.l.length x.a.c, .slice x.b.A x.b.l.length x.b.c, .slice x.o.A x.o.l.length x.o.c, .slice x.cA x.LC.length x.cc]) (by simp [results, Tryz.results14, go_sem, y0, y1, y2, y3]) rfl ⟨rfl, hb⟩

end Go.Proofs.YtfbbjfbnkcklgaaGreatDoor

/- law22.alive -/
namespace Go.Proofs.YtfbbjfbnkcklgaaGreatDoor
open Go.RowKit

def fileT (n : Int) : List AIt := [⟨[120], false, [n]⟩]
theorem out_one : mOut (fileT 49) (fileT 50) (fileT 49) = ⟨fileT 50, fileT 50, fileT 50, [], 0⟩ := by kernel_rfl
theorem out_two : mOut (fileT 49) (fileT 50) (fileT 51) = ⟨fileT 50, fileT 51, fileT 49, [[120]], 0⟩ := by kernel_rfl

theorem Tr.one1 {w : World} {b : Nat} {e : TypeId} (x : Itm) (h : w.heap[b]? = some (.cells #[.string x.p, .bool x.d, .slice x.dA x.bs.length x.dc] e (0, 0))) (hg : Good w x) : Tr w (some ⟨b, 0, Option.none⟩) 1 [x] := by
  refine ⟨⟨Nat.le_refl _, (fun h => by cases h), fun i y hy => ?_⟩, by simp, fun y hy => by rw [List.mem_singleton.1 hy]; exact hg⟩
  have hi : i < [x].length := (List.getElem?_eq_some_iff.1 hy).1
  obtain rfl : i = 0 := by simpa using hi
  obtain rfl : x = y := by simpa using hy
  exact ⟨b, 0, rfl, (blkCell h 0).trans rfl, (blkCell h 1).trans rfl, (blkCell h 2).trans rfl⟩

theorem ex_make : makeA [⟨[97], false, []⟩] [⟨[97], true, []⟩] = ([⟨1, [97], []⟩, ⟨2, [97], []⟩], 0) := by decide
theorem bytes_below (w : World) (e : TypeId) (s : ByteArray) : Below w.heap.size w (Go.Lib.bytesWorld w e s) := ⟨rfl, rfl, rfl, by rw [Go.Lib.bytesWorld_size]; omega, fun k hk => Go.Lib.bytesWorld_at_old w e s k hk⟩
set_option maxRecDepth 100000 in
set_option maxHeartbeats 2000000 in
theorem file_walk (b : UInt8) (w : World) :
    Calls Tryz.prog 34 #[.string ⟨#[b]⟩] w fun e w' => (∃ t : TrI, e = .returned (.slice t.A t.l.length t.c) ∧ Tr w' t.A t.c t.l ∧ t.l.map Itm.abs = [⟨[120], false, [(b.toNat : Int)]⟩]) ∧ Below w.heap.size w w' := by
  have kc := Go.Lib.run_convert_string_bytes (P := Tryz.prog) w 9 40 5 ⟨#[b]⟩ Tryz.underlying9 Tryz.underlying40 Tryz.underlying5
  have hb := bytes_below w 5 ⟨#[b]⟩
  have hc0 := Go.Lib.bytesWorld_cell w 5 ⟨#[b]⟩ 0 (by show 0 < 1; omega)
  have hcap := grownCap_ge w 1 0 5
  rw [show (⟨#[b]⟩ : ByteArray).size = 1 from rfl] at kc
  have hsz : (Go.Lib.bytesWorld w 5 ⟨#[b]⟩).heap.size = w.heap.size + 1 := Go.Lib.bytesWorld_size _ _ _
  generalize grownCap w 1 0 5 = G at *
  generalize Go.Lib.bytesWorld w 5 ⟨#[b]⟩ = W at *
  have hsrc : Src W 1 (.slice (some ⟨w.heap.size, 0, none⟩) 1 G) (nums [(b.toNat : Int)]) := ⟨_, 1, G, rfl, rfl, hcap, (fun h => nomatch h), fun j u hj => ⟨_, rfl, by
    rw [add_lit', Nat.zero_add]
    cases j with
    | zero => rw [hc0]; simpa [nums] using hj
    | succ j => simp [nums] at hj⟩⟩
  have hgood : Good W ⟨⟨#[120]⟩, false, some ⟨w.heap.size, 0, none⟩, G, [(b.toNat : Int)]⟩ := ⟨by show (1 : Nat) ≤ _; omega, by simp, hsrc, fun x hx => by
    have := b.toNat_lt
    simp at hx
    omega⟩
  have hba := thenA (Below.refl _ W) (.cells #[.string ⟨#[120]⟩, .bool false, .slice (some ⟨w.heap.size, 0, none⟩) 1 G] 42 (0, 0))
  have HT := hid (Tr.one1 (e := 42) ⟨⟨#[120]⟩, false, some ⟨w.heap.size, 0, none⟩, G, [(b.toNat : Int)]⟩ (heap_alloc_new W _) (hgood.below hba))
  have hbw := thenB hb hba
  clear hsrc hgood hc0 hcap hb hba hsz
  go_enter Tryz.func34, Tryz.ntmps34
  go_wp2_with fail
  go_ret
  exact ⟨⟨⟨some ⟨W.heap.size, 0, none⟩, 1, [⟨⟨#[120]⟩, false, some ⟨w.heap.size, 0, none⟩, G, [(b.toNat : Int)]⟩]⟩, rfl, HT.out, by simp [Itm.abs, toList_lit]⟩, hbw⟩

end Go.Proofs.YtfbbjfbnkcklgaaGreatDoor

/- law22.alive -/
namespace Go.Proofs.YtfbbjfbnkcklgaaGreatDoor
open Go.RowKit

/-- a call of Merge, the outcome known -/
theorem merge_is {o a b : TrI} {w : World} (ho : Tr w o.A o.c o.l) (ha : Tr w a.A a.c a.l) (hb : Tr w b.A b.c b.l) {O A B : List AIt} (eo : o.l.map Itm.abs = O) (ea : a.l.map Itm.abs = A) (eb : b.l.map Itm.abs = B) (lo : O.length ≤ 1000) (la : A.length ≤ 1000) (lb : B.length ≤ 1000) {m : MOut} (hm : mOut O A B = m) (hn : m.C.length ≤ 1000000) :
    Calls Tryz.prog 11 #[.slice o.A o.l.length o.c, .slice a.A a.l.length a.c, .slice b.A b.l.length b.c] w fun e w' => (∃ x : RI, e = .returned (.tuple #[.agg #[.slice x.a.A x.a.l.length x.a.c, .slice x.b.A x.b.l.length x.b.c, .slice x.o.A x.o.l.length x.o.c, .slice x.cA x.LC.length x.cc], .int .i64 m.code]) ∧ RIok w' x ∧ x.abs = (m.A, m.B, m.O, m.C)) ∧ Below w.heap.size w w' := by
  subst eo ea eb hm
  rw [List.length_map] at lo la lb
  refine (merge_any o a b w ho ha hb lo la lb).mono ?_
  rintro e w' ⟨⟨v, rfl, hv⟩, hbl⟩
  obtain ⟨x, rfl, hx, hxa⟩ := ri_of hv hn
  exact ⟨⟨x, rfl, hx, hxa⟩, hbl⟩

theorem merge_one {o a b : TrI} {w : World} (ho : Tr w o.A o.c o.l) (ha : Tr w a.A a.c a.l) (hb : Tr w b.A b.c b.l) (eo : o.l.map Itm.abs = fileT 49) (ea : a.l.map Itm.abs = fileT 50) (eb : b.l.map Itm.abs = fileT 49) :
    Calls Tryz.prog 11 #[.slice o.A o.l.length o.c, .slice a.A a.l.length a.c, .slice b.A b.l.length b.c] w fun e w' => (∃ (xa xb xo : TrI) (cA : Option Addr) (cc : Nat), e = .returned (.tuple #[.agg #[.slice xa.A xa.l.length xa.c, .slice xb.A xb.l.length xb.c, .slice xo.A xo.l.length xo.c, .slice cA 0 cc], .int .i64 0]) ∧ Tr w' xb.A xb.c xb.l ∧ xb.l.map Itm.abs = fileT 50) ∧ Below w.heap.size w w' := by
  refine (merge_is ho ha hb eo ea eb (by simp [fileT]) (by simp [fileT]) (by simp [fileT]) out_one (by simp)).mono ?_
  rintro e w' ⟨⟨⟨xa, xb, xo, cA, cc, LC⟩, rfl, hx, hxa⟩, hbl⟩
  unfold RI.abs at hxa
  simp only [Prod.mk.injEq, List.map_eq_nil_iff] at hxa
  obtain ⟨_, h2, _, rfl⟩ := hxa
  exact ⟨⟨xa, xb, xo, cA, cc, rfl, hx.b, h2⟩, hbl⟩
theorem merge_two {o a b : TrI} {w : World} (ho : Tr w o.A o.c o.l) (ha : Tr w a.A a.c a.l) (hb : Tr w b.A b.c b.l) (eo : o.l.map Itm.abs = fileT 49) (ea : a.l.map Itm.abs = fileT 50) (eb : b.l.map Itm.abs = fileT 51) :
    Calls Tryz.prog 11 #[.slice o.A o.l.length o.c, .slice a.A a.l.length a.c, .slice b.A b.l.length b.c] w fun e w' => (∃ (xa xb xo : TrI) (cb co cc : Nat), e = .returned (.tuple #[.agg #[.slice xa.A xa.l.length xa.c, .slice xb.A xb.l.length xb.c, .slice xo.A xo.l.length xo.c, .slice (some ⟨cb, co, none⟩) 1 cc], .int .i64 0]) ∧ Tr w' xb.A xb.c xb.l ∧ xb.l.map Itm.abs = fileT 51 ∧ w'.cell? ⟨cb, co, none⟩ = some (.string ⟨#[120]⟩)) ∧ Below w.heap.size w w' := by
  refine (merge_is ho ha hb eo ea eb (by simp [fileT]) (by simp [fileT]) (by simp [fileT]) out_two (by simp)).mono ?_
  rintro e w' ⟨⟨⟨xa, xb, xo, cA, cc, LC⟩, rfl, hx, hxa⟩, hbl⟩
  unfold RI.abs at hxa
  simp only [Prod.mk.injEq] at hxa
  obtain ⟨_, h2, _, h4⟩ := hxa
  have hl := congrArg List.length h4
  simp only [List.length_map, List.length_singleton] at hl
  obtain ⟨q, rfl⟩ : ∃ q, LC = [q] := List.length_eq_one_iff.1 hl
  have hq : q = ⟨#[120]⟩ := toList_inj (by simpa [toList_lit] using h4)
  subst hq
  obtain ⟨b0, off, hA, hc⟩ := hx.c.str (i := 0) (by simp)
  have hA' : cA = some ⟨b0, off, none⟩ := hA
  subst hA'
  exact ⟨⟨xa, xb, xo, b0, off, cc, rfl, hx.b, h2, by simpa using hc⟩, hbl⟩

set_option maxRecDepth 100000 in
set_option maxHeartbeats 4000000 in
theorem alive22_walk (w : World) : Calls Tryz.prog 10 #[] w fun e w' => e = .returned (.bool true) ∧ Below w.heap.size w w' := by
  have HF := hid (fun b W => file_walk b W)
  go_enter Tryz.func10, Tryz.ntmps10
  go_wp2_with fail
  refine (HF.out 49 _).mono ?_
  rintro e w1 ⟨⟨t1, rfl, h1, e1⟩, hb1⟩
  have H1 := hid h1
  have E1 := hid e1
  clear h1 e1
  go_wp2_with fail
  refine (HF.out 50 _).mono ?_
  rintro e w2 ⟨⟨t2, rfl, h2, e2⟩, hb2⟩
  have H2 := hid h2
  have E2 := hid e2
  clear h2 e2
  go_wp2_with fail
  refine (HF.out 49 _).mono ?_
  rintro e w3 ⟨⟨t3, rfl, h3, e3⟩, hb3⟩
  have HM := hid (merge_one ((H1.out.below hb2).below hb3) (H2.out.below hb3) h3 E1.out E2.out e3)
  have hbA := thenB hb1 (thenB hb2 hb3)
  clear h3 e3 hb1 hb2 hb3 H1 H2 E1 E2
  go_wp2_with fail
  refine HM.out.mono ?_
  rintro e w4 ⟨⟨xa, xb, xo, cA, cc, rfl, hx, hxe⟩, hb4⟩
  have hB4 := thenA (Below.refl _ w4) (.cells #[.slice xa.A xa.l.length xa.c, .slice xb.A xb.l.length xb.c, .slice xo.A xo.l.length xo.c, .slice cA 0 cc] 28 (0, 0))
  have hbB := thenB (thenB hbA hb4) hB4
  have q4 := heap_alloc_new w4 (.cells #[.slice xa.A xa.l.length xa.c, .slice xb.A xb.l.length xb.c, .slice xo.A xo.l.length xo.c, .slice cA 0 cc] 28 (0, 0))
  have HX := hid (hx.below hB4)
  have HXE := hid hxe
  clear hx hxe hb4 hbA HM hB4
  go_wp2_with fail
  refine (HF.out 49 _).mono ?_
  rintro e w5 ⟨⟨t1, rfl, h1, e1⟩, hb1⟩
  have H1 := hid h1
  have E1 := hid e1
  clear h1 e1
  go_wp2_with fail
  refine (HF.out 50 _).mono ?_
  rintro e w6 ⟨⟨t2, rfl, h2, e2⟩, hb2⟩
  have H2 := hid h2
  have E2 := hid e2
  clear h2 e2
  go_wp2_with fail
  refine (HF.out 51 _).mono ?_
  rintro e w7 ⟨⟨t3, rfl, h3, e3⟩, hb3⟩
  have HM := hid (merge_two ((H1.out.below hb2).below hb3) (H2.out.below hb3) h3 E1.out E2.out e3)
  have hbA := thenB hb1 (thenB hb2 hb3)
  clear h3 e3 hb1 hb2 hb3 H1 H2 E1 E2
  go_wp2_with fail
  refine HM.out.mono ?_
  rintro e w8 ⟨⟨ya, yb, yo, cb, co, cy, rfl, hy, hye, hyc⟩, hb8⟩
  have hB8 := thenA (Below.refl _ w8) (.cells #[.slice ya.A ya.l.length ya.c, .slice yb.A yb.l.length yb.c, .slice yo.A yo.l.length yo.c, .slice (some ⟨cb, co, none⟩) 1 cy] 28 (0, 0))
  have hbC := thenB (thenB hbA hb8) hB8
  have hbD := thenB hbB hbC
  have q8 := heap_alloc_new w8 (.cells #[.slice ya.A ya.l.length ya.c, .slice yb.A yb.l.length yb.c, .slice yo.A yo.l.length yo.c, .slice (some ⟨cb, co, none⟩) 1 cy] 28 (0, 0))
  have HX2 := hid (HX.out.below hbC)
  have HY := hid (hy.below hB8)
  have HYE := hid hye
  have q4' := (hbC.block _ (blkLt q4)).trans q4
  have hyc' := cellB hB8 hyc
  have hlt : w4.heap.size < w8.heap.size := by have h1 := blkLt q4; have h2 := (thenB hbA hb8).size; omega
  clear hy hye hyc hb8 hbA HM hB8 hbB hbC HX q4
  have k1 : (w8.alloc (.cells #[.slice ya.A ya.l.length ya.c, .slice yb.A yb.l.length yb.c, .slice yo.A yo.l.length yo.c, .slice (some ⟨cb, co, none⟩) 1 cy] 28 (0, 0))).cell? ⟨w4.heap.size, 1, none⟩ = some (.slice xb.A xb.l.length xb.c) := (blkCell q4' 1).trans rfl
  have k2 := (blkCell q4' 3).trans (rfl : _ = some (Value.slice cA 0 cc))
  have k3 := (blkCell q8 3).trans (rfl : _ = some (Value.slice (some ⟨cb, co, none⟩) 1 cy))
  have k4 := (blkCell q8 1).trans (rfl : _ = some (Value.slice yb.A yb.l.length yb.c))
  clear q4' q8
  go_wp2_with fail
  generalize w8.alloc (.cells #[.slice ya.A ya.l.length ya.c, .slice yb.A yb.l.length yb.c, .slice yo.A yo.l.length yo.c, .slice (some ⟨cb, co, none⟩) 1 cy] 28 (0, 0)) = w9 at *
  have HST : HidP (∀ W w', (Below w9.heap.size w9 W ∧ W.cell? ⟨w4.heap.size, 1, none⟩ = some (.slice xb.A xb.l.length xb.c) ∧ W.cell? ⟨w4.heap.size, 3, none⟩ = some (.slice cA 0 cc) ∧ W.cell? ⟨w8.heap.size, 3, none⟩ = some (.slice (some ⟨cb, co, none⟩) 1 cy) ∧ W.cell? ⟨w8.heap.size, 1, none⟩ = some (.slice yb.A yb.l.length yb.c) ∧ W.cell? ⟨cb, co, none⟩ = some (.string ⟨#[120]⟩)) → Below W.heap.size W w' → (Below w9.heap.size w9 w' ∧ w'.cell? ⟨w4.heap.size, 1, none⟩ = some (.slice xb.A xb.l.length xb.c) ∧ w'.cell? ⟨w4.heap.size, 3, none⟩ = some (.slice cA 0 cc) ∧ w'.cell? ⟨w8.heap.size, 3, none⟩ = some (.slice (some ⟨cb, co, none⟩) 1 cy) ∧ w'.cell? ⟨w8.heap.size, 1, none⟩ = some (.slice yb.A yb.l.length yb.c) ∧ w'.cell? ⟨cb, co, none⟩ = some (.string ⟨#[120]⟩))) := hid (fun W w' hW hb => ⟨thenB hW.1 hb, cellB hb hW.2.1, cellB hb hW.2.2.1, cellB hb hW.2.2.2.1, cellB hb hW.2.2.2.2.1, cellB hb hW.2.2.2.2.2⟩)
  have hs0 : Below w9.heap.size w9 w9 ∧ w9.cell? ⟨w4.heap.size, 1, none⟩ = some (.slice xb.A xb.l.length xb.c) ∧ w9.cell? ⟨w4.heap.size, 3, none⟩ = some (.slice cA 0 cc) ∧ w9.cell? ⟨w8.heap.size, 3, none⟩ = some (.slice (some ⟨cb, co, none⟩) 1 cy) ∧ w9.cell? ⟨w8.heap.size, 1, none⟩ = some (.slice yb.A yb.l.length yb.c) ∧ w9.cell? ⟨cb, co, none⟩ = some (.string ⟨#[120]⟩) := ⟨Below.refl _ _, k1, k2, k3, k4, hyc'⟩
  have HF1 : HidP (∀ W, (Below w9.heap.size w9 W ∧ W.cell? ⟨w4.heap.size, 1, none⟩ = some (.slice xb.A xb.l.length xb.c) ∧ W.cell? ⟨w4.heap.size, 3, none⟩ = some (.slice cA 0 cc) ∧ W.cell? ⟨w8.heap.size, 3, none⟩ = some (.slice (some ⟨cb, co, none⟩) 1 cy) ∧ W.cell? ⟨w8.heap.size, 1, none⟩ = some (.slice yb.A yb.l.length yb.c) ∧ W.cell? ⟨cb, co, none⟩ = some (.string ⟨#[120]⟩)) → Calls Tryz.prog 34 #[.string ⟨#[50]⟩] W fun e w' => (∃ t : TrI, e = .returned (.slice t.A t.l.length t.c) ∧ Tr w' t.A t.c t.l ∧ t.l.map Itm.abs = fileT 50) ∧ (Below w9.heap.size w9 w' ∧ w'.cell? ⟨w4.heap.size, 1, none⟩ = some (.slice xb.A xb.l.length xb.c) ∧ w'.cell? ⟨w4.heap.size, 3, none⟩ = some (.slice cA 0 cc) ∧ w'.cell? ⟨w8.heap.size, 3, none⟩ = some (.slice (some ⟨cb, co, none⟩) 1 cy) ∧ w'.cell? ⟨w8.heap.size, 1, none⟩ = some (.slice yb.A yb.l.length yb.c) ∧ w'.cell? ⟨cb, co, none⟩ = some (.string ⟨#[120]⟩))) := hid (fun W hW => (file_walk 50 W).mono (by
    rintro e w' ⟨⟨t, rfl, h1, h2⟩, h3⟩
    exact ⟨⟨t, rfl, h1, h2⟩, HST.out _ _ hW h3⟩))
  have HS1 : HidP (∀ W (t : TrI), (Below w9.heap.size w9 W ∧ W.cell? ⟨w4.heap.size, 1, none⟩ = some (.slice xb.A xb.l.length xb.c) ∧ W.cell? ⟨w4.heap.size, 3, none⟩ = some (.slice cA 0 cc) ∧ W.cell? ⟨w8.heap.size, 3, none⟩ = some (.slice (some ⟨cb, co, none⟩) 1 cy) ∧ W.cell? ⟨w8.heap.size, 1, none⟩ = some (.slice yb.A yb.l.length yb.c) ∧ W.cell? ⟨cb, co, none⟩ = some (.string ⟨#[120]⟩)) → Tr W t.A t.c t.l → t.l.map Itm.abs = fileT 50 → Calls Tryz.prog 19 #[.slice xb.A xb.l.length xb.c, .slice t.A t.l.length t.c] W fun e w' => e = .returned (.bool true) ∧ (Below w9.heap.size w9 w' ∧ w'.cell? ⟨w4.heap.size, 1, none⟩ = some (.slice xb.A xb.l.length xb.c) ∧ w'.cell? ⟨w4.heap.size, 3, none⟩ = some (.slice cA 0 cc) ∧ w'.cell? ⟨w8.heap.size, 3, none⟩ = some (.slice (some ⟨cb, co, none⟩) 1 cy) ∧ w'.cell? ⟨w8.heap.size, 1, none⟩ = some (.slice yb.A yb.l.length yb.c) ∧ w'.cell? ⟨cb, co, none⟩ = some (.string ⟨#[120]⟩))) := hid (fun W t hW ht he => (refsame xb.A t.A xb.c t.c xb.l t.l W (HX2.out.below hW.1) ht).mono (by
    rintro e w' ⟨rfl, h3⟩
    exact ⟨by rw [show sameL xb.l t.l = true from decide_eq_true (HXE.out.trans he.symm)], HST.out _ _ hW h3⟩))
  have HF2 : HidP (∀ W, (Below w9.heap.size w9 W ∧ W.cell? ⟨w4.heap.size, 1, none⟩ = some (.slice xb.A xb.l.length xb.c) ∧ W.cell? ⟨w4.heap.size, 3, none⟩ = some (.slice cA 0 cc) ∧ W.cell? ⟨w8.heap.size, 3, none⟩ = some (.slice (some ⟨cb, co, none⟩) 1 cy) ∧ W.cell? ⟨w8.heap.size, 1, none⟩ = some (.slice yb.A yb.l.length yb.c) ∧ W.cell? ⟨cb, co, none⟩ = some (.string ⟨#[120]⟩)) → Calls Tryz.prog 34 #[.string ⟨#[51]⟩] W fun e w' => (∃ t : TrI, e = .returned (.slice t.A t.l.length t.c) ∧ Tr w' t.A t.c t.l ∧ t.l.map Itm.abs = fileT 51) ∧ (Below w9.heap.size w9 w' ∧ w'.cell? ⟨w4.heap.size, 1, none⟩ = some (.slice xb.A xb.l.length xb.c) ∧ w'.cell? ⟨w4.heap.size, 3, none⟩ = some (.slice cA 0 cc) ∧ w'.cell? ⟨w8.heap.size, 3, none⟩ = some (.slice (some ⟨cb, co, none⟩) 1 cy) ∧ w'.cell? ⟨w8.heap.size, 1, none⟩ = some (.slice yb.A yb.l.length yb.c) ∧ w'.cell? ⟨cb, co, none⟩ = some (.string ⟨#[120]⟩))) := hid (fun W hW => (file_walk 51 W).mono (by
    rintro e w' ⟨⟨t, rfl, h1, h2⟩, h3⟩
    exact ⟨⟨t, rfl, h1, h2⟩, HST.out _ _ hW h3⟩))
  have HS2 : HidP (∀ W (t : TrI), (Below w9.heap.size w9 W ∧ W.cell? ⟨w4.heap.size, 1, none⟩ = some (.slice xb.A xb.l.length xb.c) ∧ W.cell? ⟨w4.heap.size, 3, none⟩ = some (.slice cA 0 cc) ∧ W.cell? ⟨w8.heap.size, 3, none⟩ = some (.slice (some ⟨cb, co, none⟩) 1 cy) ∧ W.cell? ⟨w8.heap.size, 1, none⟩ = some (.slice yb.A yb.l.length yb.c) ∧ W.cell? ⟨cb, co, none⟩ = some (.string ⟨#[120]⟩)) → Tr W t.A t.c t.l → t.l.map Itm.abs = fileT 51 → Calls Tryz.prog 19 #[.slice yb.A yb.l.length yb.c, .slice t.A t.l.length t.c] W fun e w' => e = .returned (.bool true) ∧ (Below w9.heap.size w9 w' ∧ w'.cell? ⟨w4.heap.size, 1, none⟩ = some (.slice xb.A xb.l.length xb.c) ∧ w'.cell? ⟨w4.heap.size, 3, none⟩ = some (.slice cA 0 cc) ∧ w'.cell? ⟨w8.heap.size, 3, none⟩ = some (.slice (some ⟨cb, co, none⟩) 1 cy) ∧ w'.cell? ⟨w8.heap.size, 1, none⟩ = some (.slice yb.A yb.l.length yb.c) ∧ w'.cell? ⟨cb, co, none⟩ = some (.string ⟨#[120]⟩))) := hid (fun W t hW ht he => (refsame yb.A t.A yb.c t.c yb.l t.l W (HY.out.below hW.1) ht).mono (by
    rintro e w' ⟨rfl, h3⟩
    exact ⟨by rw [show sameL yb.l t.l = true from decide_eq_true (HYE.out.trans he.symm)], HST.out _ _ hW h3⟩))

  have hs1 := HST.out _ w9.drew hs0 ⟨rfl, rfl, rfl, Nat.le_refl _, fun _ _ => rfl⟩
  clear hs0 k1 k2 k3 k4 hyc' HST
  have HBD := hid hbD
  clear hbD
  go_region_held3 (fun W => Below w9.heap.size w9 W ∧ W.cell? ⟨w4.heap.size, 1, none⟩ = some (.slice xb.A xb.l.length xb.c) ∧ W.cell? ⟨w4.heap.size, 3, none⟩ = some (.slice cA 0 cc) ∧ W.cell? ⟨w8.heap.size, 3, none⟩ = some (.slice (some ⟨cb, co, none⟩) 1 cy) ∧ W.cell? ⟨w8.heap.size, 1, none⟩ = some (.slice yb.A yb.l.length yb.c) ∧ W.cell? ⟨cb, co, none⟩ = some (.string ⟨#[120]⟩)) (assumption) (first | (refine step_callG 34 _ _ (by rfl) (by rfl) Tryz.func34 (by kernel_rfl) (by kernel_rfl) [.string ⟨#[50]⟩] (by rfl) (HF1.out _ (by assumption)) ?_; rintro e wf1 ⟨⟨tt1, rfl, hh1, ee1⟩, hS1⟩; have HT1 := hid hh1; have HE1 := hid ee1; clear hh1 ee1; refine ⟨_, rfl, ?_⟩) | (refine step_callG 19 _ _ (by rfl) (by rfl) Tryz.func19 (by kernel_rfl) (by kernel_rfl) [.slice xb.A xb.l.length xb.c, .slice tt1.A tt1.l.length tt1.c] (by rfl) (HS1.out _ tt1 (by assumption) HT1.out HE1.out) ?_; rintro e ws1 ⟨rfl, hZ1⟩; refine ⟨_, rfl, ?_⟩) | (refine step_callG 34 _ _ (by rfl) (by rfl) Tryz.func34 (by kernel_rfl) (by kernel_rfl) [.string ⟨#[51]⟩] (by rfl) (HF2.out _ (by assumption)) ?_; rintro e wf2 ⟨⟨tt2, rfl, hh2, ee2⟩, hS2⟩; have HT2 := hid hh2; have HE2 := hid ee2; clear hh2 ee2; refine ⟨_, rfl, ?_⟩) | (refine step_callG 19 _ _ (by rfl) (by rfl) Tryz.func19 (by kernel_rfl) (by kernel_rfl) [.slice yb.A yb.l.length yb.c, .slice tt2.A tt2.l.length tt2.c] (by rfl) (HS2.out _ tt2 (by assumption) HT2.out HE2.out) ?_; rintro e ws2 ⟨rfl, hZ2⟩; refine ⟨_, rfl, ?_⟩))
  go_wp2_with fail
  go_ret
  exact ⟨rfl, thenB HBD.out hZ2.1⟩

end Go.Proofs.YtfbbjfbnkcklgaaGreatDoor

/- what Merge answers, with its sides swapped, at what it made, at one side alone -/
namespace Go.Proofs.YtfbbjfbnkcklgaaGreatDoor
open Go.RowKit

section
variable {o a b : List AIt}
theorem right3_iff : right3 o a b = true ↔ Right3 o a b := by
  unfold right3
  rw [Bool.and_eq_true, Bool.and_eq_true, right_iff, right_iff, right_iff]
  exact ⟨fun h => ⟨h.1.1, h.1.2, h.2⟩, fun h => ⟨⟨h.o, h.a⟩, h.b⟩⟩
theorem bigB_iff : bigB o a b = false ↔ (mA o a b).length ≤ 60 ∧ (mB o a b).length ≤ 60 ∧ (mO o a b).length ≤ 60 := by
  unfold bigB mA mB mO
  rw [decide_eq_false_iff_not]
  omega
theorem out_zero (h : (mOut o a b).code = 0) : Right3 o a b ∧ bigB o a b = false ∧ mOut o a b = ⟨mA o a b, mB o a b, mO o a b, mgS o a b, 0⟩ := by
  unfold mOut at h ⊢
  cases h1 : right3 o a b
  · rw [h1] at h; simp at h
  · cases h2 : bigB o a b
    · exact ⟨right3_iff.1 h1, rfl, by simp⟩
    · rw [h1, h2] at h; simp at h
theorem out_is (h : Right3 o a b) (h2 : bigB o a b = false) : mOut o a b = ⟨mA o a b, mB o a b, mO o a b, mgS o a b, 0⟩ := by
  unfold mOut
  rw [if_pos (right3_iff.2 h), if_neg (by rw [h2]; simp)]
theorem mgS_ext {o' a' b' : List AIt} (h : ∀ c, c ∈ mgCs o a b ↔ c ∈ mgCs o' a' b') : mgS o a b = mgS o' a' b' := sortedN_ext mgS_sorted mgS_sorted fun c => by rw [mem_mgS, mem_mgS]; exact h c
theorem right3_swap : right3 o b a = right3 o a b := by
  unfold right3
  cases rightA o <;> cases rightA a <;> cases rightA b <;> rfl
theorem bigB_swap (h : Right3 o a b) : bigB o b a = bigB o a b := by
  obtain ⟨h1, h2, h3⟩ := swap_eq h
  have e : bigB o b a = false ↔ bigB o a b = false := by
    rw [bigB_iff, bigB_iff, h1, h2, h3]
    constructor <;> (rintro ⟨x, y, z⟩; exact ⟨y, x, z⟩)
  cases h4 : bigB o a b <;> cases h5 : bigB o b a <;> simp_all
theorem out_swap : (mOut o b a).code = (mOut o a b).code ∧ ((mOut o a b).code = 0 → mOut o b a = ⟨(mOut o a b).B, (mOut o a b).A, (mOut o a b).O, (mOut o a b).C, 0⟩) := by
  constructor
  · unfold mOut
    rw [right3_swap]
    cases h1 : right3 o a b
    · rfl
    · rw [bigB_swap (right3_iff.1 h1)]
      cases bigB o a b <;> rfl
  · intro h
    obtain ⟨h1, h2, h3⟩ := out_zero h
    obtain ⟨e1, e2, e3⟩ := swap_eq h1
    rw [h3, out_is h1.swap (by rw [bigB_swap h1]; exact h2), e1, e2, e3, mgS_ext (fun c => swap_Cs h1)]
theorem right_made (h : Right3 o a b) (h2 : bigB o a b = false) : Right3 (mO o a b) (mA o a b) (mB o a b) := by
  obtain ⟨l1, l2, l3⟩ := bigB_iff.1 h2
  exact ⟨right_mgT h (sel_O o a b) l3, right_mgT h (sel_A o a b) l1, right_mgT h (sel_B o a b) l2⟩
theorem out_again (h : (mOut o a b).code = 0) : mOut (mOut o a b).O (mOut o a b).A (mOut o a b).B = mOut o a b := by
  obtain ⟨h1, h2, h3⟩ := out_zero h
  have h' := right_made h1 h2
  obtain ⟨e1, e2, e3⟩ := again_eq h1 h'
  rw [h3]
  show mOut (mO o a b) (mA o a b) (mB o a b) = _
  rw [out_is h' (bigB_iff.2 (by rw [e1, e2, e3]; exact bigB_iff.1 h2)), e1, e2, e3, mgS_ext (fun c => again_Cs h1 h')]
theorem out_self (h : (mOut o a b).code = 0) : mOut o a a = ⟨a, a, a, [], 0⟩ := by
  obtain ⟨h1, _, _⟩ := out_zero h
  have hs : Right3 o a a := ⟨h1.o, h1.a, h1.a⟩
  obtain ⟨e1, e2⟩ := self_eq hs
  have e3 : mB o a a = a := by rw [← (swap_eq hs).1]; exact e1
  have hl : a.length ≤ 60 := h1.a.len
  rw [out_is hs (bigB_iff.2 (by rw [e1, e2, e3]; exact ⟨hl, hl, hl⟩)), e1, e2, e3]
  unfold mgS
  rw [self_Cs hs]
  rfl
end

end Go.Proofs.YtfbbjfbnkcklgaaGreatDoor

/- MergeAgain: the walk (printed by genF6.py) -/
namespace Go.Proofs.YtfbbjfbnkcklgaaGreatDoor
open Go.RowKit

theorem out_C_len (o a b : List AIt) : (mOut o a b).C.length ≤ o.length + a.length + b.length := by
  unfold mOut
  cases h1 : right3 o a b
  · simp
  · cases h2 : bigB o a b
    · have h := right3_iff.1 h1
      have h3 := mgCs_len h
      have h4 := congrArg List.length (mgS_of h)
      rw [List.length_mergeSort] at h4
      simp only [if_true]
      rw [if_neg (by simp)]
      show (mgS o a b).length ≤ _
      omega
    · simp
theorem light3 (o a b : TrI) (w : World) (h : TrQ w o.A o.c o.l) (k : TrQ w a.A a.c a.l) (j : TrQ w b.A b.c b.l) :
    Calls Tryz.prog 9 #[.slice (some ⟨w.heap.size, 0, none⟩) 3 3] (w.alloc (.cells #[.slice o.A o.l.length o.c, .slice a.A a.l.length a.c, .slice b.A b.l.length b.c] 22 (0, 0))) fun e w' => e = .returned (.bool (lightB o.l 62 && (lightB a.l 62 && lightB b.l 62))) ∧ (w.alloc (.cells #[.slice o.A o.l.length o.c, .slice a.A a.l.length a.c, .slice b.A b.l.length b.c] 22 (0, 0))) = w' := by
  have hb := thenA (Below.refl _ w) (.cells #[.slice o.A o.l.length o.c, .slice a.A a.l.length a.c, .slice b.A b.l.length b.c] 22 (0, 0))
  have h1 := (h.below hb).toTrW
  have h2 := (k.below hb).toTrW
  have h3 := (j.below hb).toTrW
  refine (light22_walk (some ⟨w.heap.size, 0, none⟩) 3 [o, a, b] _ (Recs.ofBlock (l := [o, a, b]) tri_len (heap_alloc_new w (.cells #[.slice o.A o.l.length o.c, .slice a.A a.l.length a.c, .slice b.A b.l.length b.c] 22 (0, 0))) rfl) (by simp) (fun t ht => ?_)).mono ?_
  · simp only [List.mem_cons, List.not_mem_nil, or_false] at ht
    rcases ht with rfl | rfl | rfl
    · exact h1
    · exact h2
    · exact h3
  · rintro e w' ⟨rfl, rfl⟩
    exact ⟨by simp, rfl⟩
theorem light_len {l : List Itm} (h : lightB l 62 = true) : l.length ≤ 62 := by
  unfold lightB at h
  rw [Bool.and_eq_true, decide_eq_true_eq] at h
  exact h.1
theorem merge_ri {o a b : TrI} {w : World} (ho : Tr w o.A o.c o.l) (ha : Tr w a.A a.c a.l) (hb : Tr w b.A b.c b.l) (lo : o.l.length ≤ 1000) (la : a.l.length ≤ 1000) (lb : b.l.length ≤ 1000) {m : MOut} (hm : mOut (o.l.map Itm.abs) (a.l.map Itm.abs) (b.l.map Itm.abs) = m) :
    Calls Tryz.prog 11 #[.slice o.A o.l.length o.c, .slice a.A a.l.length a.c, .slice b.A b.l.length b.c] w fun e w' => (∃ x : RI, e = .returned (.tuple #[.agg #[.slice x.a.A x.a.l.length x.a.c, .slice x.b.A x.b.l.length x.b.c, .slice x.o.A x.o.l.length x.o.c, .slice x.cA x.LC.length x.cc], .int .i64 m.code]) ∧ RIok w' x ∧ x.abs = (m.A, m.B, m.O, m.C)) ∧ Below w.heap.size w w' := by
  have hl := out_C_len (o.l.map Itm.abs) (a.l.map Itm.abs) (b.l.map Itm.abs)
  rw [List.length_map, List.length_map, List.length_map] at hl
  exact merge_is ho ha hb rfl rfl rfl (by rw [List.length_map]; exact lo) (by rw [List.length_map]; exact la) (by rw [List.length_map]; exact lb) hm (by rw [← hm]; omega)
theorem made_len {o a b : List AIt} (h : (mOut o a b).code = 0) : (mOut o a b).A.length ≤ 60 ∧ (mOut o a b).B.length ≤ 60 ∧ (mOut o a b).O.length ≤ 60 := by
  obtain ⟨_, h2, h3⟩ := out_zero h
  rw [h3]
  exact bigB_iff.1 h2
theorem merge_again {x : RI} {w : World} {o a b : List AIt} (hx : RIok w x) (hz : (mOut o a b).code = 0) (he : x.abs = ((mOut o a b).A, (mOut o a b).B, (mOut o a b).O, (mOut o a b).C)) :
    Calls Tryz.prog 11 #[.slice x.o.A x.o.l.length x.o.c, .slice x.a.A x.a.l.length x.a.c, .slice x.b.A x.b.l.length x.b.c] w fun e w' => (∃ y : RI, e = .returned (.tuple #[.agg #[.slice y.a.A y.a.l.length y.a.c, .slice y.b.A y.b.l.length y.b.c, .slice y.o.A y.o.l.length y.o.c, .slice y.cA y.LC.length y.cc], .int .i64 0]) ∧ RIok w' y ∧ y.abs = x.abs) ∧ Below w.heap.size w w' := by
  have he' := he
  unfold RI.abs at he'
  simp only [Prod.mk.injEq] at he'
  obtain ⟨h1, h2, h3, _⟩ := he'
  obtain ⟨n1, n2, n3⟩ := made_len hz
  have l1 := congrArg List.length h1
  have l2 := congrArg List.length h2
  have l3 := congrArg List.length h3
  rw [List.length_map] at l1 l2 l3
  refine (merge_ri (m := mOut o a b) hx.o hx.a hx.b (by omega) (by omega) (by omega) (by rw [h1, h2, h3]; exact out_again hz)).mono ?_
  rintro e w' ⟨⟨y, rfl, hy, hya⟩, hb⟩
  exact ⟨⟨y, by rw [hz], hy, hya.trans he.symm⟩, hb⟩
theorem merge_self {o a : TrI} {w : World} (ho : Tr w o.A o.c o.l) (ha : Tr w a.A a.c a.l) (lo : o.l.length ≤ 1000) (la : a.l.length ≤ 1000) (hm : mOut (o.l.map Itm.abs) (a.l.map Itm.abs) (a.l.map Itm.abs) = ⟨(a.l.map Itm.abs), (a.l.map Itm.abs), (a.l.map Itm.abs), [], 0⟩) :
    Calls Tryz.prog 11 #[.slice o.A o.l.length o.c, .slice a.A a.l.length a.c, .slice a.A a.l.length a.c] w fun e w' => (∃ (xa xb xo : TrI) (cA : Option Addr) (cc : Nat), e = .returned (.tuple #[.agg #[.slice xa.A xa.l.length xa.c, .slice xb.A xb.l.length xb.c, .slice xo.A xo.l.length xo.c, .slice cA 0 cc], .int .i64 0]) ∧ Tr w' xa.A xa.c xa.l ∧ xa.l.map Itm.abs = (a.l.map Itm.abs) ∧ Tr w' xo.A xo.c xo.l ∧ xo.l.map Itm.abs = (a.l.map Itm.abs)) ∧ Below w.heap.size w w' := by
  refine (merge_ri ho ha ha lo la la hm).mono ?_
  rintro e w' ⟨⟨⟨xa, xb, xo, cA, cc, LC⟩, rfl, hx, hxa⟩, hbl⟩
  unfold RI.abs at hxa
  simp only [Prod.mk.injEq, List.map_eq_nil_iff] at hxa
  obtain ⟨h1, _, h3, rfl⟩ := hxa
  exact ⟨⟨xa, xb, xo, cA, cc, rfl, hx.a, h1, hx.o, h3⟩, hbl⟩
theorem cells4 {W : World} {r : Nat} {x : RI} (h : W.heap[r]? = some (.cells #[.slice x.a.A x.a.l.length x.a.c, .slice x.b.A x.b.l.length x.b.c, .slice x.o.A x.o.l.length x.o.c, .slice x.cA x.LC.length x.cc] 28 (0, 0))) : W.cell? ⟨r, 0, none⟩ = some (.slice x.a.A x.a.l.length x.a.c) ∧ W.cell? ⟨r, 1, none⟩ = some (.slice x.b.A x.b.l.length x.b.c) ∧ W.cell? ⟨r, 2, none⟩ = some (.slice x.o.A x.o.l.length x.o.c) ∧ W.cell? ⟨r, 3, none⟩ = some (.slice x.cA x.LC.length x.cc) :=
  ⟨(blkCell h 0).trans rfl, (blkCell h 1).trans rfl, (blkCell h 2).trans rfl, (blkCell h 3).trans rfl⟩

set_option maxRecDepth 100000 in
set_option maxHeartbeats 8000000 in
theorem mergeagain_walk (o a b : TrI) (w : World) (qo : TrQ w o.A o.c o.l) (qa : TrQ w a.A a.c a.l) (qb : TrQ w b.A b.c b.l) :
    Calls Tryz.prog 5 #[.slice o.A o.l.length o.c, .slice a.A a.l.length a.c, .slice b.A b.l.length b.c] w fun e w' => e = .returned (.bool true) ∧ Below w.heap.size w w' := by
  have HA := hid alive22_walk
  have HL := hid (light3 o a b w qo qa qb)
  have hb0 := thenA (Below.refl _ w) (.cells #[.slice o.A o.l.length o.c, .slice a.A a.l.length a.c, .slice b.A b.l.length b.c] 22 (0, 0))
  cases hv : lightB o.l 62 && (lightB a.l 62 && lightB b.l 62)
  · rw [hv] at HL
    clear hv qo qa qb
    go_enter Tryz.func5, Tryz.ntmps5
    go_wp2_with fail
    refine HL.out.mono ?_
    rintro e w1 ⟨rfl, rfl⟩
    go_wp2_with fail
    refine (HA.out _).mono ?_
    rintro e w2 ⟨rfl, hb2⟩
    have hb3 := thenB hb0 hb2
    go_wp2_with fail
    go_ret
    exact ⟨rfl, hb3⟩
  rw [hv] at HL
  rw [Bool.and_eq_true, Bool.and_eq_true] at hv
  have ho := qo.tr hv.1 (by omega)
  have ha := qa.tr hv.2.1 (by omega)
  have hbb := qb.tr hv.2.2 (by omega)
  have n1 := light_len hv.1
  have n2 := light_len hv.2.1
  have n3 := light_len hv.2.2
  have HO := hid ho
  have HAA := hid ha
  have HB := hid hbb
  have HN : HidP (o.l.length ≤ 1000 ∧ a.l.length ≤ 1000 ∧ b.l.length ≤ 1000) := hid ⟨by omega, by omega, by omega⟩
  have HM1 := hid (merge_ri (ho.below hb0) (ha.below hb0) (hbb.below hb0) HN.out.1 HN.out.2.1 HN.out.2.2 rfl)
  clear hv qo qa qb ho ha hbb n1 n2 n3
  obtain ⟨n, hn⟩ : ∃ n, (mOut (o.l.map Itm.abs) (a.l.map Itm.abs) (b.l.map Itm.abs)).code = n := ⟨_, rfl⟩
  rw [hn] at HM1
  go_enter Tryz.func5, Tryz.ntmps5
  go_wp2_with fail
  refine HL.out.mono ?_
  rintro e w0 ⟨rfl, rfl⟩
  go_wp2_with fail
  refine HM1.out.mono ?_
  rintro e w1 ⟨⟨x1, rfl, hx1, e1⟩, hb1⟩
  have hbx := thenA (Below.refl _ w1) (.cells #[.slice x1.a.A x1.a.l.length x1.a.c, .slice x1.b.A x1.b.l.length x1.b.c, .slice x1.o.A x1.o.l.length x1.o.c, .slice x1.cA x1.LC.length x1.cc] 28 (0, 0))
  have hb1' := thenB (thenB hb0 hb1) hbx
  have q1 := heap_alloc_new w1 (.cells #[.slice x1.a.A x1.a.l.length x1.a.c, .slice x1.b.A x1.b.l.length x1.b.c, .slice x1.o.A x1.o.l.length x1.o.c, .slice x1.cA x1.LC.length x1.cc] 28 (0, 0))
  have HX1 := hid (hx1.below hbx)
  have HE1 := hid e1
  have hsw := out_swap (o := (o.l.map Itm.abs)) (a := (a.l.map Itm.abs)) (b := (b.l.map Itm.abs))
  have HM2 := hid (merge_ri (HO.out.below hb1') (HB.out.below hb1') (HAA.out.below hb1') HN.out.1 HN.out.2.2 HN.out.2.1 rfl)
  rw [hsw.1, hn] at HM2
  clear hx1 e1 hb1 hbx hb0 HM1 HL
  go_wp2_with fail
  refine HM2.out.mono ?_
  rintro e w2 ⟨⟨x2, rfl, hx2, e2⟩, hb2⟩
  have hbx := thenA (Below.refl _ w2) (.cells #[.slice x2.a.A x2.a.l.length x2.a.c, .slice x2.b.A x2.b.l.length x2.b.c, .slice x2.o.A x2.o.l.length x2.o.c, .slice x2.cA x2.LC.length x2.cc] 28 (0, 0))
  have hb2' := thenB hb1' (thenB hb2 hbx)
  have q2 := heap_alloc_new w2 (.cells #[.slice x2.a.A x2.a.l.length x2.a.c, .slice x2.b.A x2.b.l.length x2.b.c, .slice x2.o.A x2.o.l.length x2.o.c, .slice x2.cA x2.LC.length x2.cc] 28 (0, 0))
  have q1' := ((thenB hb2 hbx).block _ (blkLt q1)).trans q1
  have HX1' := hid (HX1.out.below (thenB hb2 hbx))
  have HX2 := hid (hx2.below hbx)
  have HE2 := hid e2
  clear hx2 e2 hb2 hbx hb1' HX1 HM2 q1
  go_wp2_with fail
  generalize w2.alloc (.cells #[.slice x2.a.A x2.a.l.length x2.a.c, .slice x2.b.A x2.b.l.length x2.b.c, .slice x2.o.A x2.o.l.length x2.o.c, .slice x2.cA x2.LC.length x2.cc] 28 (0, 0)) = w3 at *
  by_cases h0 : n = 0
  case neg =>
    have g1 : (n == 0) = false := by simp [h0]
    have g2 : decide (n = 0) = false := decide_eq_false h0
    have g3 : (n != 0) = true := by simp [h0]
    have HB2 := hid hb2'
    clear q1' q2 hb2'
    go_quiet (fail)
    have hbd : Below w3.heap.size w3 (w3.drewN nq) := ⟨rfl, rfl, rfl, Nat.le_refl _, fun _ _ => rfl⟩
    have HB3 := hid (thenB HB2.out hbd)
    clear hbd
    generalize w3.drewN nq = w4 at *
    go_wp2_with fail
    refine (HA.out _).mono ?_
    rintro e w5 ⟨rfl, hb5⟩
    have hb6 := thenB HB3.out hb5
    go_wp2_with fail
    go_ret
    exact ⟨rfl, hb6⟩
  subst h0
  have hz := hsw.2 hn
  obtain ⟨p0, p1, p2, p3⟩ := cells4 q1'
  obtain ⟨r0, r1, r2, r3⟩ := cells4 q2
  have HST : HidP (∀ W w', (Below w3.heap.size w3 W ∧ W.cell? ⟨w1.heap.size, 0, none⟩ = some (.slice x1.a.A x1.a.l.length x1.a.c) ∧ W.cell? ⟨w1.heap.size, 1, none⟩ = some (.slice x1.b.A x1.b.l.length x1.b.c) ∧ W.cell? ⟨w1.heap.size, 2, none⟩ = some (.slice x1.o.A x1.o.l.length x1.o.c) ∧ W.cell? ⟨w1.heap.size, 3, none⟩ = some (.slice x1.cA x1.LC.length x1.cc) ∧ W.cell? ⟨w2.heap.size, 0, none⟩ = some (.slice x2.a.A x2.a.l.length x2.a.c) ∧ W.cell? ⟨w2.heap.size, 1, none⟩ = some (.slice x2.b.A x2.b.l.length x2.b.c) ∧ W.cell? ⟨w2.heap.size, 2, none⟩ = some (.slice x2.o.A x2.o.l.length x2.o.c) ∧ W.cell? ⟨w2.heap.size, 3, none⟩ = some (.slice x2.cA x2.LC.length x2.cc)) → Below W.heap.size W w' → (Below w3.heap.size w3 w' ∧ w'.cell? ⟨w1.heap.size, 0, none⟩ = some (.slice x1.a.A x1.a.l.length x1.a.c) ∧ w'.cell? ⟨w1.heap.size, 1, none⟩ = some (.slice x1.b.A x1.b.l.length x1.b.c) ∧ w'.cell? ⟨w1.heap.size, 2, none⟩ = some (.slice x1.o.A x1.o.l.length x1.o.c) ∧ w'.cell? ⟨w1.heap.size, 3, none⟩ = some (.slice x1.cA x1.LC.length x1.cc) ∧ w'.cell? ⟨w2.heap.size, 0, none⟩ = some (.slice x2.a.A x2.a.l.length x2.a.c) ∧ w'.cell? ⟨w2.heap.size, 1, none⟩ = some (.slice x2.b.A x2.b.l.length x2.b.c) ∧ w'.cell? ⟨w2.heap.size, 2, none⟩ = some (.slice x2.o.A x2.o.l.length x2.o.c) ∧ w'.cell? ⟨w2.heap.size, 3, none⟩ = some (.slice x2.cA x2.LC.length x2.cc))) := hid (fun W w' hW hb => ⟨thenB hW.1 hb, cellB hb hW.2.1, cellB hb hW.2.2.1, cellB hb hW.2.2.2.1, cellB hb hW.2.2.2.2.1, cellB hb hW.2.2.2.2.2.1, cellB hb hW.2.2.2.2.2.2.1, cellB hb hW.2.2.2.2.2.2.2.1, cellB hb hW.2.2.2.2.2.2.2.2⟩)
  have hs0 : Below w3.heap.size w3 w3.drew ∧ w3.drew.cell? ⟨w1.heap.size, 0, none⟩ = some (.slice x1.a.A x1.a.l.length x1.a.c) ∧ w3.drew.cell? ⟨w1.heap.size, 1, none⟩ = some (.slice x1.b.A x1.b.l.length x1.b.c) ∧ w3.drew.cell? ⟨w1.heap.size, 2, none⟩ = some (.slice x1.o.A x1.o.l.length x1.o.c) ∧ w3.drew.cell? ⟨w1.heap.size, 3, none⟩ = some (.slice x1.cA x1.LC.length x1.cc) ∧ w3.drew.cell? ⟨w2.heap.size, 0, none⟩ = some (.slice x2.a.A x2.a.l.length x2.a.c) ∧ w3.drew.cell? ⟨w2.heap.size, 1, none⟩ = some (.slice x2.b.A x2.b.l.length x2.b.c) ∧ w3.drew.cell? ⟨w2.heap.size, 2, none⟩ = some (.slice x2.o.A x2.o.l.length x2.o.c) ∧ w3.drew.cell? ⟨w2.heap.size, 3, none⟩ = some (.slice x2.cA x2.LC.length x2.cc) := ⟨⟨rfl, rfl, rfl, Nat.le_refl _, fun _ _ => rfl⟩, p0, p1, p2, p3, r0, r1, r2, r3⟩
  have HBK : HidP (∀ W, (Below w3.heap.size w3 W ∧ W.cell? ⟨w1.heap.size, 0, none⟩ = some (.slice x1.a.A x1.a.l.length x1.a.c) ∧ W.cell? ⟨w1.heap.size, 1, none⟩ = some (.slice x1.b.A x1.b.l.length x1.b.c) ∧ W.cell? ⟨w1.heap.size, 2, none⟩ = some (.slice x1.o.A x1.o.l.length x1.o.c) ∧ W.cell? ⟨w1.heap.size, 3, none⟩ = some (.slice x1.cA x1.LC.length x1.cc) ∧ W.cell? ⟨w2.heap.size, 0, none⟩ = some (.slice x2.a.A x2.a.l.length x2.a.c) ∧ W.cell? ⟨w2.heap.size, 1, none⟩ = some (.slice x2.b.A x2.b.l.length x2.b.c) ∧ W.cell? ⟨w2.heap.size, 2, none⟩ = some (.slice x2.o.A x2.o.l.length x2.o.c) ∧ W.cell? ⟨w2.heap.size, 3, none⟩ = some (.slice x2.cA x2.LC.length x2.cc)) → Calls Tryz.prog 14 #[.agg #[.slice x1.a.A x1.a.l.length x1.a.c, .slice x1.b.A x1.b.l.length x1.b.c, .slice x1.o.A x1.o.l.length x1.o.c, .slice x1.cA x1.LC.length x1.cc]] W fun e w' => e = .returned (.agg #[.slice x1.a.A x1.a.l.length x1.a.c, .slice x1.b.A x1.b.l.length x1.b.c, .slice x1.o.A x1.o.l.length x1.o.c, .slice x1.cA x1.LC.length x1.cc]) ∧ (Below w3.heap.size w3 w' ∧ w'.cell? ⟨w1.heap.size, 0, none⟩ = some (.slice x1.a.A x1.a.l.length x1.a.c) ∧ w'.cell? ⟨w1.heap.size, 1, none⟩ = some (.slice x1.b.A x1.b.l.length x1.b.c) ∧ w'.cell? ⟨w1.heap.size, 2, none⟩ = some (.slice x1.o.A x1.o.l.length x1.o.c) ∧ w'.cell? ⟨w1.heap.size, 3, none⟩ = some (.slice x1.cA x1.LC.length x1.cc) ∧ w'.cell? ⟨w2.heap.size, 0, none⟩ = some (.slice x2.a.A x2.a.l.length x2.a.c) ∧ w'.cell? ⟨w2.heap.size, 1, none⟩ = some (.slice x2.b.A x2.b.l.length x2.b.c) ∧ w'.cell? ⟨w2.heap.size, 2, none⟩ = some (.slice x2.o.A x2.o.l.length x2.o.c) ∧ w'.cell? ⟨w2.heap.size, 3, none⟩ = some (.slice x2.cA x2.LC.length x2.cc))) := hid (fun W hW => (back_walk x1 W).mono (by
    rintro e w' ⟨rfl, h3⟩
    exact ⟨rfl, HST.out _ _ hW h3⟩))
  have HSM : HidP (∀ W, (Below w3.heap.size w3 W ∧ W.cell? ⟨w1.heap.size, 0, none⟩ = some (.slice x1.a.A x1.a.l.length x1.a.c) ∧ W.cell? ⟨w1.heap.size, 1, none⟩ = some (.slice x1.b.A x1.b.l.length x1.b.c) ∧ W.cell? ⟨w1.heap.size, 2, none⟩ = some (.slice x1.o.A x1.o.l.length x1.o.c) ∧ W.cell? ⟨w1.heap.size, 3, none⟩ = some (.slice x1.cA x1.LC.length x1.cc) ∧ W.cell? ⟨w2.heap.size, 0, none⟩ = some (.slice x2.a.A x2.a.l.length x2.a.c) ∧ W.cell? ⟨w2.heap.size, 1, none⟩ = some (.slice x2.b.A x2.b.l.length x2.b.c) ∧ W.cell? ⟨w2.heap.size, 2, none⟩ = some (.slice x2.o.A x2.o.l.length x2.o.c) ∧ W.cell? ⟨w2.heap.size, 3, none⟩ = some (.slice x2.cA x2.LC.length x2.cc)) → Calls Tryz.prog 13 #[.agg #[.slice x1.a.A x1.a.l.length x1.a.c, .slice x1.b.A x1.b.l.length x1.b.c, .slice x1.o.A x1.o.l.length x1.o.c, .slice x1.cA x1.LC.length x1.cc], .agg #[.slice x2.b.A x2.b.l.length x2.b.c, .slice x2.a.A x2.a.l.length x2.a.c, .slice x2.o.A x2.o.l.length x2.o.c, .slice x2.cA x2.LC.length x2.cc]] W fun e w' => e = .returned (.bool true) ∧ (Below w3.heap.size w3 w' ∧ w'.cell? ⟨w1.heap.size, 0, none⟩ = some (.slice x1.a.A x1.a.l.length x1.a.c) ∧ w'.cell? ⟨w1.heap.size, 1, none⟩ = some (.slice x1.b.A x1.b.l.length x1.b.c) ∧ w'.cell? ⟨w1.heap.size, 2, none⟩ = some (.slice x1.o.A x1.o.l.length x1.o.c) ∧ w'.cell? ⟨w1.heap.size, 3, none⟩ = some (.slice x1.cA x1.LC.length x1.cc) ∧ w'.cell? ⟨w2.heap.size, 0, none⟩ = some (.slice x2.a.A x2.a.l.length x2.a.c) ∧ w'.cell? ⟨w2.heap.size, 1, none⟩ = some (.slice x2.b.A x2.b.l.length x2.b.c) ∧ w'.cell? ⟨w2.heap.size, 2, none⟩ = some (.slice x2.o.A x2.o.l.length x2.o.c) ∧ w'.cell? ⟨w2.heap.size, 3, none⟩ = some (.slice x2.cA x2.LC.length x2.cc))) := hid (fun W hW => (same22_walk x1 ⟨x2.b, x2.a, x2.o, x2.cA, x2.cc, x2.LC⟩ W (HX1'.out.below hW.1) ((show RIok w3 ⟨x2.b, x2.a, x2.o, x2.cA, x2.cc, x2.LC⟩ from ⟨HX2.out.b, HX2.out.a, HX2.out.o, HX2.out.c, HX2.out.n⟩).below hW.1)).mono (by
    rintro e w' ⟨rfl, h3⟩
    exact ⟨by rw [show sameR x1 ⟨x2.b, x2.a, x2.o, x2.cA, x2.cc, x2.LC⟩ = true from sameR_iff.2 (by have h2 := HE2.out; rw [hz] at h2; have h1 := HE1.out; unfold RI.abs at h1 h2 ⊢; simp only [Prod.mk.injEq] at h1 h2 ⊢; exact ⟨h1.1.trans h2.2.1.symm, h1.2.1.trans h2.1.symm, h1.2.2.1.trans h2.2.2.1.symm, h1.2.2.2.trans h2.2.2.2.symm⟩)], HST.out _ _ hW h3⟩))

  have HB2 := hid hb2'
  have HQ1 := hid q1'
  have HZ := hid hn
  clear p0 p1 p2 p3 r0 r1 r2 r3 q1' q2 hb2' HST hsw hz hn
  go_region_held3 (fun W => Below w3.heap.size w3 W ∧ W.cell? ⟨w1.heap.size, 0, none⟩ = some (.slice x1.a.A x1.a.l.length x1.a.c) ∧ W.cell? ⟨w1.heap.size, 1, none⟩ = some (.slice x1.b.A x1.b.l.length x1.b.c) ∧ W.cell? ⟨w1.heap.size, 2, none⟩ = some (.slice x1.o.A x1.o.l.length x1.o.c) ∧ W.cell? ⟨w1.heap.size, 3, none⟩ = some (.slice x1.cA x1.LC.length x1.cc) ∧ W.cell? ⟨w2.heap.size, 0, none⟩ = some (.slice x2.a.A x2.a.l.length x2.a.c) ∧ W.cell? ⟨w2.heap.size, 1, none⟩ = some (.slice x2.b.A x2.b.l.length x2.b.c) ∧ W.cell? ⟨w2.heap.size, 2, none⟩ = some (.slice x2.o.A x2.o.l.length x2.o.c) ∧ W.cell? ⟨w2.heap.size, 3, none⟩ = some (.slice x2.cA x2.LC.length x2.cc)) (assumption) (first | (refine step_callG 14 _ _ (by rfl) (by rfl) Tryz.func14 (by kernel_rfl) (by kernel_rfl) [.agg #[.slice x1.a.A x1.a.l.length x1.a.c, .slice x1.b.A x1.b.l.length x1.b.c, .slice x1.o.A x1.o.l.length x1.o.c, .slice x1.cA x1.LC.length x1.cc]] (by rfl) (HBK.out _ (by assumption)) ?_; rintro e wk1 ⟨rfl, hK1⟩; refine ⟨_, rfl, ?_⟩) | (refine step_callG 13 _ _ (by rfl) (by rfl) Tryz.func13 (by kernel_rfl) (by kernel_rfl) [.agg #[.slice x1.a.A x1.a.l.length x1.a.c, .slice x1.b.A x1.b.l.length x1.b.c, .slice x1.o.A x1.o.l.length x1.o.c, .slice x1.cA x1.LC.length x1.cc], .agg #[.slice x2.b.A x2.b.l.length x2.b.c, .slice x2.a.A x2.a.l.length x2.a.c, .slice x2.o.A x2.o.l.length x2.o.c, .slice x2.cA x2.LC.length x2.cc]] (by rfl) (HSM.out _ (by assumption)) ?_; rintro e wk2 ⟨rfl, hK2⟩; refine ⟨_, rfl, ?_⟩))
  obtain ⟨hbK, p0, p1, p2, p3, _⟩ := hK2
  have q1k := (hbK.block _ (blkLt HQ1.out)).trans HQ1.out
  have HX1k := hid (HX1'.out.below hbK)
  have hb4 := thenB HB2.out hbK
  have HM3 := hid (merge_again HX1k.out HZ.out HE1.out)
  clear hK1 HBK HSM hbK HB2 HQ1 HX1' HX2 HE2
  go_wp2_with fail
  refine HM3.out.mono ?_
  rintro e w4 ⟨⟨x3, rfl, hx3, e3⟩, hb5⟩
  have hbx := thenA (Below.refl _ w4) (.cells #[.slice x3.a.A x3.a.l.length x3.a.c, .slice x3.b.A x3.b.l.length x3.b.c, .slice x3.o.A x3.o.l.length x3.o.c, .slice x3.cA x3.LC.length x3.cc] 28 (0, 0))
  have hb6 := thenB hb4 (thenB hb5 hbx)
  have q3 := heap_alloc_new w4 (.cells #[.slice x3.a.A x3.a.l.length x3.a.c, .slice x3.b.A x3.b.l.length x3.b.c, .slice x3.o.A x3.o.l.length x3.o.c, .slice x3.cA x3.LC.length x3.cc] 28 (0, 0))
  have q1' := ((thenB hb5 hbx).block _ (blkLt q1k)).trans q1k
  have HX1 := hid (HX1k.out.below (thenB hb5 hbx))
  have HX3 := hid (hx3.below hbx)
  have HE3 := hid e3
  clear hx3 e3 hb4 hb5 hbx q1k HX1k HM3 p0 p1 p2 p3
  go_wp2_with fail
  generalize w4.alloc (.cells #[.slice x3.a.A x3.a.l.length x3.a.c, .slice x3.b.A x3.b.l.length x3.b.c, .slice x3.o.A x3.o.l.length x3.o.c, .slice x3.cA x3.LC.length x3.cc] 28 (0, 0)) = w5 at *
  obtain ⟨p0, p1, p2, p3⟩ := cells4 q1'
  obtain ⟨r0, r1, r2, r3⟩ := cells4 q3
  have HST : HidP (∀ W w', (Below w5.heap.size w5 W ∧ W.cell? ⟨w1.heap.size, 0, none⟩ = some (.slice x1.a.A x1.a.l.length x1.a.c) ∧ W.cell? ⟨w1.heap.size, 1, none⟩ = some (.slice x1.b.A x1.b.l.length x1.b.c) ∧ W.cell? ⟨w1.heap.size, 2, none⟩ = some (.slice x1.o.A x1.o.l.length x1.o.c) ∧ W.cell? ⟨w1.heap.size, 3, none⟩ = some (.slice x1.cA x1.LC.length x1.cc) ∧ W.cell? ⟨w4.heap.size, 0, none⟩ = some (.slice x3.a.A x3.a.l.length x3.a.c) ∧ W.cell? ⟨w4.heap.size, 1, none⟩ = some (.slice x3.b.A x3.b.l.length x3.b.c) ∧ W.cell? ⟨w4.heap.size, 2, none⟩ = some (.slice x3.o.A x3.o.l.length x3.o.c) ∧ W.cell? ⟨w4.heap.size, 3, none⟩ = some (.slice x3.cA x3.LC.length x3.cc)) → Below W.heap.size W w' → (Below w5.heap.size w5 w' ∧ w'.cell? ⟨w1.heap.size, 0, none⟩ = some (.slice x1.a.A x1.a.l.length x1.a.c) ∧ w'.cell? ⟨w1.heap.size, 1, none⟩ = some (.slice x1.b.A x1.b.l.length x1.b.c) ∧ w'.cell? ⟨w1.heap.size, 2, none⟩ = some (.slice x1.o.A x1.o.l.length x1.o.c) ∧ w'.cell? ⟨w1.heap.size, 3, none⟩ = some (.slice x1.cA x1.LC.length x1.cc) ∧ w'.cell? ⟨w4.heap.size, 0, none⟩ = some (.slice x3.a.A x3.a.l.length x3.a.c) ∧ w'.cell? ⟨w4.heap.size, 1, none⟩ = some (.slice x3.b.A x3.b.l.length x3.b.c) ∧ w'.cell? ⟨w4.heap.size, 2, none⟩ = some (.slice x3.o.A x3.o.l.length x3.o.c) ∧ w'.cell? ⟨w4.heap.size, 3, none⟩ = some (.slice x3.cA x3.LC.length x3.cc))) := hid (fun W w' hW hb => ⟨thenB hW.1 hb, cellB hb hW.2.1, cellB hb hW.2.2.1, cellB hb hW.2.2.2.1, cellB hb hW.2.2.2.2.1, cellB hb hW.2.2.2.2.2.1, cellB hb hW.2.2.2.2.2.2.1, cellB hb hW.2.2.2.2.2.2.2.1, cellB hb hW.2.2.2.2.2.2.2.2⟩)
  have hs0 : Below w5.heap.size w5 w5.drew ∧ w5.drew.cell? ⟨w1.heap.size, 0, none⟩ = some (.slice x1.a.A x1.a.l.length x1.a.c) ∧ w5.drew.cell? ⟨w1.heap.size, 1, none⟩ = some (.slice x1.b.A x1.b.l.length x1.b.c) ∧ w5.drew.cell? ⟨w1.heap.size, 2, none⟩ = some (.slice x1.o.A x1.o.l.length x1.o.c) ∧ w5.drew.cell? ⟨w1.heap.size, 3, none⟩ = some (.slice x1.cA x1.LC.length x1.cc) ∧ w5.drew.cell? ⟨w4.heap.size, 0, none⟩ = some (.slice x3.a.A x3.a.l.length x3.a.c) ∧ w5.drew.cell? ⟨w4.heap.size, 1, none⟩ = some (.slice x3.b.A x3.b.l.length x3.b.c) ∧ w5.drew.cell? ⟨w4.heap.size, 2, none⟩ = some (.slice x3.o.A x3.o.l.length x3.o.c) ∧ w5.drew.cell? ⟨w4.heap.size, 3, none⟩ = some (.slice x3.cA x3.LC.length x3.cc) := ⟨⟨rfl, rfl, rfl, Nat.le_refl _, fun _ _ => rfl⟩, p0, p1, p2, p3, r0, r1, r2, r3⟩
  have HBK : HidP (∀ W, (Below w5.heap.size w5 W ∧ W.cell? ⟨w1.heap.size, 0, none⟩ = some (.slice x1.a.A x1.a.l.length x1.a.c) ∧ W.cell? ⟨w1.heap.size, 1, none⟩ = some (.slice x1.b.A x1.b.l.length x1.b.c) ∧ W.cell? ⟨w1.heap.size, 2, none⟩ = some (.slice x1.o.A x1.o.l.length x1.o.c) ∧ W.cell? ⟨w1.heap.size, 3, none⟩ = some (.slice x1.cA x1.LC.length x1.cc) ∧ W.cell? ⟨w4.heap.size, 0, none⟩ = some (.slice x3.a.A x3.a.l.length x3.a.c) ∧ W.cell? ⟨w4.heap.size, 1, none⟩ = some (.slice x3.b.A x3.b.l.length x3.b.c) ∧ W.cell? ⟨w4.heap.size, 2, none⟩ = some (.slice x3.o.A x3.o.l.length x3.o.c) ∧ W.cell? ⟨w4.heap.size, 3, none⟩ = some (.slice x3.cA x3.LC.length x3.cc)) → Calls Tryz.prog 14 #[.agg #[.slice x3.a.A x3.a.l.length x3.a.c, .slice x3.b.A x3.b.l.length x3.b.c, .slice x3.o.A x3.o.l.length x3.o.c, .slice x3.cA x3.LC.length x3.cc]] W fun e w' => e = .returned (.agg #[.slice x3.a.A x3.a.l.length x3.a.c, .slice x3.b.A x3.b.l.length x3.b.c, .slice x3.o.A x3.o.l.length x3.o.c, .slice x3.cA x3.LC.length x3.cc]) ∧ (Below w5.heap.size w5 w' ∧ w'.cell? ⟨w1.heap.size, 0, none⟩ = some (.slice x1.a.A x1.a.l.length x1.a.c) ∧ w'.cell? ⟨w1.heap.size, 1, none⟩ = some (.slice x1.b.A x1.b.l.length x1.b.c) ∧ w'.cell? ⟨w1.heap.size, 2, none⟩ = some (.slice x1.o.A x1.o.l.length x1.o.c) ∧ w'.cell? ⟨w1.heap.size, 3, none⟩ = some (.slice x1.cA x1.LC.length x1.cc) ∧ w'.cell? ⟨w4.heap.size, 0, none⟩ = some (.slice x3.a.A x3.a.l.length x3.a.c) ∧ w'.cell? ⟨w4.heap.size, 1, none⟩ = some (.slice x3.b.A x3.b.l.length x3.b.c) ∧ w'.cell? ⟨w4.heap.size, 2, none⟩ = some (.slice x3.o.A x3.o.l.length x3.o.c) ∧ w'.cell? ⟨w4.heap.size, 3, none⟩ = some (.slice x3.cA x3.LC.length x3.cc))) := hid (fun W hW => (back_walk x3 W).mono (by
    rintro e w' ⟨rfl, h3⟩
    exact ⟨rfl, HST.out _ _ hW h3⟩))
  have HBL : HidP (∀ W, (Below w5.heap.size w5 W ∧ W.cell? ⟨w1.heap.size, 0, none⟩ = some (.slice x1.a.A x1.a.l.length x1.a.c) ∧ W.cell? ⟨w1.heap.size, 1, none⟩ = some (.slice x1.b.A x1.b.l.length x1.b.c) ∧ W.cell? ⟨w1.heap.size, 2, none⟩ = some (.slice x1.o.A x1.o.l.length x1.o.c) ∧ W.cell? ⟨w1.heap.size, 3, none⟩ = some (.slice x1.cA x1.LC.length x1.cc) ∧ W.cell? ⟨w4.heap.size, 0, none⟩ = some (.slice x3.a.A x3.a.l.length x3.a.c) ∧ W.cell? ⟨w4.heap.size, 1, none⟩ = some (.slice x3.b.A x3.b.l.length x3.b.c) ∧ W.cell? ⟨w4.heap.size, 2, none⟩ = some (.slice x3.o.A x3.o.l.length x3.o.c) ∧ W.cell? ⟨w4.heap.size, 3, none⟩ = some (.slice x3.cA x3.LC.length x3.cc)) → Calls Tryz.prog 14 #[.agg #[.slice x1.a.A x1.a.l.length x1.a.c, .slice x1.b.A x1.b.l.length x1.b.c, .slice x1.o.A x1.o.l.length x1.o.c, .slice x1.cA x1.LC.length x1.cc]] W fun e w' => e = .returned (.agg #[.slice x1.a.A x1.a.l.length x1.a.c, .slice x1.b.A x1.b.l.length x1.b.c, .slice x1.o.A x1.o.l.length x1.o.c, .slice x1.cA x1.LC.length x1.cc]) ∧ (Below w5.heap.size w5 w' ∧ w'.cell? ⟨w1.heap.size, 0, none⟩ = some (.slice x1.a.A x1.a.l.length x1.a.c) ∧ w'.cell? ⟨w1.heap.size, 1, none⟩ = some (.slice x1.b.A x1.b.l.length x1.b.c) ∧ w'.cell? ⟨w1.heap.size, 2, none⟩ = some (.slice x1.o.A x1.o.l.length x1.o.c) ∧ w'.cell? ⟨w1.heap.size, 3, none⟩ = some (.slice x1.cA x1.LC.length x1.cc) ∧ w'.cell? ⟨w4.heap.size, 0, none⟩ = some (.slice x3.a.A x3.a.l.length x3.a.c) ∧ w'.cell? ⟨w4.heap.size, 1, none⟩ = some (.slice x3.b.A x3.b.l.length x3.b.c) ∧ w'.cell? ⟨w4.heap.size, 2, none⟩ = some (.slice x3.o.A x3.o.l.length x3.o.c) ∧ w'.cell? ⟨w4.heap.size, 3, none⟩ = some (.slice x3.cA x3.LC.length x3.cc))) := hid (fun W hW => (back_walk x1 W).mono (by
    rintro e w' ⟨rfl, h3⟩
    exact ⟨rfl, HST.out _ _ hW h3⟩))
  have HSM : HidP (∀ W, (Below w5.heap.size w5 W ∧ W.cell? ⟨w1.heap.size, 0, none⟩ = some (.slice x1.a.A x1.a.l.length x1.a.c) ∧ W.cell? ⟨w1.heap.size, 1, none⟩ = some (.slice x1.b.A x1.b.l.length x1.b.c) ∧ W.cell? ⟨w1.heap.size, 2, none⟩ = some (.slice x1.o.A x1.o.l.length x1.o.c) ∧ W.cell? ⟨w1.heap.size, 3, none⟩ = some (.slice x1.cA x1.LC.length x1.cc) ∧ W.cell? ⟨w4.heap.size, 0, none⟩ = some (.slice x3.a.A x3.a.l.length x3.a.c) ∧ W.cell? ⟨w4.heap.size, 1, none⟩ = some (.slice x3.b.A x3.b.l.length x3.b.c) ∧ W.cell? ⟨w4.heap.size, 2, none⟩ = some (.slice x3.o.A x3.o.l.length x3.o.c) ∧ W.cell? ⟨w4.heap.size, 3, none⟩ = some (.slice x3.cA x3.LC.length x3.cc)) → Calls Tryz.prog 13 #[.agg #[.slice x3.a.A x3.a.l.length x3.a.c, .slice x3.b.A x3.b.l.length x3.b.c, .slice x3.o.A x3.o.l.length x3.o.c, .slice x3.cA x3.LC.length x3.cc], .agg #[.slice x1.a.A x1.a.l.length x1.a.c, .slice x1.b.A x1.b.l.length x1.b.c, .slice x1.o.A x1.o.l.length x1.o.c, .slice x1.cA x1.LC.length x1.cc]] W fun e w' => e = .returned (.bool true) ∧ (Below w5.heap.size w5 w' ∧ w'.cell? ⟨w1.heap.size, 0, none⟩ = some (.slice x1.a.A x1.a.l.length x1.a.c) ∧ w'.cell? ⟨w1.heap.size, 1, none⟩ = some (.slice x1.b.A x1.b.l.length x1.b.c) ∧ w'.cell? ⟨w1.heap.size, 2, none⟩ = some (.slice x1.o.A x1.o.l.length x1.o.c) ∧ w'.cell? ⟨w1.heap.size, 3, none⟩ = some (.slice x1.cA x1.LC.length x1.cc) ∧ w'.cell? ⟨w4.heap.size, 0, none⟩ = some (.slice x3.a.A x3.a.l.length x3.a.c) ∧ w'.cell? ⟨w4.heap.size, 1, none⟩ = some (.slice x3.b.A x3.b.l.length x3.b.c) ∧ w'.cell? ⟨w4.heap.size, 2, none⟩ = some (.slice x3.o.A x3.o.l.length x3.o.c) ∧ w'.cell? ⟨w4.heap.size, 3, none⟩ = some (.slice x3.cA x3.LC.length x3.cc))) := hid (fun W hW => (same22_walk x3 x1 W (HX3.out.below hW.1) (HX1.out.below hW.1)).mono (by
    rintro e w' ⟨rfl, h3⟩
    exact ⟨by rw [show sameR x3 x1 = true from sameR_iff.2 (HE3.out)], HST.out _ _ hW h3⟩))

  have HB6 := hid hb6
  clear p0 p1 p2 p3 r0 r1 r2 r3 q1' q3 hb6 HST
  go_region_held3 (fun W => Below w5.heap.size w5 W ∧ W.cell? ⟨w1.heap.size, 0, none⟩ = some (.slice x1.a.A x1.a.l.length x1.a.c) ∧ W.cell? ⟨w1.heap.size, 1, none⟩ = some (.slice x1.b.A x1.b.l.length x1.b.c) ∧ W.cell? ⟨w1.heap.size, 2, none⟩ = some (.slice x1.o.A x1.o.l.length x1.o.c) ∧ W.cell? ⟨w1.heap.size, 3, none⟩ = some (.slice x1.cA x1.LC.length x1.cc) ∧ W.cell? ⟨w4.heap.size, 0, none⟩ = some (.slice x3.a.A x3.a.l.length x3.a.c) ∧ W.cell? ⟨w4.heap.size, 1, none⟩ = some (.slice x3.b.A x3.b.l.length x3.b.c) ∧ W.cell? ⟨w4.heap.size, 2, none⟩ = some (.slice x3.o.A x3.o.l.length x3.o.c) ∧ W.cell? ⟨w4.heap.size, 3, none⟩ = some (.slice x3.cA x3.LC.length x3.cc)) (assumption) (first | (refine step_callG 14 _ _ (by rfl) (by rfl) Tryz.func14 (by kernel_rfl) (by kernel_rfl) [.agg #[.slice x3.a.A x3.a.l.length x3.a.c, .slice x3.b.A x3.b.l.length x3.b.c, .slice x3.o.A x3.o.l.length x3.o.c, .slice x3.cA x3.LC.length x3.cc]] (by rfl) (HBK.out _ (by assumption)) ?_; rintro e wk3 ⟨rfl, hK3⟩; refine ⟨_, rfl, ?_⟩) | (refine step_callG 14 _ _ (by rfl) (by rfl) Tryz.func14 (by kernel_rfl) (by kernel_rfl) [.agg #[.slice x1.a.A x1.a.l.length x1.a.c, .slice x1.b.A x1.b.l.length x1.b.c, .slice x1.o.A x1.o.l.length x1.o.c, .slice x1.cA x1.LC.length x1.cc]] (by rfl) (HBL.out _ (by assumption)) ?_; rintro e wk4 ⟨rfl, hK4⟩; refine ⟨_, rfl, ?_⟩) | (refine step_callG 13 _ _ (by rfl) (by rfl) Tryz.func13 (by kernel_rfl) (by kernel_rfl) [.agg #[.slice x3.a.A x3.a.l.length x3.a.c, .slice x3.b.A x3.b.l.length x3.b.c, .slice x3.o.A x3.o.l.length x3.o.c, .slice x3.cA x3.LC.length x3.cc], .agg #[.slice x1.a.A x1.a.l.length x1.a.c, .slice x1.b.A x1.b.l.length x1.b.c, .slice x1.o.A x1.o.l.length x1.o.c, .slice x1.cA x1.LC.length x1.cc]] (by rfl) (HSM.out _ (by assumption)) ?_; rintro e wk5 ⟨rfl, hK5⟩; refine ⟨_, rfl, ?_⟩))
  have hb7 := thenB HB6.out hK5.1
  have HM4 := hid (merge_self (HO.out.below hb7) (HAA.out.below hb7) HN.out.1 HN.out.2.1 (out_self HZ.out))
  clear hK3 hK4 hK5 HBK HBL HSM HB6
  go_wp2_with fail
  refine HM4.out.mono ?_
  rintro e w6 ⟨⟨ya, yb, yo, cA, cc, rfl, ha6, ea6, ho6, eo6⟩, hb8⟩
  have hbx := thenA (Below.refl _ w6) (.cells #[.slice ya.A ya.l.length ya.c, .slice yb.A yb.l.length yb.c, .slice yo.A yo.l.length yo.c, .slice cA 0 cc] 28 (0, 0))
  have hb9 := thenB hb7 (thenB hb8 hbx)
  have q4 := heap_alloc_new w6 (.cells #[.slice ya.A ya.l.length ya.c, .slice yb.A yb.l.length yb.c, .slice yo.A yo.l.length yo.c, .slice cA 0 cc] 28 (0, 0))
  have HYA := hid (ha6.below hbx)
  have HYO := hid (ho6.below hbx)
  have HEA := hid ea6
  have HEO := hid eo6
  clear ha6 ea6 ho6 eo6 hb7 hb8 hbx HM4
  go_wp2_with fail
  generalize w6.alloc (.cells #[.slice ya.A ya.l.length ya.c, .slice yb.A yb.l.length yb.c, .slice yo.A yo.l.length yo.c, .slice cA 0 cc] 28 (0, 0)) = w7 at *
  have s0 : w7.cell? ⟨w6.heap.size, 0, none⟩ = some (.slice ya.A ya.l.length ya.c) := (blkCell q4 0).trans rfl
  have s2 : w7.cell? ⟨w6.heap.size, 2, none⟩ = some (.slice yo.A yo.l.length yo.c) := (blkCell q4 2).trans rfl
  have s3 : w7.cell? ⟨w6.heap.size, 3, none⟩ = some (.slice cA 0 cc) := (blkCell q4 3).trans rfl
  have HS1 : HidP (Calls Tryz.prog 19 #[.slice ya.A ya.l.length ya.c, .slice a.A a.l.length a.c] w7 fun e w' => e = .returned (.bool true) ∧ Below w7.heap.size w7 w') := hid (by
    have := refsame ya.A a.A ya.c a.c ya.l a.l w7 HYA.out (HAA.out.below hb9)
    rwa [show sameL ya.l a.l = true from decide_eq_true HEA.out] at this)
  have HS2 : HidP (∀ W, Below w7.heap.size w7 W → Calls Tryz.prog 19 #[.slice yo.A yo.l.length yo.c, .slice a.A a.l.length a.c] W fun e w' => e = .returned (.bool true) ∧ Below W.heap.size W w') := hid (fun W hW => by
    have := refsame yo.A a.A yo.c a.c yo.l a.l W (HYO.out.below hW) (HAA.out.below (thenB hb9 hW))
    rwa [show sameL yo.l a.l = true from decide_eq_true HEO.out] at this)
  clear q4
  go_wp2_with fail
  refine HS1.out.mono ?_
  rintro e w8 ⟨rfl, hc1⟩
  have s2 := cellB hc1 s2
  have s3 := cellB hc1 s3
  go_wp2_with fail
  refine (HS2.out _ hc1).mono ?_
  rintro e w9 ⟨rfl, hc2⟩
  have s3 := cellB hc2 s3
  go_wp2_with fail
  refine (HA.out _).mono ?_
  rintro e w10 ⟨rfl, hc3⟩
  have hfin := thenB hb9 (thenB hc1 (thenB hc2 hc3))
  go_wp2_with fail
  go_ret
  exact ⟨rfl, hfin⟩
theorem mergeagain_card (A0 : Option Addr) (c0 : Nat) (l0 : List Itm) (A1 : Option Addr) (c1 : Nat) (l1 : List Itm) (A2 : Option Addr) (c2 : Nat) (l2 : List Itm) (w : World) (q0 : TrQ w A0 c0 l0) (q1 : TrQ w A1 c1 l1) (q2 : TrQ w A2 c2 l2) :
    Calls Tryz.prog 5 #[.slice A0 l0.length c0, .slice A1 l1.length c1, .slice A2 l2.length c2] w fun e w' => e = .returned (.bool true) ∧ Below w.heap.size w w' := mergeagain_walk ⟨A0, c0, l0⟩ ⟨A1, c1, l1⟩ ⟨A2, c2, l2⟩ w q0 q1 q2

end Go.Proofs.YtfbbjfbnkcklgaaGreatDoor
