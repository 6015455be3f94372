/- at: both sides alike, one side as the ancestor (printed by genE12.py) -/
import Derived.Test.YtfbbjfbnkcklgaaGreatDoorE5
import Derived.StillTailTactics
import Derived.Test.YtfbbjfbnkcklgaaGreatDoorSH
import Derived.Shelf.SlSortCmp.PdqK
import Derived.Shelf.Small.Bits
import Derived.Deep.RegionHeld3
namespace Go.Proofs.YtfbbjfbnkcklgaaGreatDoor
open Go.RowKit

theorem sameL_of {l m : List Itm} {X Y : List AIt} (h : l.map Itm.abs = X) (k : m.map Itm.abs = Y) : sameL l m = decide (X = Y) := by
  unfold sameL
  rw [h, k]
theorem Brings.from {w : World} {R : Nat} {S : RS} {wr W : World} {XA XB XO : List AIt} {XC : List Txt} {e : Ending} {w' : World} (hb : Below wr.heap.size wr W) (h : Brings w R S W XA XB XO XC e w') : Brings w R S wr XA XB XO XC e w' := by
  obtain ⟨hv, S', h1, h2, h3⟩ := h
  exact ⟨hv, S', h1, (Mv.below hb).trans h2, h3⟩
theorem boxed {wr W : World} {s : Spot} (hb : Below (wr.alloc (.cells #[.string s.q, .slice s.o.A s.o.l.length s.o.c, .slice s.a.A s.a.l.length s.a.c, .slice s.b.A s.b.l.length s.b.c] 92 (0, 0))).heap.size (wr.alloc (.cells #[.string s.q, .slice s.o.A s.o.l.length s.o.c, .slice s.a.A s.a.l.length s.a.c, .slice s.b.A s.b.l.length s.b.c] 92 (0, 0))) W) :
    W.cell? ⟨wr.heap.size, 0, none⟩ = some (.string s.q) ∧ W.cell? ⟨wr.heap.size, 1, none⟩ = some (.slice s.o.A s.o.l.length s.o.c) ∧ W.cell? ⟨wr.heap.size, 2, none⟩ = some (.slice s.a.A s.a.l.length s.a.c) ∧ W.cell? ⟨wr.heap.size, 3, none⟩ = some (.slice s.b.A s.b.l.length s.b.c) := by
  have h := heap_alloc_new wr (.cells #[.string s.q, .slice s.o.A s.o.l.length s.o.c, .slice s.a.A s.a.l.length s.a.c, .slice s.b.A s.b.l.length s.b.c] 92 (0, 0))
  exact ⟨cellB hb ((blkCell h 0).trans rfl), cellB hb ((blkCell h 1).trans rfl), cellB hb ((blkCell h 2).trans rfl), cellB hb ((blkCell h 3).trans rfl)⟩
theorem same_ab {o a b : List AIt} {w : World} {R : Nat} {S : RS} {wr : World} {s : Spot} (hs : SpotG o a b w wr R S s) {v : Bool} (hv : decide (underA a s.q.toList = underA b s.q.toList) = v) : HidP (∀ W, Below wr.heap.size wr W → Calls Tryz.prog 26 #[.slice s.a.A s.a.l.length s.a.c, .slice s.b.A s.b.l.length s.b.c] W fun e w' => e = .returned (.bool v) ∧ Below W.heap.size W w') := hid (fun W hb => by
  rw [← hv, ← sameL_of hs.ia hs.ib]; exact tsame_walk _ _ _ _ _ _ W (hs.ok.a.below hb) (hs.ok.b.below hb))
theorem same_bo {o a b : List AIt} {w : World} {R : Nat} {S : RS} {wr : World} {s : Spot} (hs : SpotG o a b w wr R S s) {v : Bool} (hv : decide (underA b s.q.toList = underA o s.q.toList) = v) : HidP (∀ W, Below wr.heap.size wr W → Calls Tryz.prog 26 #[.slice s.b.A s.b.l.length s.b.c, .slice s.o.A s.o.l.length s.o.c] W fun e w' => e = .returned (.bool v) ∧ Below W.heap.size W w') := hid (fun W hb => by
  rw [← hv, ← sameL_of hs.ib hs.io]; exact tsame_walk _ _ _ _ _ _ W (hs.ok.b.below hb) (hs.ok.o.below hb))
theorem same_ao {o a b : List AIt} {w : World} {R : Nat} {S : RS} {wr : World} {s : Spot} (hs : SpotG o a b w wr R S s) {v : Bool} (hv : decide (underA a s.q.toList = underA o s.q.toList) = v) : HidP (∀ W, Below wr.heap.size wr W → Calls Tryz.prog 26 #[.slice s.a.A s.a.l.length s.a.c, .slice s.o.A s.o.l.length s.o.c] W fun e w' => e = .returned (.bool v) ∧ Below W.heap.size W w') := hid (fun W hb => by
  rw [← hv, ← sameL_of hs.ia hs.io]; exact tsame_walk _ _ _ _ _ _ W (hs.ok.a.below hb) (hs.ok.o.below hb))

set_option maxRecDepth 100000 in
set_option maxHeartbeats 4000000 in
theorem at_take1 {o a b : List AIt} {n : Nat} {w : World} {R : Nat} {S : RS} {wr : World} {s : Spot} (hin : S.In w R wr) (hs : SpotG o a b w wr R S s) (t1 : decide (underA a s.q.toList = underA b s.q.toList) = true)
    (hroom : S.Room (resX o a b (ruleA o a b) n s.q.toList) (resX o a b (ruleB o a b) n s.q.toList) (resX o a b (ruleO o a b) n s.q.toList) (resC o a b n s.q.toList)) :
    Calls Tryz.prog 58 #[.pointer (some ⟨R, 0, none⟩), .agg #[.string s.q, .slice s.o.A s.o.l.length s.o.c, .slice s.a.A s.a.l.length s.a.c, .slice s.b.A s.b.l.length s.b.c]] wr
      (Brings w R S wr (resX o a b (ruleA o a b) n s.q.toList) (resX o a b (ruleB o a b) n s.q.toList) (resX o a b (ruleO o a b) n s.q.toList) (resC o a b n s.q.toList)) := by
  obtain ⟨e1, e2, e3, e4⟩ := res_take (o := o) (a := a) (b := b) (n := n) (q := s.q.toList) (by unfold takeA; rw [t1]; rfl)
  rw [e1, e2, e3, e4] at hroom ⊢
  have HK := hid (keepB hin s.a s.a s.a hs.ok.a hs.ok.a hs.ok.a hs.wa hs.wa hs.ga hs.ga hs.ga hroom hs.ia hs.ia hs.ia)
  have hb1 := thenA (Below.refl _ wr) (.cells #[.string s.q, .slice s.o.A s.o.l.length s.o.c, .slice s.a.A s.a.l.length s.a.c, .slice s.b.A s.b.l.length s.b.c] 92 (0, 0))
  have HS1 := same_ab hs t1
  clear hroom e1 e2 e3 e4 hs hin t1
  go_enter Tryz.func58, Tryz.ntmps58
  go_wp2_with fail
  refine (HS1.out _ hb1).mono ?_
  rintro e w2 ⟨rfl, hc2⟩
  have hx2 := hc2
  obtain ⟨q0, q1, q2, q3⟩ := boxed hx2
  have hb2 := thenB hb1 hc2
  clear hc2
  go_wp2_with fail
  refine (HK.out _ hb2).mono ?_
  rintro e w3 ⟨⟨v, rfl⟩, hbr⟩
  have HBR := hid hbr
  clear hbr
  go_wp2_with fail
  go_end0
  exact ⟨⟨_, rfl⟩, HBR.out⟩

set_option maxRecDepth 100000 in
set_option maxHeartbeats 4000000 in
theorem at_take2 {o a b : List AIt} {n : Nat} {w : World} {R : Nat} {S : RS} {wr : World} {s : Spot} (hin : S.In w R wr) (hs : SpotG o a b w wr R S s) (t1 : decide (underA a s.q.toList = underA b s.q.toList) = false) (t2 : decide (underA b s.q.toList = underA o s.q.toList) = true)
    (hroom : S.Room (resX o a b (ruleA o a b) n s.q.toList) (resX o a b (ruleB o a b) n s.q.toList) (resX o a b (ruleO o a b) n s.q.toList) (resC o a b n s.q.toList)) :
    Calls Tryz.prog 58 #[.pointer (some ⟨R, 0, none⟩), .agg #[.string s.q, .slice s.o.A s.o.l.length s.o.c, .slice s.a.A s.a.l.length s.a.c, .slice s.b.A s.b.l.length s.b.c]] wr
      (Brings w R S wr (resX o a b (ruleA o a b) n s.q.toList) (resX o a b (ruleB o a b) n s.q.toList) (resX o a b (ruleO o a b) n s.q.toList) (resC o a b n s.q.toList)) := by
  obtain ⟨e1, e2, e3, e4⟩ := res_take (o := o) (a := a) (b := b) (n := n) (q := s.q.toList) (by unfold takeA; rw [t1, t2]; rfl)
  rw [e1, e2, e3, e4] at hroom ⊢
  have HK := hid (keepB hin s.a s.a s.a hs.ok.a hs.ok.a hs.ok.a hs.wa hs.wa hs.ga hs.ga hs.ga hroom hs.ia hs.ia hs.ia)
  have hb1 := thenA (Below.refl _ wr) (.cells #[.string s.q, .slice s.o.A s.o.l.length s.o.c, .slice s.a.A s.a.l.length s.a.c, .slice s.b.A s.b.l.length s.b.c] 92 (0, 0))
  have HS1 := same_ab hs t1
  have HS2 := same_bo hs t2
  clear hroom e1 e2 e3 e4 hs hin t1 t2
  go_enter Tryz.func58, Tryz.ntmps58
  go_wp2_with fail
  refine (HS1.out _ hb1).mono ?_
  rintro e w2 ⟨rfl, hc2⟩
  have hx2 := hc2
  obtain ⟨q0, q1, q2, q3⟩ := boxed hx2
  have hb2 := thenB hb1 hc2
  clear hc2
  go_wp2_with fail
  refine (HS2.out _ hb2).mono ?_
  rintro e w3 ⟨rfl, hc3⟩
  have hx3 := thenB hx2 hc3
  obtain ⟨q0, q1, q2, q3⟩ := boxed hx3
  have hb3 := thenB hb2 hc3
  clear hc3
  go_wp2_with fail
  refine (HK.out _ hb3).mono ?_
  rintro e w4 ⟨⟨v, rfl⟩, hbr⟩
  have HBR := hid hbr
  clear hbr
  go_wp2_with fail
  go_end0
  exact ⟨⟨_, rfl⟩, HBR.out⟩

set_option maxRecDepth 100000 in
set_option maxHeartbeats 4000000 in
theorem at_first {o a b : List AIt} {n : Nat} {w : World} {R : Nat} {S : RS} {wr : World} {s : Spot} (hin : S.In w R wr) (hs : SpotG o a b w wr R S s) (t1 : decide (underA a s.q.toList = underA b s.q.toList) = false) (t2 : decide (underA b s.q.toList = underA o s.q.toList) = false) (t3 : decide (underA a s.q.toList = underA o s.q.toList) = true)
    (hroom : S.Room (resX o a b (ruleA o a b) n s.q.toList) (resX o a b (ruleB o a b) n s.q.toList) (resX o a b (ruleO o a b) n s.q.toList) (resC o a b n s.q.toList)) :
    Calls Tryz.prog 58 #[.pointer (some ⟨R, 0, none⟩), .agg #[.string s.q, .slice s.o.A s.o.l.length s.o.c, .slice s.a.A s.a.l.length s.a.c, .slice s.b.A s.b.l.length s.b.c]] wr
      (Brings w R S wr (resX o a b (ruleA o a b) n s.q.toList) (resX o a b (ruleB o a b) n s.q.toList) (resX o a b (ruleO o a b) n s.q.toList) (resC o a b n s.q.toList)) := by
  obtain ⟨e1, e2, e3, e4⟩ := res_first (o := o) (a := a) (b := b) (n := n) (q := s.q.toList) (by unfold takeA; rw [t1, t2]; rfl) t3
  rw [e1, e2, e3, e4] at hroom ⊢
  have HK := hid (keepB hin s.b s.b s.b hs.ok.b hs.ok.b hs.ok.b hs.wb hs.wb hs.gb hs.gb hs.gb hroom hs.ib hs.ib hs.ib)
  have hb1 := thenA (Below.refl _ wr) (.cells #[.string s.q, .slice s.o.A s.o.l.length s.o.c, .slice s.a.A s.a.l.length s.a.c, .slice s.b.A s.b.l.length s.b.c] 92 (0, 0))
  have HS1 := same_ab hs t1
  have HS2 := same_bo hs t2
  have HS3 := same_ao hs t3
  clear hroom e1 e2 e3 e4 hs hin t1 t2 t3
  go_enter Tryz.func58, Tryz.ntmps58
  go_wp2_with fail
  refine (HS1.out _ hb1).mono ?_
  rintro e w2 ⟨rfl, hc2⟩
  have hx2 := hc2
  obtain ⟨q0, q1, q2, q3⟩ := boxed hx2
  have hb2 := thenB hb1 hc2
  clear hc2
  go_wp2_with fail
  refine (HS2.out _ hb2).mono ?_
  rintro e w3 ⟨rfl, hc3⟩
  have hx3 := thenB hx2 hc3
  obtain ⟨q0, q1, q2, q3⟩ := boxed hx3
  have hb3 := thenB hb2 hc3
  clear hc3
  go_wp2_with fail
  refine (HS3.out _ hb3).mono ?_
  rintro e w4 ⟨rfl, hc4⟩
  have hx4 := thenB hx3 hc4
  obtain ⟨q0, q1, q2, q3⟩ := boxed hx4
  have hb4 := thenB hb3 hc4
  clear hc4
  go_wp2_with fail
  refine (HK.out _ hb4).mono ?_
  rintro e w5 ⟨⟨v, rfl⟩, hbr⟩
  have HBR := hid hbr
  clear hbr
  go_wp2_with fail
  go_end0
  exact ⟨⟨_, rfl⟩, HBR.out⟩

end Go.Proofs.YtfbbjfbnkcklgaaGreatDoor

/- at: a conflict (printed by genE13.py) -/
namespace Go.Proofs.YtfbbjfbnkcklgaaGreatDoor
open Go.RowKit

theorem infoStr : (Tryz.prog.info? 9).map (fun i => (i.zero, i.size, i.bytes)) = some (some (.string ByteArray.empty), 1, 16) := by kernel_rfl
theorem dir_o {o a b : List AIt} {w : World} {R : Nat} {S : RS} {wr : World} {s : Spot} (hR : Right3 o a b) (hs : SpotG o a b w wr R S s) (hq : s.q.toList ≠ []) {v : Bool} (hv : foundDir o s.q.toList = v) : HidP (∀ W, Below wr.heap.size wr W → Calls Tryz.prog 92 #[.slice s.o.A s.o.l.length s.o.c, .string s.q] W fun e w' => e = .returned (.bool v) ∧ W = w') := hid (fun W hb => by
  rw [← hv, ← head_dir hR.o.sorted hq, ← hs.io]; exact mdir_walk _ _ _ _ W (hs.ok.o.below hb))
theorem dir_a {o a b : List AIt} {w : World} {R : Nat} {S : RS} {wr : World} {s : Spot} (hR : Right3 o a b) (hs : SpotG o a b w wr R S s) (hq : s.q.toList ≠ []) {v : Bool} (hv : foundDir a s.q.toList = v) : HidP (∀ W, Below wr.heap.size wr W → Calls Tryz.prog 92 #[.slice s.a.A s.a.l.length s.a.c, .string s.q] W fun e w' => e = .returned (.bool v) ∧ W = w') := hid (fun W hb => by
  rw [← hv, ← head_dir hR.a.sorted hq, ← hs.ia]; exact mdir_walk _ _ _ _ W (hs.ok.a.below hb))
theorem dir_b {o a b : List AIt} {w : World} {R : Nat} {S : RS} {wr : World} {s : Spot} (hR : Right3 o a b) (hs : SpotG o a b w wr R S s) (hq : s.q.toList ≠ []) {v : Bool} (hv : foundDir b s.q.toList = v) : HidP (∀ W, Below wr.heap.size wr W → Calls Tryz.prog 92 #[.slice s.b.A s.b.l.length s.b.c, .string s.q] W fun e w' => e = .returned (.bool v) ∧ W = w') := hid (fun W hb => by
  rw [← hv, ← head_dir hR.b.sorted hq, ← hs.ib]; exact mdir_walk _ _ _ _ W (hs.ok.b.below hb))
theorem str_src (W : World) (q : ByteArray) : Src (W.alloc (.cells #[.string q] 9 (0, 0))) 1 (.slice (some ⟨W.heap.size, 0, none⟩) 1 1) [.string q] :=
  Src.rec (f := fun z : ByteArray => [Value.string z]) (m := 1) (fun _ => rfl) q (heap_alloc_new W _)
/-- the conflict is noted; then what is kept -/
theorem conf_step {o a b : List AIt} {w : World} {R : Nat} {S : RS} {wr : World} {s : Spot} (hin : S.In w R wr) (hs : SpotG o a b w wr R S s) {W : World} (hb : Below wr.heap.size wr W) {O : Obj} {cA : Option Addr} {cn cc : Nat} {w7 : World} (hg : (W.alloc O).grownBy w7 (Value.slice S.c.A S.c.n S.c.c).ownBlock)
    (hr : Row w7 9 1 (.slice cA cn cc) (S.LC.map .string ++ [.string s.q])) (ha : (Value.slice cA cn cc).ownBlock = (Value.slice S.c.A S.c.n S.c.c).ownBlock ∨ (Value.slice cA cn cc).ownBlock = some (W.alloc O).heap.size) {XA XB XO : List AIt} (hroom : S.Room XA XB XO [s.q.toList]) (eO : s.o.l.map Itm.abs = XO) (eA : s.a.l.map Itm.abs = XA) (eB : s.b.l.map Itm.abs = XB) :
    Calls Tryz.prog 91 #[.pointer (some ⟨R, 0, none⟩), .slice s.o.A s.o.l.length s.o.c, .slice s.a.A s.a.l.length s.a.c, .slice s.b.A s.b.l.length s.b.c] (w7.setCell ⟨R, 3, none⟩ (.slice cA cn cc)) (Brings w R S wr XA XB XO [s.q.toList]) := by
  have hb2 := thenA hb O
  obtain ⟨h1, h2⟩ := (hin.later hb2).setC hg hr ha
  have h3 : S.Mv R ⟨S.a, S.b, S.o, ⟨cA, cn, cc⟩, S.LA, S.LB, S.LO, S.LC ++ [s.q]⟩ wr _ := (Mv.below hb2).trans h2
  have hs2 := hs.moved h3 h1.below
  have g : S.Grow ⟨S.a, S.b, S.o, ⟨cA, cn, cc⟩, S.LA, S.LB, S.LO, S.LC ++ [s.q]⟩ [] [] [] [s.q.toList] := ⟨by simp, by simp, by simp, by simp⟩
  have hroom2 : RS.Room ⟨S.a, S.b, S.o, ⟨cA, cn, cc⟩, S.LA, S.LB, S.LO, S.LC ++ [s.q]⟩ XA XB XO [] := RS.Room.right (XA := []) (XB := []) (XO := []) (XC := [s.q.toList]) (S := S) (by simpa using hroom) g
  refine (keepB (S := ⟨S.a, S.b, S.o, ⟨cA, cn, cc⟩, S.LA, S.LB, S.LO, S.LC ++ [s.q]⟩) h1 s.o s.a s.b hs2.ok.o hs2.ok.a hs2.ok.b hs2.wa hs2.wb hs2.go hs2.ga hs2.gb hroom2 eO eA eB _ (Below.refl _ _)).mono ?_
  rintro e w' ⟨hv, S', k1, k2, k3⟩
  exact ⟨hv, S', k1, h3.trans k2, by simpa using g.trans k3⟩
/-- what stands in the box of the spot stands there still -/
theorem box_kept {w : World} {R : Nat} {S S' : RS} {wr W W' : World} (hin : S.In w R wr) (hm : S.Mv R S' W W') {i : Nat} {x : Value} (hq : W.cell? ⟨wr.heap.size, i, none⟩ = some x) : W'.cell? ⟨wr.heap.size, i, none⟩ = some x :=
  (World.cell?_of_block (w := W) (w' := W') (a := ⟨wr.heap.size, i, none⟩) (hm.keep.block _ (World.block_lt_of_cell? W _ hq) (RM.offNew hin (Nat.le_refl _)))).trans hq
theorem conf_mv {w : World} {R : Nat} {S : RS} {wr : World} {s : ByteArray} (hin : S.In w R wr) {W : World} (hb : Below wr.heap.size wr W) {O : Obj} {cA : Option Addr} {cn cc : Nat} {w7 : World} (hg : (W.alloc O).grownBy w7 (Value.slice S.c.A S.c.n S.c.c).ownBlock)
    (hr : Row w7 9 1 (.slice cA cn cc) (S.LC.map .string ++ [.string s])) (ha : (Value.slice cA cn cc).ownBlock = (Value.slice S.c.A S.c.n S.c.c).ownBlock ∨ (Value.slice cA cn cc).ownBlock = some (W.alloc O).heap.size) :
    S.Mv R ⟨S.a, S.b, S.o, ⟨cA, cn, cc⟩, S.LA, S.LB, S.LO, S.LC ++ [s]⟩ W (w7.setCell ⟨R, 3, none⟩ (.slice cA cn cc)) := by
  have hb2 := thenA hb O
  obtain ⟨h1, h2⟩ := (hin.later hb2).setC hg hr ha
  exact (Mv.below (thenA (Below.refl _ W) O)).trans h2

set_option maxRecDepth 100000 in
set_option maxHeartbeats 4000000 in
theorem at_conf1 {o a b : List AIt} {n : Nat} {w : World} {R : Nat} {S : RS} {wr : World} {s : Spot} (hin : S.In w R wr) (hs : SpotG o a b w wr R S s) (hR : Right3 o a b) (hq : s.q.toList ≠ []) (t1 : decide (underA a s.q.toList = underA b s.q.toList) = false) (t2 : decide (underA b s.q.toList = underA o s.q.toList) = false) (t3 : decide (underA a s.q.toList = underA o s.q.toList) = false) (d1 : foundDir a s.q.toList = false)
    (hroom : S.Room (resX o a b (ruleA o a b) n s.q.toList) (resX o a b (ruleB o a b) n s.q.toList) (resX o a b (ruleO o a b) n s.q.toList) (resC o a b n s.q.toList)) :
    Calls Tryz.prog 58 #[.pointer (some ⟨R, 0, none⟩), .agg #[.string s.q, .slice s.o.A s.o.l.length s.o.c, .slice s.a.A s.a.l.length s.a.c, .slice s.b.A s.b.l.length s.b.c]] wr
      (Brings w R S wr (resX o a b (ruleA o a b) n s.q.toList) (resX o a b (ruleB o a b) n s.q.toList) (resX o a b (ruleO o a b) n s.q.toList) (resC o a b n s.q.toList)) := by
  obtain ⟨e1, e2, e3, e4⟩ := res_conf (o := o) (a := a) (b := b) (n := n) (q := s.q.toList) (by unfold takeA; rw [t1, t2]; rfl) t3 (by unfold bothD; rw [d1]; rfl)
  rw [e1, e2, e3, e4] at hroom ⊢
  obtain ⟨ti, hi0, hz0, hz1, hz2⟩ := info_parts infoStr
  have HS1 := same_ab hs t1
  have HS2 := same_bo hs t2
  have HS3 := same_ao hs t3
  have HR := hid hR
  have HD1 := dir_a hR hs hq d1
  have HIN := hid hin
  have HSG := hid hs
  have HROOM := hid hroom
  have hb1 := thenA (Below.refl _ wr) (.cells #[.string s.q, .slice s.o.A s.o.l.length s.o.c, .slice s.a.A s.a.l.length s.a.c, .slice s.b.A s.b.l.length s.b.c] 92 (0, 0))
  clear hroom e1 e2 e3 e4 hs hin t1 t2 t3 hR
  go_enter Tryz.func58, Tryz.ntmps58
  go_wp2_with fail
  refine (HS1.out _ hb1).mono ?_
  rintro e w2 ⟨rfl, hc2⟩
  have hx2 := hc2
  obtain ⟨q0, q1, q2, q3⟩ := boxed hx2
  have hb2 := thenB hb1 hc2
  clear hc2
  go_wp2_with fail
  refine (HS2.out _ hb2).mono ?_
  rintro e w3 ⟨rfl, hc3⟩
  have hx3 := thenB hx2 hc3
  obtain ⟨q0, q1, q2, q3⟩ := boxed hx3
  have hb3 := thenB hb2 hc3
  clear hc3
  go_wp2_with fail
  refine (HS3.out _ hb3).mono ?_
  rintro e w4 ⟨rfl, hc4⟩
  have hx4 := thenB hx3 hc4
  obtain ⟨q0, q1, q2, q3⟩ := boxed hx4
  have hb4 := thenB hb3 hc4
  clear hc4
  go_wp2_with fail
  refine (HD1.out _ hb4).mono ?_
  rintro e w5 ⟨rfl, rfl⟩
  go_wp2_with fail
  have c3 : w4.cell? ⟨R, 3, none⟩ = some (.slice S.c.A S.c.n S.c.c) := (blkCell (HIN.out.later hb4).blk 3).trans rfl
  have c3a : ∀ o, (w4.alloc o).cell? ⟨R, 3, none⟩ = some (.slice S.c.A S.c.n S.c.c) := fun o => cellA c3 o
  have hk3 := (HIN.out.later (thenA hb4 (.cells #[.string s.q] 9 (0, 0)))).blk
  have hro := (HIN.out.later (thenA hb4 (.cells #[.string s.q] 9 (0, 0)))).rc
  have hsi := str_src w4 s.q
  have hc1 : (S.LC.map Value.string).length + [Value.string s.q].length ≤ maxLen := by
    have := HROOM.out.c
    rw [List.length_map]
    simp only [maxLen, List.length_singleton]
    omega
  have hc2 : ((S.LC.map Value.string).length + [Value.string s.q].length) * 16 ≤ 140737488355328 := by
    have := HROOM.out.c
    rw [List.length_map]
    simp only [List.length_singleton]
    omega
  go_region_law (refine step_append_row _ (by rfl) _ _ 26 (by rfl) 9 ti (.string ByteArray.empty) 1 16 Tryz.underlying26 hi0 hz0 hz1 hz2 rfl (by decide) (.slice S.c.A S.c.n S.c.c) (S.LC.map .string) (by rfl) (by exact hro.keep (fun _ _ => rfl)) (.slice (some ⟨w4.heap.size, 0, none⟩) 1 1) [.string s.q] (by rfl) (by exact hsi.keep (fun _ _ _ => rfl)) (by simp [Value.oneCell']) hc1 hc2 ?_; intro cA cn cc w7 hr7 hg7 ha7; have hk7 := (hg7.block R (by exact blkLt hk3) (fun e => hro.neBlk hk3 (by decide) e.symm)).trans hk3; have f7 := blkFree hk7 3; have q7 : w7.cell? ⟨R, 3, none⟩ = some (.slice S.c.A S.c.n S.c.c) := (blkCell hk7 3).trans rfl; have HC7 := hid (conf_step HIN.out HSG.out hb4 (O := .cells #[.string s.q] 9 (0, 0)) ⟨hg7.os, hg7.tape, hg7.output, hg7.size, hg7.block⟩ hr7 ha7 HROOM.out HSG.out.io HSG.out.ia HSG.out.ib); have hm7 := conf_mv (s := s.q) HIN.out hb4 (O := .cells #[.string s.q] 9 (0, 0)) ⟨hg7.os, hg7.tape, hg7.output, hg7.size, hg7.block⟩ hr7 ha7; have z1 := box_kept HIN.out hm7 q1; have z2 := box_kept HIN.out hm7 q2; have z3 := box_kept HIN.out hm7 q3; clear hm7 hr7 hg7 ha7 hk7)
  all_goals
    clear c3 c3a hk3 hro hsi hc1 hc2
    go_wp2_with fail
    refine HC7.out.mono ?_
    rintro e w9 ⟨⟨v, rfl⟩, hbr⟩
    have HBR := hid hbr
    clear hbr
    go_wp2_with fail
    go_end0
    exact ⟨⟨_, rfl⟩, HBR.out⟩

set_option maxRecDepth 100000 in
set_option maxHeartbeats 4000000 in
theorem at_conf2 {o a b : List AIt} {n : Nat} {w : World} {R : Nat} {S : RS} {wr : World} {s : Spot} (hin : S.In w R wr) (hs : SpotG o a b w wr R S s) (hR : Right3 o a b) (hq : s.q.toList ≠ []) (t1 : decide (underA a s.q.toList = underA b s.q.toList) = false) (t2 : decide (underA b s.q.toList = underA o s.q.toList) = false) (t3 : decide (underA a s.q.toList = underA o s.q.toList) = false) (d1 : foundDir a s.q.toList = true) (d2 : foundDir b s.q.toList = false)
    (hroom : S.Room (resX o a b (ruleA o a b) n s.q.toList) (resX o a b (ruleB o a b) n s.q.toList) (resX o a b (ruleO o a b) n s.q.toList) (resC o a b n s.q.toList)) :
    Calls Tryz.prog 58 #[.pointer (some ⟨R, 0, none⟩), .agg #[.string s.q, .slice s.o.A s.o.l.length s.o.c, .slice s.a.A s.a.l.length s.a.c, .slice s.b.A s.b.l.length s.b.c]] wr
      (Brings w R S wr (resX o a b (ruleA o a b) n s.q.toList) (resX o a b (ruleB o a b) n s.q.toList) (resX o a b (ruleO o a b) n s.q.toList) (resC o a b n s.q.toList)) := by
  obtain ⟨e1, e2, e3, e4⟩ := res_conf (o := o) (a := a) (b := b) (n := n) (q := s.q.toList) (by unfold takeA; rw [t1, t2]; rfl) t3 (by unfold bothD; rw [d1, d2]; rfl)
  rw [e1, e2, e3, e4] at hroom ⊢
  obtain ⟨ti, hi0, hz0, hz1, hz2⟩ := info_parts infoStr
  have HS1 := same_ab hs t1
  have HS2 := same_bo hs t2
  have HS3 := same_ao hs t3
  have HR := hid hR
  have HD1 := dir_a hR hs hq d1
  have HD2 := dir_b hR hs hq d2
  have HIN := hid hin
  have HSG := hid hs
  have HROOM := hid hroom
  have hb1 := thenA (Below.refl _ wr) (.cells #[.string s.q, .slice s.o.A s.o.l.length s.o.c, .slice s.a.A s.a.l.length s.a.c, .slice s.b.A s.b.l.length s.b.c] 92 (0, 0))
  clear hroom e1 e2 e3 e4 hs hin t1 t2 t3 hR
  go_enter Tryz.func58, Tryz.ntmps58
  go_wp2_with fail
  refine (HS1.out _ hb1).mono ?_
  rintro e w2 ⟨rfl, hc2⟩
  have hx2 := hc2
  obtain ⟨q0, q1, q2, q3⟩ := boxed hx2
  have hb2 := thenB hb1 hc2
  clear hc2
  go_wp2_with fail
  refine (HS2.out _ hb2).mono ?_
  rintro e w3 ⟨rfl, hc3⟩
  have hx3 := thenB hx2 hc3
  obtain ⟨q0, q1, q2, q3⟩ := boxed hx3
  have hb3 := thenB hb2 hc3
  clear hc3
  go_wp2_with fail
  refine (HS3.out _ hb3).mono ?_
  rintro e w4 ⟨rfl, hc4⟩
  have hx4 := thenB hx3 hc4
  obtain ⟨q0, q1, q2, q3⟩ := boxed hx4
  have hb4 := thenB hb3 hc4
  clear hc4
  go_wp2_with fail
  refine (HD1.out _ hb4).mono ?_
  rintro e w5 ⟨rfl, rfl⟩
  go_wp2_with fail
  refine (HD2.out _ hb4).mono ?_
  rintro e w6 ⟨rfl, rfl⟩
  go_wp2_with fail
  have c3 : w4.cell? ⟨R, 3, none⟩ = some (.slice S.c.A S.c.n S.c.c) := (blkCell (HIN.out.later hb4).blk 3).trans rfl
  have c3a : ∀ o, (w4.alloc o).cell? ⟨R, 3, none⟩ = some (.slice S.c.A S.c.n S.c.c) := fun o => cellA c3 o
  have hk3 := (HIN.out.later (thenA hb4 (.cells #[.string s.q] 9 (0, 0)))).blk
  have hro := (HIN.out.later (thenA hb4 (.cells #[.string s.q] 9 (0, 0)))).rc
  have hsi := str_src w4 s.q
  have hc1 : (S.LC.map Value.string).length + [Value.string s.q].length ≤ maxLen := by
    have := HROOM.out.c
    rw [List.length_map]
    simp only [maxLen, List.length_singleton]
    omega
  have hc2 : ((S.LC.map Value.string).length + [Value.string s.q].length) * 16 ≤ 140737488355328 := by
    have := HROOM.out.c
    rw [List.length_map]
    simp only [List.length_singleton]
    omega
  go_region_law (refine step_append_row _ (by rfl) _ _ 26 (by rfl) 9 ti (.string ByteArray.empty) 1 16 Tryz.underlying26 hi0 hz0 hz1 hz2 rfl (by decide) (.slice S.c.A S.c.n S.c.c) (S.LC.map .string) (by rfl) (by exact hro.keep (fun _ _ => rfl)) (.slice (some ⟨w4.heap.size, 0, none⟩) 1 1) [.string s.q] (by rfl) (by exact hsi.keep (fun _ _ _ => rfl)) (by simp [Value.oneCell']) hc1 hc2 ?_; intro cA cn cc w7 hr7 hg7 ha7; have hk7 := (hg7.block R (by exact blkLt hk3) (fun e => hro.neBlk hk3 (by decide) e.symm)).trans hk3; have f7 := blkFree hk7 3; have q7 : w7.cell? ⟨R, 3, none⟩ = some (.slice S.c.A S.c.n S.c.c) := (blkCell hk7 3).trans rfl; have HC7 := hid (conf_step HIN.out HSG.out hb4 (O := .cells #[.string s.q] 9 (0, 0)) ⟨hg7.os, hg7.tape, hg7.output, hg7.size, hg7.block⟩ hr7 ha7 HROOM.out HSG.out.io HSG.out.ia HSG.out.ib); have hm7 := conf_mv (s := s.q) HIN.out hb4 (O := .cells #[.string s.q] 9 (0, 0)) ⟨hg7.os, hg7.tape, hg7.output, hg7.size, hg7.block⟩ hr7 ha7; have z1 := box_kept HIN.out hm7 q1; have z2 := box_kept HIN.out hm7 q2; have z3 := box_kept HIN.out hm7 q3; clear hm7 hr7 hg7 ha7 hk7)
  all_goals
    clear c3 c3a hk3 hro hsi hc1 hc2
    go_wp2_with fail
    refine HC7.out.mono ?_
    rintro e w9 ⟨⟨v, rfl⟩, hbr⟩
    have HBR := hid hbr
    clear hbr
    go_wp2_with fail
    go_end0
    exact ⟨⟨_, rfl⟩, HBR.out⟩

end Go.Proofs.YtfbbjfbnkcklgaaGreatDoor

/- at: both are directories: what is within is merged (printed by genE14.py) -/
namespace Go.Proofs.YtfbbjfbnkcklgaaGreatDoor
open Go.RowKit

/-- the parts of a part, all of them -/
theorem desc_all {o a b : List AIt} {n : Nat} {w : World} {R : Nat} {S : RS} {w6 w7 : World} {q : Txt} (hR : Right3 o a b) (hin : S.In w R w6) {lo la lb : List Itm} (po : PartOf o q lo) (pa : PartOf a q la) (pb : PartOf b q lb) (go : ∀ x ∈ lo, GoodR w R x) (ga : ∀ x ∈ la, GoodR w R x) (gb : ∀ x ∈ lb, GoodR w R x)
    {C : Option Addr} {u : Nat} {ss : List Spot} (hss : SpotsAt w7 C u ss) (hsort : sortedN (ss.map (·.q.toList))) (hmem : ∀ x, x ∈ ss.map (·.q.toList) ↔ (kidL lo q x ≠ [] ∨ kidL la q x ≠ [] ∨ kidL lb q x ≠ []))
    (hl : ∀ s ∈ ss, s.o.l = kidL lo q s.q.toList ∧ s.a.l = kidL la q s.q.toList ∧ s.b.l = kidL lb q s.q.toList) (hfr : ∀ s ∈ ss, s.fresh w6.heap.size) (hC : ∀ k, (Value.slice C ss.length u).ownBlock = some k → w6.heap.size ≤ k) (hb : Below w6.heap.size w6 w7) (hAll : AllOk o a b n) (hn : 126 ≤ q.length + n)
    (hroom : S.Room (allX o a b (ruleA o a b) n q) (allX o a b (ruleB o a b) n q) (allX o a b (ruleO o a b) n q) (allC o a b n q)) :
    Calls Tryz.prog 38 #[.pointer (some ⟨R, 0, none⟩), .slice C ss.length u] w7 (Brings w R S w6 (allX o a b (ruleA o a b) n q) (allX o a b (ruleB o a b) n q) (allX o a b (ruleO o a b) n q) (allC o a b n q)) := by
  have hnames := names_are hR po pa pb hsort hmem
  refine (hAll w R S w7 C u ss q (hin.later hb) hss (fun k hk => RM.offNew hin (hC k hk)) (fun s hs => ?_) hnames hn hroom).mono ?_
  · have hq : s.q.toList ∈ namesA o a b q := by rw [← hnames]; exact List.mem_map_of_mem hs
    obtain ⟨h1, h2⟩ := mem_names.1 hq
    have h3 := hR.pathU h2
    obtain ⟨l1, l2, l3⟩ := hl s hs
    have hok := hss.ok s hs
    have hf := hfr s hs
    exact ⟨hok, by rw [l1]; exact part_kid hR.o po h3 h1, by rw [l2]; exact part_kid hR.a pa h3 h1, by rw [l3]; exact part_kid hR.b pb h3 h1, fun x hx => go x (by rw [l1] at hx; exact (List.mem_filter.1 hx).1), fun x hx => ga x (by rw [l2] at hx; exact (List.mem_filter.1 hx).1), fun x hx => gb x (by rw [l3] at hx; exact (List.mem_filter.1 hx).1),
      fun _ k hk => RM.offNew hin (hf.o k hk), fun _ k hk => RM.offNew hin (hf.a k hk), fun _ k hk => RM.offNew hin (hf.b k hk)⟩
  · rintro e w' hbr
    exact Brings.from hb hbr
theorem own_len (A : Option Addr) (n m c d : Nat) : (Value.slice A n c).ownBlock = (Value.slice A m d).ownBlock := by cases A <;> rfl
theorem Tr.take1 {w : World} {A : Option Addr} {c : Nat} {x : Itm} {r : List Itm} (h : Tr w A c (x :: r)) : Tr w A c [x] := by
  have h1 := h.cap
  refine ⟨⟨by simp at h1 ⊢; omega, h.nil, fun i y hy => ?_⟩, by simp, fun y hy => h.good y (by simp at hy; simp [hy])⟩
  cases i with
  | zero => exact h.cell 0 y (by simpa using hy)
  | succ i => simp at hy
theorem head_is {T : List AIt} (hT : RightP T) {q : Txt} (hq : q ≠ []) {l : List Itm} (hl : l.map Itm.abs = underA T q) (hd : foundDir T q = true) : ∃ x r, l = x :: r ∧ x.abs = ⟨q, true, []⟩ := by
  have h1 := head_dir hT.sorted hq
  rw [hd, ← hl] at h1
  cases l with
  | nil => cases h1
  | cons x r =>
    refine ⟨x, r, rfl, ?_⟩
    have h2 : (x.abs.p == q && x.abs.d) = true := h1
    rw [Bool.and_eq_true, beq_iff_eq] at h2
    have h3 : x.abs ∈ underA T q := by rw [← hl]; exact List.mem_cons_self
    have h4 := (find_iff hT.sorted).2 ⟨(mem_under.1 h3).1, h2.1⟩
    rw [(foundDir_iff hT).1 hd] at h4
    exact (Option.some.inj h4).symm
theorem part_len {T : List AIt} {q : Txt} {l : List Itm} (h : l.map Itm.abs = underA T q) (hT : T.length ≤ 1000) : l.length ≤ 1000 := by
  have h1 := congrArg List.length h
  rw [List.length_map] at h1
  have h2 : (underA T q).length ≤ T.length := List.length_filter_le _ _
  omega

set_option maxRecDepth 100000 in
set_option maxHeartbeats 4000000 in
theorem at_desc1 {o a b : List AIt} {n : Nat} {w : World} {R : Nat} {S : RS} {wr : World} {s : Spot} (hin : S.In w R wr) (hs : SpotG o a b w wr R S s) (hR : Right3 o a b) (_lo : o.length ≤ 1000) (la : a.length ≤ 1000) (lb : b.length ≤ 1000) (hq : s.q.toList ≠ []) (hn : 126 ≤ s.q.toList.length + n) (hAll : AllOk o a b n) (t1 : decide (underA a s.q.toList = underA b s.q.toList) = false) (t2 : decide (underA b s.q.toList = underA o s.q.toList) = false) (t3 : decide (underA a s.q.toList = underA o s.q.toList) = false) (d1 : foundDir a s.q.toList = true) (d2 : foundDir b s.q.toList = true) (d3 : foundDir o s.q.toList = true)
    (hroom : S.Room (resX o a b (ruleA o a b) n s.q.toList) (resX o a b (ruleB o a b) n s.q.toList) (resX o a b (ruleO o a b) n s.q.toList) (resC o a b n s.q.toList)) :
    Calls Tryz.prog 58 #[.pointer (some ⟨R, 0, none⟩), .agg #[.string s.q, .slice s.o.A s.o.l.length s.o.c, .slice s.a.A s.a.l.length s.a.c, .slice s.b.A s.b.l.length s.b.c]] wr
      (Brings w R S wr (resX o a b (ruleA o a b) n s.q.toList) (resX o a b (ruleB o a b) n s.q.toList) (resX o a b (ruleO o a b) n s.q.toList) (resC o a b n s.q.toList)) := by
  have ht : takeA o a b s.q.toList = false := by unfold takeA; rw [t1, t2]; rfl
  have hd2 : bothD a b s.q.toList = true := by unfold bothD; rw [d1, d2]; rfl
  rw [res_desc ht t3 hd2, res_desc ht t3 hd2, res_desc ht t3 hd2, resC_desc ht t3 hd2] at hroom ⊢
  obtain ⟨x, r, hx, hxa⟩ := head_is hR.a hq hs.ia d1
  have htk : Tr wr s.a.A s.a.c [x] := (show Tr wr s.a.A s.a.c (x :: r) from hx ▸ hs.ok.a).take1
  have i1 : (1 : Int) ≤ (s.a.c : Int) := by have := htk.cap; simp at this; omega
  have hne : s.a.l ≠ [] := by rw [hx]; simp
  have hga : ∀ y ∈ [x], GoodR w R y := fun y hy => hs.ga y (by rw [hx]; simp at hy; simp [hy])
  have haw : S.Away R ⟨s.a.A, s.a.c, [x]⟩ := fun _ k hk => hs.wa hne k ((own_len _ _ _ _ _).trans hk)
  have HK : HidP (∀ W, Below wr.heap.size wr W → Calls Tryz.prog 91 #[.pointer (some ⟨R, 0, none⟩), .slice s.a.A 1 s.a.c, .slice s.a.A 1 s.a.c, .slice s.a.A 1 s.a.c] W (Brings w R S W [⟨s.q.toList, true, []⟩] [⟨s.q.toList, true, []⟩] [⟨s.q.toList, true, []⟩] [])) := hid (fun W hb =>
    keepB (hin.later hb) ⟨s.a.A, s.a.c, [x]⟩ ⟨s.a.A, s.a.c, [x]⟩ ⟨s.a.A, s.a.c, [x]⟩ (htk.below hb) (htk.below hb) (htk.below hb) haw haw hga hga hga hroom.left (by simp [hxa]) (by simp [hxa]) (by simp [hxa]) W (Below.refl _ _))
  have HS1 := same_ab hs t1
  have HS2 := same_bo hs t2
  have HS3 := same_ao hs t3
  have HD1 := dir_a hR hs hq d1
  have HD2 := dir_b hR hs hq d2
  have HR := hid hR
  have HIN := hid hin
  have HSG := hid hs
  have HROOM := hid hroom
  have HALL := hid hAll
  have HQ := hid hq
  have HD := hid d3
  have hb1 := thenA (Below.refl _ wr) (.cells #[.string s.q, .slice s.o.A s.o.l.length s.o.c, .slice s.a.A s.a.l.length s.a.c, .slice s.b.A s.b.l.length s.b.c] 92 (0, 0))
  clear hroom hs hin t1 t2 t3 hR ht hd2 hx hxa htk hne hga haw hAll hq d1 d2 d3
  go_enter Tryz.func58, Tryz.ntmps58
  go_wp2_with fail
  refine (HS1.out _ hb1).mono ?_
  rintro e w2 ⟨rfl, hc2⟩
  have hx2 := hc2
  obtain ⟨q0, q1, q2, q3⟩ := boxed hx2
  have hb2 := thenB hb1 hc2
  clear hc2
  go_wp2_with fail
  refine (HS2.out _ hb2).mono ?_
  rintro e w3 ⟨rfl, hc3⟩
  have hx3 := thenB hx2 hc3
  obtain ⟨q0, q1, q2, q3⟩ := boxed hx3
  have hb3 := thenB hb2 hc3
  clear hc3
  go_wp2_with fail
  refine (HS3.out _ hb3).mono ?_
  rintro e w4 ⟨rfl, hc4⟩
  have hx4 := thenB hx3 hc4
  obtain ⟨q0, q1, q2, q3⟩ := boxed hx4
  have hb4 := thenB hb3 hc4
  clear hc4
  go_wp2_with fail
  refine (HD1.out _ hb4).mono ?_
  rintro e w5 ⟨rfl, rfl⟩
  go_wp2_with fail
  refine (HD2.out _ hb4).mono ?_
  rintro e w6 ⟨rfl, rfl⟩
  go_wp2_with fail
  go_still_tail 10, (by kernel_rfl)
  change wpList _ _ _ _ _ w4.drew
  have hbd : Below w4.heap.size w4 w4.drew := ⟨rfl, rfl, rfl, Nat.le_refl _, fun _ _ => rfl⟩
  have hb5 := thenB hb4 hbd
  obtain ⟨q0, q1, q2, q3⟩ := boxed (thenB hx4 hbd)
  generalize w4.drew = w5 at *
  go_wp2_with fail
  refine (HK.out _ hb5).mono ?_
  rintro e w6 ⟨⟨v, rfl⟩, S1, h1, h2, h3⟩
  have z0 := box_kept HIN.out h2 q0
  have z1 := box_kept HIN.out h2 q1
  have z2 := box_kept HIN.out h2 q2
  have z3 := box_kept HIN.out h2 q3
  have HM := hid ((show S.Mv R S wr w5 from Mv.below hb5).trans h2)
  have HS6 := hid (HSG.out.moved HM.out h1.below)
  have HD3 := dir_o HR.out HS6.out HQ.out HD.out
  have HG := hid h3
  have H1 := hid h1
  have HSP := hid (spots_walk s.o.A s.o.c s.o.l s.a.A s.a.c s.a.l s.b.A s.b.c s.b.l s.q w6 HS6.out.ok.o HS6.out.ok.a HS6.out.ok.b (part_len HS6.out.io _lo) (part_len HS6.out.ia la) (part_len HS6.out.ib lb))
  clear h1 h2 h3 q0 q1 q2 q3 hx2 hx3 hx4 hb1 hb2 hb3 hb4 hb5 hbd HS1 HS2 HS3 HD1 HD2 HK
  go_wp2_with fail
  refine (HD3.out _ (Below.refl _ _)).mono ?_
  rintro e w7 ⟨rfl, rfl⟩
  go_wp2_with fail
  refine HSP.out.mono ?_
  rintro e w8 ⟨⟨C, u, ss, rfl, hss, hsort, hmem, hl, hfr, hC⟩, hb8⟩
  have HA := hid (desc_all HR.out H1.out (.inl HS6.out.io) (.inl HS6.out.ia) (.inl HS6.out.ib) HS6.out.go HS6.out.ga HS6.out.gb hss hsort hmem hl hfr hC hb8 HALL.out hn (HROOM.out.right HG.out))
  clear hss hsort hmem hl hfr hC hb8
  go_wp2_with fail
  refine HA.out.mono ?_
  rintro e w9 ⟨⟨v2, rfl⟩, S2, k1, k2, k3⟩
  have HBR : HidP (∃ S' : RS, S'.In w R w9 ∧ S.Mv R S' wr w9 ∧ S.Grow S' _ _ _ _) := hid ⟨S2, k1, HM.out.trans k2, HG.out.trans k3⟩
  clear k1 k2 k3
  go_wp2_with fail
  go_end0
  exact ⟨⟨_, rfl⟩, HBR.out⟩

set_option maxRecDepth 100000 in
set_option maxHeartbeats 4000000 in
theorem at_desc2 {o a b : List AIt} {n : Nat} {w : World} {R : Nat} {S : RS} {wr : World} {s : Spot} (hin : S.In w R wr) (hs : SpotG o a b w wr R S s) (hR : Right3 o a b) (_lo : o.length ≤ 1000) (la : a.length ≤ 1000) (lb : b.length ≤ 1000) (hq : s.q.toList ≠ []) (hn : 126 ≤ s.q.toList.length + n) (hAll : AllOk o a b n) (t1 : decide (underA a s.q.toList = underA b s.q.toList) = false) (t2 : decide (underA b s.q.toList = underA o s.q.toList) = false) (t3 : decide (underA a s.q.toList = underA o s.q.toList) = false) (d1 : foundDir a s.q.toList = true) (d2 : foundDir b s.q.toList = true) (d3 : foundDir o s.q.toList = false)
    (hroom : S.Room (resX o a b (ruleA o a b) n s.q.toList) (resX o a b (ruleB o a b) n s.q.toList) (resX o a b (ruleO o a b) n s.q.toList) (resC o a b n s.q.toList)) :
    Calls Tryz.prog 58 #[.pointer (some ⟨R, 0, none⟩), .agg #[.string s.q, .slice s.o.A s.o.l.length s.o.c, .slice s.a.A s.a.l.length s.a.c, .slice s.b.A s.b.l.length s.b.c]] wr
      (Brings w R S wr (resX o a b (ruleA o a b) n s.q.toList) (resX o a b (ruleB o a b) n s.q.toList) (resX o a b (ruleO o a b) n s.q.toList) (resC o a b n s.q.toList)) := by
  have ht : takeA o a b s.q.toList = false := by unfold takeA; rw [t1, t2]; rfl
  have hd2 : bothD a b s.q.toList = true := by unfold bothD; rw [d1, d2]; rfl
  rw [res_desc ht t3 hd2, res_desc ht t3 hd2, res_desc ht t3 hd2, resC_desc ht t3 hd2] at hroom ⊢
  obtain ⟨x, r, hx, hxa⟩ := head_is hR.a hq hs.ia d1
  have htk : Tr wr s.a.A s.a.c [x] := (show Tr wr s.a.A s.a.c (x :: r) from hx ▸ hs.ok.a).take1
  have i1 : (1 : Int) ≤ (s.a.c : Int) := by have := htk.cap; simp at this; omega
  have hne : s.a.l ≠ [] := by rw [hx]; simp
  have hga : ∀ y ∈ [x], GoodR w R y := fun y hy => hs.ga y (by rw [hx]; simp at hy; simp [hy])
  have haw : S.Away R ⟨s.a.A, s.a.c, [x]⟩ := fun _ k hk => hs.wa hne k ((own_len _ _ _ _ _).trans hk)
  have HK : HidP (∀ W, Below wr.heap.size wr W → Calls Tryz.prog 91 #[.pointer (some ⟨R, 0, none⟩), .slice s.a.A 1 s.a.c, .slice s.a.A 1 s.a.c, .slice s.a.A 1 s.a.c] W (Brings w R S W [⟨s.q.toList, true, []⟩] [⟨s.q.toList, true, []⟩] [⟨s.q.toList, true, []⟩] [])) := hid (fun W hb =>
    keepB (hin.later hb) ⟨s.a.A, s.a.c, [x]⟩ ⟨s.a.A, s.a.c, [x]⟩ ⟨s.a.A, s.a.c, [x]⟩ (htk.below hb) (htk.below hb) (htk.below hb) haw haw hga hga hga hroom.left (by simp [hxa]) (by simp [hxa]) (by simp [hxa]) W (Below.refl _ _))
  have HS1 := same_ab hs t1
  have HS2 := same_bo hs t2
  have HS3 := same_ao hs t3
  have HD1 := dir_a hR hs hq d1
  have HD2 := dir_b hR hs hq d2
  have HR := hid hR
  have HIN := hid hin
  have HSG := hid hs
  have HROOM := hid hroom
  have HALL := hid hAll
  have HQ := hid hq
  have HD := hid d3
  have hb1 := thenA (Below.refl _ wr) (.cells #[.string s.q, .slice s.o.A s.o.l.length s.o.c, .slice s.a.A s.a.l.length s.a.c, .slice s.b.A s.b.l.length s.b.c] 92 (0, 0))
  clear hroom hs hin t1 t2 t3 hR ht hd2 hx hxa htk hne hga haw hAll hq d1 d2 d3
  go_enter Tryz.func58, Tryz.ntmps58
  go_wp2_with fail
  refine (HS1.out _ hb1).mono ?_
  rintro e w2 ⟨rfl, hc2⟩
  have hx2 := hc2
  obtain ⟨q0, q1, q2, q3⟩ := boxed hx2
  have hb2 := thenB hb1 hc2
  clear hc2
  go_wp2_with fail
  refine (HS2.out _ hb2).mono ?_
  rintro e w3 ⟨rfl, hc3⟩
  have hx3 := thenB hx2 hc3
  obtain ⟨q0, q1, q2, q3⟩ := boxed hx3
  have hb3 := thenB hb2 hc3
  clear hc3
  go_wp2_with fail
  refine (HS3.out _ hb3).mono ?_
  rintro e w4 ⟨rfl, hc4⟩
  have hx4 := thenB hx3 hc4
  obtain ⟨q0, q1, q2, q3⟩ := boxed hx4
  have hb4 := thenB hb3 hc4
  clear hc4
  go_wp2_with fail
  refine (HD1.out _ hb4).mono ?_
  rintro e w5 ⟨rfl, rfl⟩
  go_wp2_with fail
  refine (HD2.out _ hb4).mono ?_
  rintro e w6 ⟨rfl, rfl⟩
  go_wp2_with fail
  go_still_tail 10, (by kernel_rfl)
  change wpList _ _ _ _ _ w4.drew
  have hbd : Below w4.heap.size w4 w4.drew := ⟨rfl, rfl, rfl, Nat.le_refl _, fun _ _ => rfl⟩
  have hb5 := thenB hb4 hbd
  obtain ⟨q0, q1, q2, q3⟩ := boxed (thenB hx4 hbd)
  generalize w4.drew = w5 at *
  go_wp2_with fail
  refine (HK.out _ hb5).mono ?_
  rintro e w6 ⟨⟨v, rfl⟩, S1, h1, h2, h3⟩
  have z0 := box_kept HIN.out h2 q0
  have z1 := box_kept HIN.out h2 q1
  have z2 := box_kept HIN.out h2 q2
  have z3 := box_kept HIN.out h2 q3
  have HM := hid ((show S.Mv R S wr w5 from Mv.below hb5).trans h2)
  have HS6 := hid (HSG.out.moved HM.out h1.below)
  have HD3 := dir_o HR.out HS6.out HQ.out HD.out
  have HG := hid h3
  have H1 := hid h1
  have HSP := hid (spots_walk none 0 [] s.a.A s.a.c s.a.l s.b.A s.b.c s.b.l s.q w6 (Tr.none w6) HS6.out.ok.a HS6.out.ok.b (Nat.zero_le _) (part_len HS6.out.ia la) (part_len HS6.out.ib lb))
  clear h1 h2 h3 q0 q1 q2 q3 hx2 hx3 hx4 hb1 hb2 hb3 hb4 hb5 hbd HS1 HS2 HS3 HD1 HD2 HK
  go_wp2_with fail
  refine (HD3.out _ (Below.refl _ _)).mono ?_
  rintro e w7 ⟨rfl, rfl⟩
  go_wp2_with fail
  refine HSP.out.mono ?_
  rintro e w8 ⟨⟨C, u, ss, rfl, hss, hsort, hmem, hl, hfr, hC⟩, hb8⟩
  have HA := hid (desc_all HR.out H1.out (.inr ⟨rfl, HD.out, HQ.out⟩) (.inl HS6.out.ia) (.inl HS6.out.ib) (by simp) HS6.out.ga HS6.out.gb hss hsort hmem hl hfr hC hb8 HALL.out hn (HROOM.out.right HG.out))
  clear hss hsort hmem hl hfr hC hb8
  go_wp2_with fail
  refine HA.out.mono ?_
  rintro e w9 ⟨⟨v2, rfl⟩, S2, k1, k2, k3⟩
  have HBR : HidP (∃ S' : RS, S'.In w R w9 ∧ S.Mv R S' wr w9 ∧ S.Grow S' _ _ _ _) := hid ⟨S2, k1, HM.out.trans k2, HG.out.trans k3⟩
  clear k1 k2 k3
  go_wp2_with fail
  go_end0
  exact ⟨⟨_, rfl⟩, HBR.out⟩

end Go.Proofs.YtfbbjfbnkcklgaaGreatDoor

/- at and all, whatever there is -/
namespace Go.Proofs.YtfbbjfbnkcklgaaGreatDoor
open Go.RowKit

theorem at_of_all {o a b : List AIt} (hR : Right3 o a b) (lo : o.length ≤ 1000) (la : a.length ≤ 1000) (lb : b.length ≤ 1000) {n : Nat} (hAll : AllOk o a b n) : AtOk o a b n := by
  intro w R S wr s hin hs hu hn hroom
  have hq := path_ne (hR.pathU hu)
  cases t1 : decide (underA a s.q.toList = underA b s.q.toList)
  · cases t2 : decide (underA b s.q.toList = underA o s.q.toList)
    · cases t3 : decide (underA a s.q.toList = underA o s.q.toList)
      · cases d1 : foundDir a s.q.toList
        · exact at_conf1 hin hs hR hq t1 t2 t3 d1 hroom
        · cases d2 : foundDir b s.q.toList
          · exact at_conf2 hin hs hR hq t1 t2 t3 d1 d2 hroom
          · cases d3 : foundDir o s.q.toList
            · exact at_desc2 hin hs hR lo la lb hq hn hAll t1 t2 t3 d1 d2 d3 hroom
            · exact at_desc1 hin hs hR lo la lb hq hn hAll t1 t2 t3 d1 d2 d3 hroom
      · exact at_first hin hs t1 t2 t3 hroom
    · exact at_take2 hin hs t1 t2 hroom
  · exact at_take1 hin hs t1 hroom
theorem all_any {o a b : List AIt} (hR : Right3 o a b) (lo : o.length ≤ 1000) (la : a.length ≤ 1000) (lb : b.length ≤ 1000) : ∀ n : Nat, AllOk o a b n
  | 0 => all_zero hR
  | n + 1 => all_of_at hR (at_of_all hR lo la lb (all_any hR lo la lb n))

end Go.Proofs.YtfbbjfbnkcklgaaGreatDoor

/- rows of items, sorted -/
namespace Go.Proofs.YtfbbjfbnkcklgaaGreatDoor
open Go.RowKit Go.Shelf Go.Lib Go.Sort

instance : Inhabited Itm := ⟨⟨ByteArray.empty, false, none, 0, []⟩⟩
def cfI (x y : Itm) : Int := cmpL x.p.toList y.p.toList
theorem ltI (x y : Itm) : ltOf cfI x y = Op.bytesLess x.p.toList y.p.toList := by
  unfold ltOf cfI cmpL
  cases h : Op.bytesLess x.p.toList y.p.toList
  · by_cases h2 : x.p.toList = y.p.toList <;> simp [h2]
  · simp
theorem swoI : SWO (ltOf cfI) where
  irrefl x := by rw [ltI]; exact less_irrefl _
  trans x y z h1 h2 := by rw [ltI] at *; exact less_trans h1 h2
  ntrans x y z h1 h2 := by
    rw [ltI] at *
    cases h3 : Op.bytesLess x.p.toList z.p.toList
    · rfl
    · exfalso
      cases h4 : Op.bytesLess y.p.toList x.p.toList
      · have h5 := less_total h1 h4
        rw [h5] at h3
        rw [h3] at h2; cases h2
      · have h5 := less_trans h4 h3
        rw [h5] at h2; cases h2

set_option maxHeartbeats 1600000 in
theorem sort1_walk (x y : Itm) (W : World) : Calls Tryz.prog 64 #[.agg #[.string x.p, .bool x.d, .slice x.dA x.bs.length x.dc], .agg #[.string y.p, .bool y.d, .slice y.dA y.bs.length y.dc]] W fun e w' => e = .returned (.int .i64 (cfI x y)) ∧ ∃ q os', w' = grow (W.drewN q) os' := by
  have HC := hid (fun W' => compare_any x.p y.p W')
  unfold cfI
  generalize cmpL x.p.toList y.p.toList = r at *
  go_enter Tryz.func64, Tryz.ntmps64
  go_wp2_with fail
  refine (HC.out _).mono ?_
  rintro e w' ⟨rfl, rfl⟩
  go_wp2_with fail
  go_ret
  exact ⟨rfl, 0, _, by rw [alloc_eq_grow, alloc_eq_grow, grow_grow]; rfl⟩

theorem flatK_list {α : Type} [Inhabited α] {enc : α → List Value} {k : Nat} (hk : ∀ x, (enc x).length = k) (h0 : 0 < k) (d : Array α) : (flatK enc k d).toList = d.toList.flatMap enc := by
  apply List.ext_getElem?
  intro t
  by_cases ht : t < d.size * k
  · have hi : t / k < d.size := Nat.div_lt_of_lt_mul (by rw [Nat.mul_comm]; exact ht)
    have hr : t % k < k := Nat.mod_lt _ h0
    have he : t / k * k + t % k = t := by rw [Nat.mul_comm]; exact Nat.div_add_mod t k
    have h1 := flat_get hk d.toList (t / k) d[t / k]! (t % k) (by rw [Array.getElem?_toList, getElem!_pos d _ hi, Array.getElem?_eq_getElem hi]) hr
    rw [he] at h1
    have h2 := get_flatK enc k d t ht
    rw [h1, Array.getElem?_toList, Array.getElem?_eq_getElem (by rw [size_flatK]; exact ht), List.getElem?_eq_getElem (by rw [hk]; exact hr)]
    congr 1
    rw [getElem!_pos (flatK enc k d) t (by rw [size_flatK]; exact ht)] at h2
    rw [h2, getElem!_pos _ _ (by rw [hk]; exact hr)]
  · rw [List.getElem?_eq_none (by rw [Array.length_toList, size_flatK]; omega), List.getElem?_eq_none (by rw [flat_len hk, Array.length_toList]; omega)]
theorem row_holds {w : World} {e : TypeId} {b off n c : Nat} {L : List Itm} (h : Row w e 3 (.slice (some ⟨b, off, none⟩) n c) (L.flatMap Itm.cells)) : HoldsK Itm.cells 3 w b off L.toArray := by
  obtain ⟨A', n', c', hv, hl, hn, hc, hh⟩ := h
  cases hv
  rcases hh with ⟨h, _⟩ | ⟨b', off', cs, hA, hb, hs, ht⟩
  · cases h
  cases hA
  intro j hj
  rw [size_flatK] at hj
  have hsz : L.toArray.size = L.length := rfl
  rw [flat_len itm_len'] at hl
  refine ⟨?_, blkFree hb _⟩
  rw [blkCell hb, getElem!_pos _ _ (by rw [size_flatK]; exact hj)]
  have hf := flatK_list itm_len' (by decide : 0 < 3) L.toArray
  have h1 : (flatK Itm.cells 3 L.toArray).toList[j]? = cs[off + j]? := by
    rw [hf]
    show (L.flatMap Itm.cells)[j]? = _
    rw [← ht, List.getElem?_take, if_pos (by omega), List.getElem?_drop, Array.getElem?_toList]
  rw [Array.getElem?_toList, Array.getElem?_eq_getElem (by rw [size_flatK]; exact hj)] at h1
  exact h1.symm
theorem take_put (cs : Array Value) (off : Nat) (F : Array Value) (h : off + F.size ≤ cs.size) : ((putCells id off F cs).toList.drop off).take F.size = F.toList := by
  apply List.ext_getElem?
  intro j
  by_cases hj : j < F.size
  · rw [List.getElem?_take_of_lt hj, List.getElem?_drop, Array.getElem?_toList, Array.getElem?_toList, Array.getElem?_eq_getElem hj]
    simp [putCells, hj, show off + j < cs.size by omega]
  · rw [List.getElem?_take_eq_none (by omega), List.getElem?_eq_none (by simp; omega)]
theorem row_sorted {w : World} {e : TypeId} {b off n c m : Nat} {L : List Itm} {os : Array Obj} (h : Row w e 3 (.slice (some ⟨b, off, none⟩) n c) (L.flatMap Itm.cells)) (d : Array Itm) (hd : d.size = L.length) :
    Row (sortWorldK Itm.cells 3 w b off m d os) e 3 (.slice (some ⟨b, off, none⟩) n c) (d.toList.flatMap Itm.cells) ∧ w.grownBy (sortWorldK Itm.cells 3 w b off m d os) (some b) := by
  obtain ⟨A', n', c', hv, hl, hn, hc, hh⟩ := h
  cases hv
  rcases hh with ⟨h, _⟩ | ⟨b', off', cs, hA, hb, hs, ht⟩
  · cases h
  cases hA
  rw [flat_len itm_len'] at hl
  have hlt := blkLt hb
  refine ⟨⟨_, n, c, rfl, by rw [flat_len itm_len', Array.length_toList, hd, hl], hn, hc, .inr ⟨b, off, putCells id off (flatK Itm.cells 3 d) cs, rfl, ?_, by simp [putCells]; exact hs, ?_⟩⟩, rfl, rfl, rfl, by simp [sortWorldK, putRowK, Sort.ahead], fun k hk hne => ?_⟩
  · unfold sortWorldK
    rw [heap_grow_old _ _ (by simp [putRowK, Sort.ahead]; exact hlt)]
    simp [putRowK, putRow, mapBlock, Sort.ahead, Array.getElem?_modify, hb, onCells]
  · have h1 := take_put cs off (flatK Itm.cells 3 d) (by rw [size_flatK, hd]; omega)
    rw [size_flatK, hd, hl] at h1
    rw [h1, flatK_list itm_len' (by decide : 0 < 3)]
  · unfold sortWorldK
    rw [heap_grow_old _ _ (by simp [putRowK, Sort.ahead]; exact hk)]
    have : b ≠ k := fun e => hne (by rw [e])
    simp [putRowK, putRow, mapBlock, Sort.ahead, Array.getElem?_modify, this]

end Go.Proofs.YtfbbjfbnkcklgaaGreatDoor

/- SortFunc at items -/
namespace Go.Proofs.YtfbbjfbnkcklgaaGreatDoor
open Go.RowKit Go.Shelf Go.Lib Go.Sort

theorem insfunc_none (p : Option Addr) (cap : Nat) (fv : Value) (w : World) : Calls Tryz.prog 121 #[.slice p 0 cap, .int .i64 0, .int .i64 0, fv] w fun e w' => (∃ v, e = .returned v) ∧ w = w' := by
  go_enter Tryz.func121, Tryz.ntmps121
  go_wp2_with fail
  refine wp_loop_rounds 1 ?_
  rw [rounds_succ]
  go_wp2_with fail
  go_end0
  exact ⟨⟨_, rfl⟩, rfl⟩
theorem pdqfunc_none (p : Option Addr) (cap : Nat) (lim : Int) (fv : Value) (w : World) : Calls Tryz.prog 97 #[.slice p 0 cap, .int .i64 0, .int .i64 0, .int .i64 lim, fv] w fun e w' => (∃ v, e = .returned v) ∧ w = w' := by
  have HI := hid (fun W => insfunc_none p cap fv W)
  go_enter Tryz.func97, Tryz.ntmps97
  go_wp2_with fail
  refine wp_loop_rounds 1 ?_
  rw [rounds_succ]
  go_wp2_with fail
  refine (HI.out _).mono ?_
  rintro e w' ⟨⟨v, rfl⟩, rfl⟩
  go_wp2_with fail
  (try simp only [Exit.inBlock, Exit.then]); refine bodyPost_ret (results_none rfl _ _ _) rfl ?_
  exact ⟨⟨_, rfl⟩, rfl⟩
theorem bitslen (n : Nat) (W : World) (h : n ≤ 4611686018427387904) : Calls Tryz.prog 98 #[.int .u64 (n : Int)] W fun e w' => e = .returned (.int .i64 (Lib.bitLen n : Nat)) ∧ w' = W := by
  have h := Any.bits_Len (SlLaysF0.n15.bits (P := Tryz.prog) (ρ := Tryz.laysPdq_ren) { Tryz.laysPdq with }) (n : Int) W (by omega) (by omega)
  rwa [Int.toNat_natCast] at h

/-- sorted, equals in whatever order -/
def upI (l : List Itm) : Prop := l.Pairwise fun x y => Op.bytesLess y.p.toList x.p.toList = false
theorem sorted_of {d : Array Itm} {n : Nat} (hn : d.size = n) (h : SortedIn (ltOf cfI) 0 n d) : upI d.toList := by
  subst hn
  unfold upI
  rw [List.pairwise_iff_getElem]
  intro i j hi hj hij
  have h1 := h i j (Nat.zero_le _) hij (by simpa using hj)
  rw [ltI, getElem!_pos d _ (by simpa using hj), getElem!_pos d _ (by simpa using hi)] at h1
  simpa using h1
theorem perm_of {d d' : Array Itm} (h : PermIn 0 d.size d d') : d'.toList.Perm d.toList := by
  obtain ⟨h1, h2, h3⟩ := h
  have e1 : d.extract 0 d.size = d := by simp
  have e2 : d'.extract 0 d.size = d' := by rw [← h1]; simp
  rw [e1, e2] at h3
  exact h3

set_option maxRecDepth 100000 in
set_option maxHeartbeats 4000000 in
theorem sortfunc_walk {w : World} {A : Option Addr} {n c : Nat} {L : List Itm} (h : Row w 42 3 (.slice A n c) (L.flatMap Itm.cells)) (hL : L.length ≤ 1000000) :
    Calls Tryz.prog 66 #[.slice A n c, .func (.func 64) #[] #[]] w fun e w' => (∃ v, e = .returned v) ∧ ∃ L' : List Itm, L'.Perm L ∧ upI L' ∧ Row w' 42 3 (.slice A n c) (L'.flatMap Itm.cells) ∧ w.grownBy w' (Value.slice A n c).ownBlock := by
  have hn := h.count
  rw [flat_len itm_len'] at hn
  obtain rfl : n = L.length := by omega
  have HB := hid (bitslen L.length)
  have hw : IntKind.u64.wrap (L.length : Int) = L.length := by simp [IntKind.wrap, IntKind.bits, IntKind.signed]; omega
  by_cases h0 : L = []
  · subst h0
    have HP := hid (fun lim W => pdqfunc_none A c lim (.func (.func 64) #[] #[]) W)
    have HH := hid h
    clear h hn
    go_enter Tryz.func66, Tryz.ntmps66
    go_wp2_with fail
    refine (HB.out _ (by simp)).mono ?_
    rintro e w' ⟨rfl, rfl⟩
    go_wp2_with fail
    refine (HP.out _ _).mono ?_
    rintro e w2 ⟨⟨v, rfl⟩, rfl⟩
    go_wp2_with fail
    go_end0
    exact ⟨⟨_, rfl⟩, [], List.Perm.refl _, List.Pairwise.nil, HH.out, rfl, rfl, rfl, Nat.le_refl _, fun _ _ _ => rfl⟩
  · obtain ⟨b, off, rfl⟩ : ∃ b off, A = some ⟨b, off, none⟩ := by
      obtain ⟨A', n', c', hv, hl, hn', hc, hh⟩ := id h
      cases hv
      rcases hh with ⟨_, rfl⟩ | ⟨b, off, cs, rfl, _⟩
      · exact absurd (List.eq_nil_of_length_eq_zero (by omega)) h0
      · exact ⟨b, off, rfl⟩
    have hH := row_holds h
    have hlt := h.lt b rfl
    have hlim : Lib.bitLen L.length < 4611686018427387904 := Nat.lt_of_le_of_lt (Lib.bitLen_le L.length 62 (by omega) (by omega)) (by omega)
    have hp := AnyQ.pdqsortCmpFunc_all (P := Tryz.prog) (ρ := Tryz.laysPdq_ren) Tryz.laysPdq 3 Tryz.isAgg42 Tryz.sizeOf42 Itm.cells cfI 64 #[] swoI b off c L.toArray w (enters_of Tryz.func64 (by kernel_rfl) rfl) (fun _ _ _ _ x y => sort1_walk x y _)
      ⟨itm_len', fun x v hv => by simp [Itm.cells] at hv; rcases hv with rfl | rfl | rfl <;> rfl, hH, hlt⟩ (L.length + 1) 0 L.length (Lib.bitLen L.length) L.toArray w (by omega) rfl (SWK.start hH) (Nat.zero_le _) (Nat.le_refl _) (by simp; omega) hlim (Or.inl rfl)
    have hso := pdq_sorts (ltOf cfI) swoI L.toArray 0 L.toArray.size (Lib.bitLen L.length) true true (Nat.zero_le _) (Nat.le_refl _) (Or.inl rfl)
    have hfin : ∀ w', SWK Itm.cells 3 w b off (pdq (ltOf cfI) L.toArray 0 L.length (Lib.bitLen L.length) true true) w' → ∃ L' : List Itm, L'.Perm L ∧ upI L' ∧ Row w' 42 3 (.slice (some ⟨b, off, none⟩) L.length c) (L'.flatMap Itm.cells) ∧ w.grownBy w' (some b) := fun w' hw' => by
      obtain ⟨hpm, hst⟩ := hso
      obtain ⟨m, os, rfl⟩ := hw'
      have hsz := hpm.1
      obtain ⟨r1, r2⟩ := row_sorted (m := m) (os := os) h _ hsz
      exact ⟨_, perm_of hpm, sorted_of hsz hst, r1, r2⟩
    have HP := hid hp
    have HF := hid hfin
    clear h hn hH hp hso hfin
    go_enter Tryz.func66, Tryz.ntmps66
    go_wp2_with fail
    refine (HB.out _ (by omega)).mono ?_
    rintro e w' ⟨rfl, rfl⟩
    go_wp2_with fail
    refine HP.out.mono ?_
    rintro e w2 ⟨rfl, hs⟩
    have HS := hid (HF.out _ hs)
    clear hs
    go_wp2_with fail
    go_end0
    exact ⟨⟨_, rfl⟩, HS.out⟩

end Go.Proofs.YtfbbjfbnkcklgaaGreatDoor

/- slices.Sort at strings; what a sort leaves of a result -/
namespace Go.Proofs.YtfbbjfbnkcklgaaGreatDoor
open Go.RowKit Go.Shelf Go.Lib Go.Sort

theorem enc_map (ss : List ByteArray) : ss.map Value.string = (ss.map fun z : ByteArray => z.toList).map encStr := by
  rw [List.map_map]
  apply List.map_congr_left
  intro z _
  simp [encStr, ByteArray.toList_eq]
theorem srow_holds {w : World} {e : TypeId} {b off n c : Nat} {ls : List Txt} (h : Row w e 1 (.slice (some ⟨b, off, none⟩) n c) (ls.map encStr)) : Holds encStr w b off ls.toArray := by
  obtain ⟨A', n', c', hv, hl, hn, hc, hh⟩ := h
  cases hv
  rcases hh with ⟨h, _⟩ | ⟨b', off', cs, hA, hb, hs, ht⟩
  · cases h
  cases hA
  intro j hj
  have hj' : j < ls.length := by simpa using hj
  rw [List.length_map] at hl
  refine ⟨?_, blkFree hb _⟩
  have h1 : (ls.map encStr)[j]? = cs[off + j]? := by
    rw [← ht, List.getElem?_take, if_pos (by omega), List.getElem?_drop, Array.getElem?_toList]
  rw [blkCell hb, ← h1, List.getElem?_map, List.getElem?_eq_getElem hj', getElem!_pos ls.toArray j hj]
  rfl
theorem take_put' (cs : Array Value) (off : Nat) (ls : List Txt) (h : off + ls.length ≤ cs.size) : ((putCells encStr off ls.toArray cs).toList.drop off).take ls.length = ls.map encStr := by
  apply List.ext_getElem?
  intro j
  by_cases hj : j < ls.length
  · rw [List.getElem?_take_of_lt hj, List.getElem?_drop, Array.getElem?_toList, List.getElem?_map, List.getElem?_eq_getElem hj]
    simp [putCells, hj, show off + j < cs.size by omega]
  · rw [List.getElem?_take_eq_none (by omega), List.getElem?_eq_none (by simp; omega)]
theorem srow_sorted {w : World} {e : TypeId} {b off n c m : Nat} {ls : List Txt} {os : Array Obj} (h : Row w e 1 (.slice (some ⟨b, off, none⟩) n c) (ls.map encStr)) (l2 : List Txt) (hd : l2.length = ls.length) :
    Row (grow (putRow encStr (Sort.ahead w m) b off l2.toArray) os) e 1 (.slice (some ⟨b, off, none⟩) n c) (l2.map encStr) ∧ w.grownBy (grow (putRow encStr (Sort.ahead w m) b off l2.toArray) os) (some b) := by
  obtain ⟨A', n', c', hv, hl, hn, hc, hh⟩ := h
  cases hv
  rcases hh with ⟨h, _⟩ | ⟨b', off', cs, hA, hb, hs, ht⟩
  · cases h
  cases hA
  rw [List.length_map] at hl
  have hlt := blkLt hb
  refine ⟨⟨_, n, c, rfl, by rw [List.length_map, hd, hl], hn, hc, .inr ⟨b, off, putCells encStr off l2.toArray cs, rfl, ?_, by simp [putCells]; omega, ?_⟩⟩, rfl, rfl, rfl, by simp [Sort.ahead], fun k hk hne => ?_⟩
  · rw [heap_grow_old _ _ (by simp [Sort.ahead]; exact hlt)]
    simp [putRow, mapBlock, Sort.ahead, Array.getElem?_modify, hb, onCells]
  · have h1 := take_put' cs off l2 (by omega)
    rw [hd, hl] at h1
    exact h1
  · rw [heap_grow_old _ _ (by simp [Sort.ahead]; exact hk)]
    have : b ≠ k := fun e => hne (by rw [e])
    simp [putRow, mapBlock, Sort.ahead, Array.getElem?_modify, this]
theorem sortstr_walk {w : World} {A : Option Addr} {n c : Nat} {ss : List ByteArray} (h : Row w 9 1 (.slice A n c) (ss.map .string)) (hL : ss.length ≤ 1000000) :
    Calls Tryz.prog 67 #[.slice A n c] w fun e w' => (∃ v, e = .returned v) ∧ ∃ s2 : List ByteArray, s2.map (fun z : ByteArray => z.toList) = (ss.map fun z : ByteArray => z.toList).mergeSort (fun x y => decide (x ≤ y)) ∧ Row w' 9 1 (.slice A n c) (s2.map .string) ∧ w.grownBy w' (Value.slice A n c).ownBlock := by
  have hn := h.count
  rw [List.length_map, Nat.mul_one] at hn
  subst hn
  by_cases h0 : ss = []
  · subst h0
    refine (Any.slices_Sort_string_none (P := Tryz.prog) (ρ := Tryz.laysSort_ren) Tryz.laysSort A c w).mono ?_
    rintro e w' ⟨rfl, rfl⟩
    exact ⟨⟨_, rfl⟩, [], by simp, h, rfl, rfl, rfl, Nat.le_refl _, fun _ _ _ => rfl⟩
  · obtain ⟨b, off, rfl⟩ : ∃ b off, A = some ⟨b, off, none⟩ := by
      obtain ⟨A', n', c', hv, hl, hn', hc, hh⟩ := id h
      cases hv
      rcases hh with ⟨_, rfl⟩ | ⟨b, off, cs, rfl, _⟩
      · exact absurd (List.eq_nil_of_length_eq_zero (by omega)) h0
      · exact ⟨b, off, rfl⟩
    have hlt := h.lt b rfl
    rw [enc_map] at h
    have hc := Any.slices_Sort_string (P := Tryz.prog) (ρ := Tryz.laysSort_ren) Tryz.laysSort b off c (ss.map fun z : ByteArray => z.toList) w (srow_holds h) hlt (by simp; omega)
    rw [List.length_map] at hc
    refine hc.mono ?_
    rintro e w' ⟨rfl, m, os, rfl⟩
    obtain ⟨r1, r2⟩ := srow_sorted (m := m) (os := os) h ((ss.map fun z : ByteArray => z.toList).mergeSort fun x y => decide (x ≤ y)) (List.length_mergeSort _)
    refine ⟨⟨_, rfl⟩, ((ss.map fun z : ByteArray => z.toList).mergeSort fun x y => decide (x ≤ y)).map fun l => ⟨l.toArray⟩, ?_, ?_, r2⟩
    · rw [List.map_map]
      have e : ((fun x : ByteArray => x.toList) ∘ fun l : List UInt8 => (⟨l.toArray⟩ : ByteArray)) = id := by
        funext l
        simp [toList_lit]
      rw [e, List.map_id]
    · rw [List.map_map]
      exact r1

theorem RM.sortA {w : World} {R : Nat} {a b o c : Sl} {LA LB LO : List Itm} {LC : List ByteArray} {wr w2 : World} (h : RM w R a b o c LA LB LO LC wr) {l : List Itm} (hg : wr.grownBy w2 a.own) (hr : Row w2 42 3 (.slice a.A a.n a.c) (l.flatMap Itm.cells)) (hp : l.Perm LA) : RM w R a b o c l LB LO LC w2 :=
  ⟨(hg.block R (blkLt h.blk) (fun e => h.ra.neBlk h.blk (by decide) e.symm)).trans h.blk, hr, h.rb.keep fun k hk => hg.block k (h.rb.lt k hk) (fun e => h.ab k e.symm hk), h.ro.keep fun k hk => hg.block k (h.ro.lt k hk) (fun e => h.ao k e.symm hk),
    h.rc.keep fun k hk => hg.block k (h.rc.lt k hk) (fun e => h.rc.neRow h.ra (by decide) hk e.symm), h.fa, h.fb, h.fo, h.fc, h.ab, h.ao, h.bo, fun x hx => h.ga x (hp.mem_iff.1 hx), h.gb, h.go, KR.grown h.below hg h.fa⟩
theorem RM.sortB {w : World} {R : Nat} {a b o c : Sl} {LA LB LO : List Itm} {LC : List ByteArray} {wr w2 : World} (h : RM w R a b o c LA LB LO LC wr) {l : List Itm} (hg : wr.grownBy w2 b.own) (hr : Row w2 42 3 (.slice b.A b.n b.c) (l.flatMap Itm.cells)) (hp : l.Perm LB) : RM w R a b o c LA l LO LC w2 :=
  ⟨(hg.block R (blkLt h.blk) (fun e => h.rb.neBlk h.blk (by decide) e.symm)).trans h.blk, h.ra.keep fun k hk => hg.block k (h.ra.lt k hk) (fun e => h.ab k hk e.symm), hr, h.ro.keep fun k hk => hg.block k (h.ro.lt k hk) (fun e => h.bo k e.symm hk),
    h.rc.keep fun k hk => hg.block k (h.rc.lt k hk) (fun e => h.rc.neRow h.rb (by decide) hk e.symm), h.fa, h.fb, h.fo, h.fc, h.ab, h.ao, h.bo, h.ga, fun x hx => h.gb x (hp.mem_iff.1 hx), h.go, KR.grown h.below hg h.fb⟩
theorem RM.sortO {w : World} {R : Nat} {a b o c : Sl} {LA LB LO : List Itm} {LC : List ByteArray} {wr w2 : World} (h : RM w R a b o c LA LB LO LC wr) {l : List Itm} (hg : wr.grownBy w2 o.own) (hr : Row w2 42 3 (.slice o.A o.n o.c) (l.flatMap Itm.cells)) (hp : l.Perm LO) : RM w R a b o c LA LB l LC w2 :=
  ⟨(hg.block R (blkLt h.blk) (fun e => h.ro.neBlk h.blk (by decide) e.symm)).trans h.blk, h.ra.keep fun k hk => hg.block k (h.ra.lt k hk) (fun e => h.ao k hk e.symm), h.rb.keep fun k hk => hg.block k (h.rb.lt k hk) (fun e => h.bo k hk e.symm), hr,
    h.rc.keep fun k hk => hg.block k (h.rc.lt k hk) (fun e => h.rc.neRow h.ro (by decide) hk e.symm), h.fa, h.fb, h.fo, h.fc, h.ab, h.ao, h.bo, h.ga, h.gb, fun x hx => h.go x (hp.mem_iff.1 hx), KR.grown h.below hg h.fo⟩
theorem RM.sortC {w : World} {R : Nat} {a b o c : Sl} {LA LB LO : List Itm} {LC : List ByteArray} {wr w2 : World} (h : RM w R a b o c LA LB LO LC wr) {l : List ByteArray} (hg : wr.grownBy w2 c.own) (hr : Row w2 9 1 (.slice c.A c.n c.c) (l.map .string)) : RM w R a b o c LA LB LO l w2 :=
  ⟨(hg.block R (blkLt h.blk) (fun e => h.rc.neBlk h.blk (by decide) e.symm)).trans h.blk, h.ra.keep fun k hk => hg.block k (h.ra.lt k hk) (fun e => h.ra.neRow h.rc (by decide) hk e.symm), h.rb.keep fun k hk => hg.block k (h.rb.lt k hk) (fun e => h.rb.neRow h.rc (by decide) hk e.symm), h.ro.keep fun k hk => hg.block k (h.ro.lt k hk) (fun e => h.ro.neRow h.rc (by decide) hk e.symm),
    hr, h.fa, h.fb, h.fo, h.fc, h.ab, h.ao, h.bo, h.ga, h.gb, h.go, KR.grown h.below hg h.fc⟩

end Go.Proofs.YtfbbjfbnkcklgaaGreatDoor

/- (*Result).sort -/
namespace Go.Proofs.YtfbbjfbnkcklgaaGreatDoor
open Go.RowKit

theorem idx3 (x y z : Value) (w : World) : (Instr.index 104 (.agg #[x, y, z]) (.int .i64 0)).run Tryz.prog w = .ok x w ∧ (Instr.index 104 (.agg #[x, y, z]) (.int .i64 1)).run Tryz.prog w = .ok y w ∧ (Instr.index 104 (.agg #[x, y, z]) (.int .i64 2)).run Tryz.prog w = .ok z w := ⟨by kernel_rfl, by kernel_rfl, by kernel_rfl⟩
/-- what sort leaves -/
structure Sorted2 (S S2 : RS) : Prop where
  pa : S2.LA.Perm S.LA
  pb : S2.LB.Perm S.LB
  po : S2.LO.Perm S.LO
  ua : upI S2.LA
  ub : upI S2.LB
  uo : upI S2.LO
  c : S2.LC.map (fun z : ByteArray => z.toList) = (S.LC.map fun z : ByteArray => z.toList).mergeSort (fun x y => decide (x ≤ y))

set_option maxRecDepth 100000 in
set_option maxHeartbeats 4000000 in
theorem msort_walk {w : World} {R : Nat} {S : RS} {wr : World} (hin : S.In w R wr) (nA : S.LA.length ≤ 100000) (nB : S.LB.length ≤ 100000) (nO : S.LO.length ≤ 100000) (nC : S.LC.length ≤ 100000) :
    Calls Tryz.prog 40 #[.pointer (some ⟨R, 0, none⟩)] wr fun e w' => (∃ v, e = .returned v) ∧ ∃ S2 : RS, S2.In w R w' ∧ Sorted2 S S2 := by
  have HIN := hid hin
  have c0 : wr.cell? ⟨R, 0, none⟩ = some (.slice S.a.A S.a.n S.a.c) := (blkCell hin.blk 0).trans rfl
  have c1 : wr.cell? ⟨R, 1, none⟩ = some (.slice S.b.A S.b.n S.b.c) := (blkCell hin.blk 1).trans rfl
  have c2 : wr.cell? ⟨R, 2, none⟩ = some (.slice S.o.A S.o.n S.o.c) := (blkCell hin.blk 2).trans rfl
  clear hin
  have i0 := fun W => (idx3 (.slice S.a.A S.a.n S.a.c) (.slice S.b.A S.b.n S.b.c) (.slice S.o.A S.o.n S.o.c) W).1
  have i1 := fun W => (idx3 (.slice S.a.A S.a.n S.a.c) (.slice S.b.A S.b.n S.b.c) (.slice S.o.A S.o.n S.o.c) W).2.1
  have i2 := fun W => (idx3 (.slice S.a.A S.a.n S.a.c) (.slice S.b.A S.b.n S.b.c) (.slice S.o.A S.o.n S.o.c) W).2.2
  go_enter Tryz.func40, Tryz.ntmps40
  go_wp2_with fail
  go_quiet (fail)
  have hbd : Below wr.heap.size wr (wr.drewN nq) := ⟨rfl, rfl, rfl, Nat.le_refl _, fun _ _ => rfl⟩
  have H1 := hid (HIN.out.later hbd)
  clear c0 c1 c2 HIN hbd
  generalize wr.drewN nq = w1 at *
  go_wp2_with fail
  refine wp_loop_rounds 4 ?_
  rw [rounds_succ]
  go_wp2_with fail
  refine (sortfunc_walk H1.out.ra (by omega)).mono ?_
  rintro e w2 ⟨⟨v, rfl⟩, l1, hp1, hu1, hr1, hg1⟩
  have H2 := hid (H1.out.sortA hg1 hr1 hp1)
  clear hg1 hr1
  go_wp2_with fail
  rw [rounds_succ]
  go_wp2_with fail
  refine (sortfunc_walk H2.out.rb (by omega)).mono ?_
  rintro e w3 ⟨⟨v2, rfl⟩, l2, hp2, hu2, hr2, hg2⟩
  have H3 := hid (H2.out.sortB hg2 hr2 hp2)
  clear hg2 hr2
  go_wp2_with fail
  rw [rounds_succ]
  go_wp2_with fail
  refine (sortfunc_walk H3.out.ro (by omega)).mono ?_
  rintro e w4 ⟨⟨v3, rfl⟩, l3, hp3, hu3, hr3, hg3⟩
  have H4 := hid (H3.out.sortO hg3 hr3 hp3)
  have c3 : w4.cell? ⟨R, 3, none⟩ = some (.slice S.c.A S.c.n S.c.c) := (blkCell H4.out.blk 3).trans rfl
  clear hg3 hr3
  go_wp2_with fail
  rw [rounds_succ]
  go_wp2_with fail
  refine (sortstr_walk H4.out.rc (by omega)).mono ?_
  rintro e w5 ⟨⟨v4, rfl⟩, s2, hs2, hr4, hg4⟩
  have H5 := hid (H4.out.sortC hg4 hr4)
  clear hg4 hr4
  go_wp2_with fail
  go_end0
  exact ⟨⟨_, rfl⟩, ⟨S.a, S.b, S.o, S.c, l1, l2, l3, s2⟩, H5.out, hp1, hp2, hp3, hu1, hu2, hu3, hs2⟩

end Go.Proofs.YtfbbjfbnkcklgaaGreatDoor

/- the merged lists: how many, each once; sorted they are the trees -/
namespace Go.Proofs.YtfbbjfbnkcklgaaGreatDoor
open Go.RowKit

section
variable {o a b : List AIt} {s : Txt → List AIt}
theorem mgL_nodup (h : Right3 o a b) (hs : Sel o a b s) : ((mgL o a b s).map (·.p)).Nodup := by
  unfold List.Nodup
  rw [List.pairwise_map]
  exact mgL_distinct h hs
theorem mgL_inU (h : Right3 o a b) (hs : Sel o a b s) {z : AIt} (hz : z ∈ mgL o a b s) : inU o a b z.p := by
  rcases (mem_mgL h hs).1 hz with ⟨_, h2, _⟩ | ⟨q, _, h2⟩
  · exact h2
  · exact sel_in hs (mem_under.1 h2).1
theorem inU_mem {q : Txt} (h : inU o a b q) : q ∈ (o ++ a ++ b).map (·.p) := by
  rcases h with ⟨x, hx, rfl⟩ | ⟨x, hx, rfl⟩ | ⟨x, hx, rfl⟩ <;> exact List.mem_map.2 ⟨x, by simp [hx], rfl⟩
theorem mgL_len (h : Right3 o a b) (hs : Sel o a b s) : (mgL o a b s).length ≤ o.length + a.length + b.length := by
  have h1 := List.Nodup.length_le_of_subset (mgL_nodup h hs) (l₂ := (o ++ a ++ b).map (·.p)) (fun q hq => by
    obtain ⟨z, hz, rfl⟩ := List.mem_map.1 hq
    exact inU_mem (mgL_inU h hs hz))
  simp only [List.length_map, List.length_append] at h1
  exact h1
theorem mgT_of (h : Right3 o a b) (hs : Sel o a b s) {L : List Itm} {M : List Itm} (hM : M.map Itm.abs = mgL o a b s) (hp : L.Perm M) (hu : upI L) : L.map Itm.abs = mgT o a b s := by
  have hpm : (L.map Itm.abs).Perm (mgL o a b s) := by rw [← hM]; exact hp.map _
  have hd : ((L.map Itm.abs).map (·.p)).Nodup := ((hpm.map _).nodup_iff).2 (mgL_nodup h hs)
  have hsort : sortedA (L.map Itm.abs) := by
    unfold sortedA
    unfold List.Nodup at hd
    rw [List.pairwise_map, List.pairwise_map] at hd
    rw [List.pairwise_map]
    refine (hu.and hd).imp fun {x y} hxy => ?_
    cases h1 : Op.bytesLess x.abs.p y.abs.p
    · exact absurd (less_total h1 hxy.1) hxy.2
    · rfl
  refine sorted_ext hsort (mgT_sorted o a b s) fun z => ?_
  rw [hpm.mem_iff, mem_mgL h hs, mem_mgT h hs]

theorem mgC_as (N : Txt → List Txt) (D C : Txt → Bool) : ∀ (n : Nat) (p : Txt), mgC N D C n p = ((mgX N D (fun q => if C q = true then [⟨q, false, []⟩] else []) n p).filter fun z => !z.d).map (·.p)
  | 0, _ => rfl
  | n + 1, p => by
    unfold mgC mgX
    rw [List.filter_flatMap, List.map_flatMap]
    refine flatMap_cong fun q _ => ?_
    by_cases hd : D q = true
    · rw [if_pos hd, if_pos hd, mgC_as N D C n q]
      simp
    · rw [if_neg hd, if_neg hd]
      by_cases hc : C q = true
      · simp [hc]
      · simp [hc]
theorem conf_in (h : Right3 o a b) {q : Txt} (hq : q ≠ []) (hc : confB o a b q = true) : inU o a b q := by
  obtain ⟨h1, _, _⟩ := conf_parts hc
  have h2 := (take_parts.1 h1).1
  have key : ∀ {T : List AIt}, RightP T → underA T q ≠ [] → ∃ x ∈ T, x.p = q := fun {T} hT hne => by
    obtain ⟨z, hz⟩ := List.exists_mem_of_ne_nil _ hne
    obtain ⟨h3, h4⟩ := mem_under.1 hz
    by_cases e : q = z.p
    · exact ⟨z, h3, e.symm⟩
    · obtain ⟨y, hy, hp, _⟩ := right_above hT hq _ z (Nat.le_refl _) h3 h4 e
      exact ⟨y, hy, hp⟩
  by_cases e : underA a q = []
  · have : underA b q ≠ [] := fun e2 => h2 (by rw [e, e2])
    exact .inr (.inr (key h.b this))
  · exact .inr (.inl (key h.a e))
theorem mgCs_nodup (h : Right3 o a b) : (mgCs o a b).Nodup := by
  have e : mgCs o a b = mgC (namesA o a b) (descB o a b) (fun q => confB o a b q && decide (q ≠ [])) 126 [] :=
    mgC_congr (fun _ => True) (fun _ _ => rfl) (fun p _ q hq => ⟨rfl, by
      have := path_ne (h.pathU (mem_names.1 hq).2)
      simp [this], fun _ => trivial⟩) 126 [] trivial
  rw [e, mgC_as]
  have hd := mgX_distinct h (R := fun q => if (confB o a b q && decide (q ≠ [])) = true then [⟨q, false, []⟩] else []) (fun q z hz => by
    split at hz
    · rename_i hc
      rw [Bool.and_eq_true, decide_eq_true_eq] at hc
      obtain rfl := List.mem_singleton.1 hz
      exact ⟨within_self q, conf_in h hc.2 hc.1⟩
    · cases hz) (fun q => by split <;> simp) 126 [] (free_nil h) (by simp)
  unfold List.Nodup
  rw [List.pairwise_map]
  exact hd.filter _
theorem mgCs_len (h : Right3 o a b) : (mgCs o a b).length ≤ o.length + a.length + b.length := by
  have h1 := List.Nodup.length_le_of_subset (mgCs_nodup h) (l₂ := (o ++ a ++ b).map (·.p)) (fun q hq => inU_mem ((mem_Cs h).1 hq).1.1)
  simp only [List.length_map, List.length_append] at h1
  exact h1
/-- the conflicts, sorted -/
def mgS (o a b : List AIt) : List Txt := (mgCs o a b).foldl putN []
theorem mgS_sorted : sortedN (mgS o a b) := foldN_sorted _ _ List.Pairwise.nil
theorem mem_mgS {c : Txt} : c ∈ mgS o a b ↔ c ∈ mgCs o a b := by unfold mgS; rw [mem_foldN]; simp
theorem mgS_of (h : Right3 o a b) : (mgCs o a b).mergeSort (fun x y => decide (x ≤ y)) = mgS o a b :=
  sortedN_ext (sorted_merge (mgCs_nodup h)) mgS_sorted fun z => by rw [List.mem_mergeSort, mem_mgS]
end

end Go.Proofs.YtfbbjfbnkcklgaaGreatDoor

/- right, own -/
namespace Go.Proofs.YtfbbjfbnkcklgaaGreatDoor
open Go.RowKit

def right3 (o a b : List AIt) : Bool := rightA o && rightA a && rightA b
set_option maxHeartbeats 1600000 in
theorem mright_walk (o a b : TrI) (w : World) (ho : Tr w o.A o.c o.l) (ha : Tr w a.A a.c a.l) (hb : Tr w b.A b.c b.l) :
    Calls Tryz.prog 35 #[.slice o.A o.l.length o.c, .slice a.A a.l.length a.c, .slice b.A b.l.length b.c] w fun e w' => e = .returned (.bool (right3 (o.l.map Itm.abs) (a.l.map Itm.abs) (b.l.map Itm.abs))) ∧ Below w.heap.size w w' := by
  have H1 := hid (right_walk o.A o.c o.l w ho)
  have H2 := hid (fun W (hW : Below w.heap.size w W) => right_walk a.A a.c a.l W (ha.below hW))
  have H3 := hid (fun W (hW : Below w.heap.size w W) => right_walk b.A b.c b.l W (hb.below hW))
  unfold right3
  clear ho ha hb
  generalize rightA (o.l.map Itm.abs) = r1 at *
  generalize rightA (a.l.map Itm.abs) = r2 at *
  generalize rightA (b.l.map Itm.abs) = r3 at *
  cases r1
  · go_enter Tryz.func35, Tryz.ntmps35
    go_wp2_with fail
    refine H1.out.mono ?_
    rintro e w1 ⟨rfl, hb1⟩
    go_wp2_with fail
    go_ret
    exact ⟨rfl, hb1⟩
  cases r2
  · go_enter Tryz.func35, Tryz.ntmps35
    go_wp2_with fail
    refine H1.out.mono ?_
    rintro e w1 ⟨rfl, hb1⟩
    go_wp2_with fail
    refine (H2.out _ hb1).mono ?_
    rintro e w2 ⟨rfl, hb2⟩
    go_wp2_with fail
    go_ret
    exact ⟨rfl, thenB hb1 hb2⟩
  · go_enter Tryz.func35, Tryz.ntmps35
    go_wp2_with fail
    refine H1.out.mono ?_
    rintro e w1 ⟨rfl, hb1⟩
    go_wp2_with fail
    refine (H2.out _ hb1).mono ?_
    rintro e w2 ⟨rfl, hb2⟩
    go_wp2_with fail
    refine (H3.out _ (thenB hb1 hb2)).mono ?_
    rintro e w3 ⟨rfl, hb3⟩
    go_wp2_with fail
    go_ret
    exact ⟨by cases r3 <;> rfl, thenB hb1 (thenB hb2 hb3)⟩
theorem emptyB : (⟨#[]⟩ : ByteArray).toList = [] := by rw [ByteArray.toList_eq]
theorem under_all (T : List AIt) : underA T [] = T := by
  unfold underA
  rw [List.filter_eq_self]
  intro x _
  exact within_nil _
set_option maxHeartbeats 1600000 in
theorem mown_walk (A : Option Addr) (c : Nat) (l : List Itm) (w : World) (h : Tr w A c l) :
    Calls Tryz.prog 36 #[.slice A l.length c] w fun e w' => (∃ (B : Option Addr) (d : Nat) (l' : List Itm), e = .returned (.slice B l'.length d) ∧ Tr w' B d l' ∧ l'.map Itm.abs = l.map Itm.abs) ∧ Below w.heap.size w w' := by
  have H := hid (under_walk A c l ⟨#[]⟩ w h)
  go_enter Tryz.func36, Tryz.ntmps36
  go_wp2_with fail
  refine H.out.mono ?_
  rintro e w1 ⟨⟨B, d, l', rfl, ht, hl⟩, hb1⟩
  have HT := hid ht
  have HL : HidP (l'.map Itm.abs = l.map Itm.abs) := hid (hl.trans (by rw [emptyB]; exact under_all _))
  clear ht hl
  go_wp2_with fail
  go_ret
  exact ⟨⟨B, d, l', rfl, HT.out, HL.out⟩, hb1⟩
theorem Tr.goodR {w : World} {A : Option Addr} {c : Nat} {l : List Itm} {R : Nat} {cs : Array Value} {T : TypeId} (h : Tr w A c l) (hR : w.heap[R]? = some (.cells cs T (0, 0))) (hcs : ∀ (i : Nat) (n : Int), cs[i]? ≠ some (Value.int .u8 n)) : ∀ x ∈ l, GoodR w R x := fun x hx => GoodR.of (h.good x hx) hR hcs
theorem nils_no (i : Nat) (n : Int) : (#[Value.slice none 0 0, Value.slice none 0 0, Value.slice none 0 0, Value.slice none 0 0] : Array Value)[i]? ≠ some (Value.int .u8 n) := by
  intro h
  rw [← Array.getElem?_toList] at h
  have := List.mem_of_getElem? h
  simp at this
/-- an empty result -/
def S0 : RS := ⟨⟨none, 0, 0⟩, ⟨none, 0, 0⟩, ⟨none, 0, 0⟩, ⟨none, 0, 0⟩, [], [], [], []⟩
theorem S0.in {w : World} {R : Nat} (h : w.heap[R]? = some (.cells #[.slice none 0 0, .slice none 0 0, .slice none 0 0, .slice none 0 0] 28 (0, 0))) : S0.In w R w :=
  ⟨h, Row.nil _ _ _, Row.nil _ _ _, Row.nil _ _ _, Row.nil _ _ _, by simp [S0, Sl.own, Value.ownBlock], by simp [S0, Sl.own, Value.ownBlock], by simp [S0, Sl.own, Value.ownBlock], by simp [S0, Sl.own, Value.ownBlock], by simp [S0, Sl.own, Value.ownBlock], by simp [S0, Sl.own, Value.ownBlock], by simp [S0, Sl.own, Value.ownBlock],
    by simp [S0], by simp [S0], by simp [S0], Keep.refl _ _⟩
end Go.Proofs.YtfbbjfbnkcklgaaGreatDoor

/- the result of Merge: what it holds -/
namespace Go.Proofs.YtfbbjfbnkcklgaaGreatDoor
open Go.RowKit

section
variable {o a b : List AIt}
theorem mgL_A : mgL o a b (selA o a b) = allX o a b (ruleA o a b) 126 [] := by
  unfold mgL
  rw [show (fun q => underA (selA o a b q) q) = ruleA o a b from funext fun q => (ruleA_sel o a b q).symm]
theorem mgL_B : mgL o a b (selB o a b) = allX o a b (ruleB o a b) 126 [] := by
  unfold mgL
  rw [show (fun q => underA (selB o a b q) q) = ruleB o a b from funext fun q => (ruleB_sel o a b q).symm]
theorem mgL_O : mgL o a b (selO o a b) = allX o a b (ruleO o a b) 126 [] := by
  unfold mgL
  rw [show (fun q => underA (selO o a b q) q) = ruleO o a b from funext fun q => (ruleO_sel o a b q).symm]
theorem room_0 (h : Right3 o a b) (lo : o.length ≤ 1000) (la : a.length ≤ 1000) (lb : b.length ≤ 1000) : S0.Room (allX o a b (ruleA o a b) 126 []) (allX o a b (ruleB o a b) 126 []) (allX o a b (ruleO o a b) 126 []) (allC o a b 126 []) := by
  have h1 := mgL_len h (sel_A o a b)
  have h2 := mgL_len h (sel_B o a b)
  have h3 := mgL_len h (sel_O o a b)
  have h4 := mgCs_len h
  rw [mgL_A] at h1
  rw [mgL_B] at h2
  rw [mgL_O] at h3
  exact ⟨by simp only [S0, List.length_nil]; omega, by simp only [S0, List.length_nil]; omega, by simp only [S0, List.length_nil]; omega, by
    have h5 : (allC o a b 126 []).length ≤ o.length + a.length + b.length := h4
    simp only [S0, List.length_nil]; omega⟩
/-- what the sorted result holds -/
structure Made (o a b : List AIt) (S : RS) : Prop where
  ma : S.LA.map Itm.abs = mgT o a b (selA o a b)
  mb : S.LB.map Itm.abs = mgT o a b (selB o a b)
  mo : S.LO.map Itm.abs = mgT o a b (selO o a b)
  mc : S.LC.map (fun z : ByteArray => z.toList) = mgS o a b
theorem made_of (h : Right3 o a b) {S1 S2 : RS} (g : S0.Grow S1 (allX o a b (ruleA o a b) 126 []) (allX o a b (ruleB o a b) 126 []) (allX o a b (ruleO o a b) 126 []) (allC o a b 126 [])) (k : Sorted2 S1 S2) : Made o a b S2 :=
  ⟨mgT_of h (sel_A o a b) (by rw [mgL_A]; exact g.a) k.pa k.ua, mgT_of h (sel_B o a b) (by rw [mgL_B]; exact g.b) k.pb k.ub, mgT_of h (sel_O o a b) (by rw [mgL_O]; exact g.o) k.po k.uo, by
    rw [k.c, g.c]
    exact mgS_of h⟩
theorem grow_len {S1 : RS} (h : Right3 o a b) (lo : o.length ≤ 1000) (la : a.length ≤ 1000) (lb : b.length ≤ 1000) (g : S0.Grow S1 (allX o a b (ruleA o a b) 126 []) (allX o a b (ruleB o a b) 126 []) (allX o a b (ruleO o a b) 126 []) (allC o a b 126 [])) : S1.LA.length ≤ 100000 ∧ S1.LB.length ≤ 100000 ∧ S1.LO.length ≤ 100000 ∧ S1.LC.length ≤ 100000 := by
  obtain ⟨r1, r2, r3, r4⟩ := room_0 h lo la lb
  have g1 := congrArg List.length g.a
  have g2 := congrArg List.length g.b
  have g3 := congrArg List.length g.o
  have g4 := congrArg List.length g.c
  simp only [List.length_append, List.length_map] at g1 g2 g3 g4
  exact ⟨by omega, by omega, by omega, by omega⟩
end
theorem KR.below {R : Nat} {w0 w w' : World} (h0 : Below w0.heap.size w0 w) (h : KR R w w') (hR : w0.heap.size ≤ R) : Below w0.heap.size w0 w' :=
  ⟨h.os.trans h0.os, h.tape.trans h0.tape, h.output.trans h0.output, Nat.le_trans h0.size h.size, fun k hk => (h.block k (Nat.lt_of_lt_of_le hk h0.size) (by omega)).trans (h0.block k hk)⟩

end Go.Proofs.YtfbbjfbnkcklgaaGreatDoor

/- Merge -/
namespace Go.Proofs.YtfbbjfbnkcklgaaGreatDoor
open Go.RowKit

/-- what Merge answers, as such -/
structure MOut where
  A : List AIt
  B : List AIt
  O : List AIt
  C : List Txt
  code : Int
def bigB (o a b : List AIt) : Bool := decide (60 < max (max (mgT o a b (selA o a b)).length (mgT o a b (selB o a b)).length) (mgT o a b (selO o a b)).length)
def mOut (o a b : List AIt) : MOut := if right3 o a b = true then (if bigB o a b = true then ⟨[], [], [], [], 2⟩ else ⟨mgT o a b (selA o a b), mgT o a b (selB o a b), mgT o a b (selO o a b), mgS o a b, 0⟩) else ⟨[], [], [], [], 1⟩
/-- a result's value, and what lies behind it -/
def ResOk (w : World) (v : Value) (m : MOut) : Prop := ∃ (tA tB tO : TrI) (c : Sl) (LC : List ByteArray), v = .agg #[.slice tA.A tA.l.length tA.c, .slice tB.A tB.l.length tB.c, .slice tO.A tO.l.length tO.c, .slice c.A c.n c.c] ∧
  Tr w tA.A tA.c tA.l ∧ tA.l.map Itm.abs = m.A ∧ Tr w tB.A tB.c tB.l ∧ tB.l.map Itm.abs = m.B ∧ Tr w tO.A tO.c tO.l ∧ tO.l.map Itm.abs = m.O ∧ Row w 9 1 (.slice c.A c.n c.c) (LC.map .string) ∧ LC.map (fun z : ByteArray => z.toList) = m.C
theorem ResOk.none (w : World) (n : Int) : ResOk w (.agg #[.slice none 0 0, .slice none 0 0, .slice none 0 0, .slice none 0 0]) ⟨[], [], [], [], n⟩ :=
  ⟨⟨.none, 0, []⟩, ⟨.none, 0, []⟩, ⟨.none, 0, []⟩, ⟨.none, 0, 0⟩, [], rfl, Tr.none w, rfl, Tr.none w, rfl, Tr.none w, rfl, Row.nil _ _ _, rfl⟩
theorem Row.len {w : World} {x : Sl} {L : List Itm} (h : Row w 42 3 (.slice x.A x.n x.c) (L.flatMap Itm.cells)) : x.n = L.length := by
  have hn := h.count
  rw [flat_len itm_len'] at hn
  omega
/-- a tree beside a block of slices -/
theorem Tr.aside {w w' : World} {A : Option Addr} {c : Nat} {l : List Itm} {r : Nat} {cs : Array Value} {T : TypeId} (h : Tr w A c l) (hR : w.heap[r]? = some (.cells cs T (0, 0))) (hcs : ∀ (i : Nat) (n : Int), cs[i]? ≠ some (Value.int .u8 n)) (hcs2 : ∀ (i : Nat) (s : ByteArray), cs[i]? ≠ some (Value.string s)) (hk : KR r w w') : Tr w' A c l := by
  have hg := h.goodR hR hcs
  cases l with
  | nil => exact ⟨⟨h.cap, h.nil, fun i x hx => by simp at hx⟩, by simp, by simp⟩
  | cons x t =>
    obtain ⟨b, off, hA, c0, _⟩ := h.cell 0 x rfl
    subst hA
    have hne : b ≠ r := fun e => by
      subst e
      rw [blkCell hR] at c0
      exact hcs2 _ _ c0
    exact h.kept (fun k hk' hlt => by
      simp only [Value.ownBlock, Option.some.injEq] at hk'
      subst hk'
      exact hk.block _ hlt hne) (fun y hy => (hg y hy).later hk)
theorem nils_nos (i : Nat) (n : ByteArray) : (#[Value.slice none 0 0, Value.slice none 0 0, Value.slice none 0 0, Value.slice none 0 0] : Array Value)[i]? ≠ some (Value.string n) := by
  intro h
  rw [← Array.getElem?_toList] at h
  have := List.mem_of_getElem? h
  simp at this
theorem big_of {o a b : List AIt} {S : RS} {w : World} {R : Nat} {w7 : World} (h : S.In w R w7) (m : Made o a b S) {g : Bool} (hg : decide ((60 : Int) < ((max (max S.a.n S.b.n) S.o.n : Nat) : Int)) = g) : bigB o a b = g := by
  have h1 := Row.len h.ra
  have h2 := Row.len h.rb
  have h3 := Row.len h.ro
  have g1 := congrArg List.length m.ma
  have g2 := congrArg List.length m.mb
  have g3 := congrArg List.length m.mo
  rw [List.length_map] at g1 g2 g3
  unfold bigB
  rw [← hg, ← g1, ← g2, ← g3, ← h1, ← h2, ← h3]
  congr 1
  exact propext ⟨fun h => by omega, fun h => by omega⟩

set_option maxRecDepth 100000 in
set_option maxHeartbeats 2000000 in
theorem merge_walk (o a b : TrI) (w : World) (ho : Tr w o.A o.c o.l) (ha : Tr w a.A a.c a.l) (hb : Tr w b.A b.c b.l) (lo : o.l.length ≤ 1000) (la : a.l.length ≤ 1000) (lb : b.l.length ≤ 1000) (hR : Right3 (o.l.map Itm.abs) (a.l.map Itm.abs) (b.l.map Itm.abs)) (hr : right3 (o.l.map Itm.abs) (a.l.map Itm.abs) (b.l.map Itm.abs) = true) :
    Calls Tryz.prog 11 #[.slice o.A o.l.length o.c, .slice a.A a.l.length a.c, .slice b.A b.l.length b.c] w fun e w' => (∃ v, e = .returned (.tuple #[v, .int .i64 (mOut (o.l.map Itm.abs) (a.l.map Itm.abs) (b.l.map Itm.abs)).code]) ∧ ResOk w' v (mOut (o.l.map Itm.abs) (a.l.map Itm.abs) (b.l.map Itm.abs))) ∧ Below w.heap.size w w' := by
  have H1 := hid (fun W (hW : Below w.heap.size w W) => mright_walk o a b W (ho.below hW) (ha.below hW) (hb.below hW))
  rw [hr] at H1
  have HO := hid ho
  have HA := hid ha
  have HB := hid hb
  clear ho ha hb
  have hb0 := thenA (Below.refl _ w) (.cells #[.slice none 0 0, .slice none 0 0, .slice none 0 0, .slice none 0 0] 28 (0, 0))
  go_enter Tryz.func11, Tryz.ntmps11
  go_wp2_with fail
  refine (H1.out _ hb0).mono ?_
  rintro e w1 ⟨rfl, hb1'⟩
  have hb1 := thenB hb0 hb1'
  have q0 := (hb1'.block _ (blkLt (heap_alloc_new w _))).trans (heap_alloc_new w (.cells #[.slice none 0 0, .slice none 0 0, .slice none 0 0, .slice none 0 0] 28 (0, 0)))
  clear hb0
  have hb2' := thenA (Below.refl _ w1) (.cells #[.slice none 0 0, .slice none 0 0, .slice none 0 0, .slice none 0 0] 28 (0, 0))
  have hb2 := thenB hb1 hb2'
  have hR2 := heap_alloc_new w1 (.cells #[.slice none 0 0, .slice none 0 0, .slice none 0 0, .slice none 0 0] 28 (0, 0))
  have HM := hid (mown_walk o.A o.c o.l _ (HO.out.below hb2))
  go_wp2_with fail
  refine HM.out.mono ?_
  rintro e w2 ⟨⟨A1, d1, l1, rfl, ht1, he1⟩, hb3'⟩
  have hb3 := thenB hb2 hb3'
  have HM2 := hid (mown_walk a.A a.c a.l _ (HA.out.below hb3))
  have HT1 := hid ht1
  have HE1 := hid he1
  clear ht1 he1 HM
  go_wp2_with fail
  refine HM2.out.mono ?_
  rintro e w3 ⟨⟨A2, d2, l2, rfl, ht2, he2⟩, hb4'⟩
  have hb4 := thenB hb3 hb4'
  have HM3 := hid (mown_walk b.A b.c b.l _ (HB.out.below hb4))
  have HT2 := hid ht2
  have HE2 := hid he2
  clear ht2 he2 HM2
  go_wp2_with fail
  refine HM3.out.mono ?_
  rintro e w4 ⟨⟨A3, d3, l3, rfl, ht3, he3⟩, hb5'⟩
  have hb5 := thenB hb4 hb5'
  have HT3 := hid ht3
  have HE3 := hid he3
  clear ht3 he3 HM3
  have HT1' := hid ((HT1.out.below hb4').below hb5')
  have HT2' := hid (HT2.out.below hb5')
  have hR5 := (thenB hb3' (thenB hb4' hb5')).block _ (blkLt hR2) |>.trans hR2
  have q5 := ((thenB hb2' (thenB hb3' (thenB hb4' hb5'))).block _ (blkLt q0)).trans q0
  have z1 : l1.length = o.l.length := by have := congrArg List.length HE1.out; simpa using this
  have z2 : l2.length = a.l.length := by have := congrArg List.length HE2.out; simpa using this
  have z3 : l3.length = b.l.length := by have := congrArg List.length HE3.out; simpa using this
  have hsp := spots_walk A1 d1 l1 A2 d2 l2 A3 d3 l3 ⟨#[]⟩ w4 HT1'.out HT2'.out HT3.out (by omega) (by omega) (by omega)
  simp only [emptyB] at hsp
  have HSP := hid hsp
  have HIN := hid (S0.in hR5)
  have HR := hid hR
  have G1 := hid (HT1'.out.goodR hR5 nils_no)
  have G2 := hid (HT2'.out.goodR hR5 nils_no)
  have G3 := hid (HT3.out.goodR hR5 nils_no)
  have hsz : w.heap.size ≤ w1.heap.size := hb1.size
  have Q0 := hid q5
  have HB5 := hid hb5
  have hlt : w.heap.size < w1.heap.size := blkLt q0
  clear z1 z2 z3 hsp hb1' hb2' hb2 hb3' hb3 hb4' hb4 hb5' hb5 hR2 hR5 q0 q5 H1 HO HA HB HT1 HT2 HT3 HT1' HT2' hb1 hR
  go_wp2_with fail
  refine HSP.out.mono ?_
  rintro e w5 ⟨⟨C, u, ss, rfl, hss, hsort, hmem, hl, hfr, hC⟩, hb6⟩
  have HA1 := hid (desc_all (n := 126) HR.out HIN.out (.inl (by rw [under_all]; exact HE1.out)) (.inl (by rw [under_all]; exact HE2.out)) (.inl (by rw [under_all]; exact HE3.out)) G1.out G2.out G3.out hss hsort hmem hl hfr hC hb6 (all_any HR.out (by simpa using lo) (by simpa using la) (by simpa using lb) 126) (by simp) (room_0 HR.out (by simpa using lo) (by simpa using la) (by simpa using lb)))
  clear hss hsort hmem hl hfr hC hb6 HSP
  go_wp2_with fail
  refine HA1.out.mono ?_
  rintro e w6 ⟨⟨v, rfl⟩, S1, k1, k2, k3⟩
  obtain ⟨n1, n2, n3, n4⟩ := grow_len HR.out (by simpa using lo) (by simpa using la) (by simpa using lb) k3
  have HG := hid k3
  have HS := hid (msort_walk k1 n1 n2 n3 n4)
  have HMV := hid k2
  clear k1 k2 k3 n4 HA1 HIN
  go_wp2_with fail
  refine HS.out.mono ?_
  rintro e w7 ⟨⟨v2, rfl⟩, S2, k4, k5⟩
  have HMADE := hid (made_of HR.out HG.out k5)
  have HLEN : HidP (S2.LA.length ≤ 100000 ∧ S2.LB.length ≤ 100000 ∧ S2.LO.length ≤ 100000) := hid ⟨by have := k5.pa.length_eq; omega, by have := k5.pb.length_eq; omega, by have := k5.po.length_eq; omega⟩
  clear n1 n2 n3
  have HBW := hid (KR.below HB5.out k4.below hsz)
  have Q7 : w7.heap[w.heap.size]? = some (.cells #[.slice none 0 0, .slice none 0 0, .slice none 0 0, .slice none 0 0] 28 (0, 0)) := (k4.below.block _ (blkLt Q0.out) (by omega)).trans Q0.out
  have c0 : w7.cell? ⟨w1.heap.size, 0, none⟩ = some (.slice S2.a.A S2.a.n S2.a.c) := (blkCell k4.blk 0).trans rfl
  have c1 : w7.cell? ⟨w1.heap.size, 1, none⟩ = some (.slice S2.b.A S2.b.n S2.b.c) := (blkCell k4.blk 1).trans rfl
  have c2 : w7.cell? ⟨w1.heap.size, 2, none⟩ = some (.slice S2.o.A S2.o.n S2.o.c) := (blkCell k4.blk 2).trans rfl
  have c3 : w7.cell? ⟨w1.heap.size, 3, none⟩ = some (.slice S2.c.A S2.c.n S2.c.c) := (blkCell k4.blk 3).trans rfl
  have HK4 := hid k4
  have HQ7 := hid Q7
  clear k4 k5 Q7 HB5 Q0 HG HS HMV G1 G2 G3 HE1 HE2 HE3
  go_wp2_with fail
  go_region
  have hmx : (if (if S2.a.n < S2.b.n then (S2.b.n : Int) else (S2.a.n : Int)) < (S2.o.n : Int) then (S2.o.n : Int) else if S2.a.n < S2.b.n then (S2.b.n : Int) else (S2.a.n : Int)) = ((max (max S2.a.n S2.b.n) S2.o.n : Nat) : Int) := by
    split <;> split at * <;> omega
  rw [hmx]
  clear hmx
  have hbd : Below w7.heap.size w7 w7.drew := ⟨rfl, rfl, rfl, Nat.le_refl _, fun _ _ => rfl⟩
  have hsw : KR w.heap.size w7 w7.drew ∧ w7.drew.cell? ⟨w1.heap.size, 0, none⟩ = some (.slice S2.a.A S2.a.n S2.a.c) ∧ w7.drew.cell? ⟨w1.heap.size, 1, none⟩ = some (.slice S2.b.A S2.b.n S2.b.c) ∧ w7.drew.cell? ⟨w1.heap.size, 2, none⟩ = some (.slice S2.o.A S2.o.n S2.o.c) ∧ w7.drew.cell? ⟨w1.heap.size, 3, none⟩ = some (.slice S2.c.A S2.c.n S2.c.c) := ⟨KR.then (Keep.refl _ w7) hbd, cellB hbd c0, cellB hbd c1, cellB hbd c2, cellB hbd c3⟩
  have hq8 : w7.drew.heap[w.heap.size]? = some (.cells #[.slice none 0 0, .slice none 0 0, .slice none 0 0, .slice none 0 0] 28 (0, 0)) := HQ7.out
  have HST : HidP (∀ W, (KR w.heap.size w7 W ∧ W.cell? ⟨w1.heap.size, 0, none⟩ = some (.slice S2.a.A S2.a.n S2.a.c) ∧ W.cell? ⟨w1.heap.size, 1, none⟩ = some (.slice S2.b.A S2.b.n S2.b.c) ∧ W.cell? ⟨w1.heap.size, 2, none⟩ = some (.slice S2.o.A S2.o.n S2.o.c) ∧ W.cell? ⟨w1.heap.size, 3, none⟩ = some (.slice S2.c.A S2.c.n S2.c.c)) → ∀ v0 v1 v2 v3, KR w.heap.size w7 ((((W.setCell ⟨w.heap.size, 0, none⟩ v0).setCell ⟨w.heap.size, 1, none⟩ v1).setCell ⟨w.heap.size, 2, none⟩ v2).setCell ⟨w.heap.size, 3, none⟩ v3) ∧ ((((W.setCell ⟨w.heap.size, 0, none⟩ v0).setCell ⟨w.heap.size, 1, none⟩ v1).setCell ⟨w.heap.size, 2, none⟩ v2).setCell ⟨w.heap.size, 3, none⟩ v3).cell? ⟨w1.heap.size, 0, none⟩ = some (.slice S2.a.A S2.a.n S2.a.c) ∧ ((((W.setCell ⟨w.heap.size, 0, none⟩ v0).setCell ⟨w.heap.size, 1, none⟩ v1).setCell ⟨w.heap.size, 2, none⟩ v2).setCell ⟨w.heap.size, 3, none⟩ v3).cell? ⟨w1.heap.size, 1, none⟩ = some (.slice S2.b.A S2.b.n S2.b.c) ∧ ((((W.setCell ⟨w.heap.size, 0, none⟩ v0).setCell ⟨w.heap.size, 1, none⟩ v1).setCell ⟨w.heap.size, 2, none⟩ v2).setCell ⟨w.heap.size, 3, none⟩ v3).cell? ⟨w1.heap.size, 2, none⟩ = some (.slice S2.o.A S2.o.n S2.o.c) ∧ ((((W.setCell ⟨w.heap.size, 0, none⟩ v0).setCell ⟨w.heap.size, 1, none⟩ v1).setCell ⟨w.heap.size, 2, none⟩ v2).setCell ⟨w.heap.size, 3, none⟩ v3).cell? ⟨w1.heap.size, 3, none⟩ = some (.slice S2.c.A S2.c.n S2.c.c)) := hid (fun W hW v0 v1 v2 v3 => by
    have hk : KR w.heap.size W ((((W.setCell ⟨w.heap.size, 0, none⟩ v0).setCell ⟨w.heap.size, 1, none⟩ v1).setCell ⟨w.heap.size, 2, none⟩ v2).setCell ⟨w.heap.size, 3, none⟩ v3) := KR.setR (KR.setR (KR.setR (KR.setR (Keep.refl _ W) 0 v0) 1 v1) 2 v2) 3 v3
    have hc : ∀ i x, W.cell? ⟨w1.heap.size, i, none⟩ = some x → ((((W.setCell ⟨w.heap.size, 0, none⟩ v0).setCell ⟨w.heap.size, 1, none⟩ v1).setCell ⟨w.heap.size, 2, none⟩ v2).setCell ⟨w.heap.size, 3, none⟩ v3).cell? ⟨w1.heap.size, i, none⟩ = some x := fun i x hx => (World.cell?_of_block (a := ⟨w1.heap.size, i, none⟩) (hk.block _ (World.block_lt_of_cell? W _ hx) (Nat.ne_of_gt hlt))).trans hx
    exact ⟨KR.setR (KR.setR (KR.setR (KR.setR hW.1 0 v0) 1 v1) 2 v2) 3 v3, hc _ _ hW.2.1, hc _ _ hW.2.2.1, hc _ _ hW.2.2.2.1, hc _ _ hW.2.2.2.2⟩)
  have HOA : HidP (∀ W, (KR w.heap.size w7 W ∧ W.cell? ⟨w1.heap.size, 0, none⟩ = some (.slice S2.a.A S2.a.n S2.a.c) ∧ W.cell? ⟨w1.heap.size, 1, none⟩ = some (.slice S2.b.A S2.b.n S2.b.c) ∧ W.cell? ⟨w1.heap.size, 2, none⟩ = some (.slice S2.o.A S2.o.n S2.o.c) ∧ W.cell? ⟨w1.heap.size, 3, none⟩ = some (.slice S2.c.A S2.c.n S2.c.c)) → W.heap[w.heap.size]? = some (.cells #[.slice none 0 0, .slice none 0 0, .slice none 0 0, .slice none 0 0] 28 (0, 0)) → Calls Tryz.prog 36 #[.slice S2.a.A S2.a.n S2.a.c] W fun e w' => (∃ (B : Option Addr) (d : Nat) (l' : List Itm), e = .returned (.slice B l'.length d) ∧ Tr w' B d l' ∧ l'.map Itm.abs = mgT (o.l.map Itm.abs) (a.l.map Itm.abs) (b.l.map Itm.abs) (selA (o.l.map Itm.abs) (a.l.map Itm.abs) (b.l.map Itm.abs))) ∧ Below W.heap.size W w' ∧ (KR w.heap.size w7 w' ∧ w'.cell? ⟨w1.heap.size, 0, none⟩ = some (.slice S2.a.A S2.a.n S2.a.c) ∧ w'.cell? ⟨w1.heap.size, 1, none⟩ = some (.slice S2.b.A S2.b.n S2.b.c) ∧ w'.cell? ⟨w1.heap.size, 2, none⟩ = some (.slice S2.o.A S2.o.n S2.o.c) ∧ w'.cell? ⟨w1.heap.size, 3, none⟩ = some (.slice S2.c.A S2.c.n S2.c.c)) ∧ w'.heap[w.heap.size]? = some (.cells #[.slice none 0 0, .slice none 0 0, .slice none 0 0, .slice none 0 0] 28 (0, 0))) := hid (fun W hW hq => by
    have hr := HK4.out.ra.keep fun k hk => hW.1.block k (HK4.out.ra.lt k hk) (fun e => HK4.out.ra.neBlk HQ7.out (by decide) (by rw [← e]; exact hk))
    obtain ⟨hn, ht⟩ := Tr.ofRow hr (fun y hy => (GoodR.of ((HK4.out.ga y hy).later HK4.out.below) HQ7.out nils_no).later hW.1) (by have := HLEN.out; omega)
    have hm := mown_walk _ _ _ W ht
    rw [← hn] at hm
    refine hm.mono ?_
    rintro e w' ⟨⟨B, d, l', rfl, h1, h2⟩, h3⟩
    exact ⟨⟨B, d, l', rfl, h1, h2.trans HMADE.out.ma⟩, h3, ⟨KR.then hW.1 h3, cellB h3 hW.2.1, cellB h3 hW.2.2.1, cellB h3 hW.2.2.2.1, cellB h3 hW.2.2.2.2⟩, (h3.block _ (blkLt hq)).trans hq⟩)
  have HOB : HidP (∀ W, (KR w.heap.size w7 W ∧ W.cell? ⟨w1.heap.size, 0, none⟩ = some (.slice S2.a.A S2.a.n S2.a.c) ∧ W.cell? ⟨w1.heap.size, 1, none⟩ = some (.slice S2.b.A S2.b.n S2.b.c) ∧ W.cell? ⟨w1.heap.size, 2, none⟩ = some (.slice S2.o.A S2.o.n S2.o.c) ∧ W.cell? ⟨w1.heap.size, 3, none⟩ = some (.slice S2.c.A S2.c.n S2.c.c)) → W.heap[w.heap.size]? = some (.cells #[.slice none 0 0, .slice none 0 0, .slice none 0 0, .slice none 0 0] 28 (0, 0)) → Calls Tryz.prog 36 #[.slice S2.b.A S2.b.n S2.b.c] W fun e w' => (∃ (B : Option Addr) (d : Nat) (l' : List Itm), e = .returned (.slice B l'.length d) ∧ Tr w' B d l' ∧ l'.map Itm.abs = mgT (o.l.map Itm.abs) (a.l.map Itm.abs) (b.l.map Itm.abs) (selB (o.l.map Itm.abs) (a.l.map Itm.abs) (b.l.map Itm.abs))) ∧ Below W.heap.size W w' ∧ (KR w.heap.size w7 w' ∧ w'.cell? ⟨w1.heap.size, 0, none⟩ = some (.slice S2.a.A S2.a.n S2.a.c) ∧ w'.cell? ⟨w1.heap.size, 1, none⟩ = some (.slice S2.b.A S2.b.n S2.b.c) ∧ w'.cell? ⟨w1.heap.size, 2, none⟩ = some (.slice S2.o.A S2.o.n S2.o.c) ∧ w'.cell? ⟨w1.heap.size, 3, none⟩ = some (.slice S2.c.A S2.c.n S2.c.c)) ∧ w'.heap[w.heap.size]? = some (.cells #[.slice none 0 0, .slice none 0 0, .slice none 0 0, .slice none 0 0] 28 (0, 0))) := hid (fun W hW hq => by
    have hr := HK4.out.rb.keep fun k hk => hW.1.block k (HK4.out.rb.lt k hk) (fun e => HK4.out.rb.neBlk HQ7.out (by decide) (by rw [← e]; exact hk))
    obtain ⟨hn, ht⟩ := Tr.ofRow hr (fun y hy => (GoodR.of ((HK4.out.gb y hy).later HK4.out.below) HQ7.out nils_no).later hW.1) (by have := HLEN.out; omega)
    have hm := mown_walk _ _ _ W ht
    rw [← hn] at hm
    refine hm.mono ?_
    rintro e w' ⟨⟨B, d, l', rfl, h1, h2⟩, h3⟩
    exact ⟨⟨B, d, l', rfl, h1, h2.trans HMADE.out.mb⟩, h3, ⟨KR.then hW.1 h3, cellB h3 hW.2.1, cellB h3 hW.2.2.1, cellB h3 hW.2.2.2.1, cellB h3 hW.2.2.2.2⟩, (h3.block _ (blkLt hq)).trans hq⟩)
  have HOO : HidP (∀ W, (KR w.heap.size w7 W ∧ W.cell? ⟨w1.heap.size, 0, none⟩ = some (.slice S2.a.A S2.a.n S2.a.c) ∧ W.cell? ⟨w1.heap.size, 1, none⟩ = some (.slice S2.b.A S2.b.n S2.b.c) ∧ W.cell? ⟨w1.heap.size, 2, none⟩ = some (.slice S2.o.A S2.o.n S2.o.c) ∧ W.cell? ⟨w1.heap.size, 3, none⟩ = some (.slice S2.c.A S2.c.n S2.c.c)) → W.heap[w.heap.size]? = some (.cells #[.slice none 0 0, .slice none 0 0, .slice none 0 0, .slice none 0 0] 28 (0, 0)) → Calls Tryz.prog 36 #[.slice S2.o.A S2.o.n S2.o.c] W fun e w' => (∃ (B : Option Addr) (d : Nat) (l' : List Itm), e = .returned (.slice B l'.length d) ∧ Tr w' B d l' ∧ l'.map Itm.abs = mgT (o.l.map Itm.abs) (a.l.map Itm.abs) (b.l.map Itm.abs) (selO (o.l.map Itm.abs) (a.l.map Itm.abs) (b.l.map Itm.abs))) ∧ Below W.heap.size W w' ∧ (KR w.heap.size w7 w' ∧ w'.cell? ⟨w1.heap.size, 0, none⟩ = some (.slice S2.a.A S2.a.n S2.a.c) ∧ w'.cell? ⟨w1.heap.size, 1, none⟩ = some (.slice S2.b.A S2.b.n S2.b.c) ∧ w'.cell? ⟨w1.heap.size, 2, none⟩ = some (.slice S2.o.A S2.o.n S2.o.c) ∧ w'.cell? ⟨w1.heap.size, 3, none⟩ = some (.slice S2.c.A S2.c.n S2.c.c)) ∧ w'.heap[w.heap.size]? = some (.cells #[.slice none 0 0, .slice none 0 0, .slice none 0 0, .slice none 0 0] 28 (0, 0))) := hid (fun W hW hq => by
    have hr := HK4.out.ro.keep fun k hk => hW.1.block k (HK4.out.ro.lt k hk) (fun e => HK4.out.ro.neBlk HQ7.out (by decide) (by rw [← e]; exact hk))
    obtain ⟨hn, ht⟩ := Tr.ofRow hr (fun y hy => (GoodR.of ((HK4.out.go y hy).later HK4.out.below) HQ7.out nils_no).later hW.1) (by have := HLEN.out; omega)
    have hm := mown_walk _ _ _ W ht
    rw [← hn] at hm
    refine hm.mono ?_
    rintro e w' ⟨⟨B, d, l', rfl, h1, h2⟩, h3⟩
    exact ⟨⟨B, d, l', rfl, h1, h2.trans HMADE.out.mo⟩, h3, ⟨KR.then hW.1 h3, cellB h3 hW.2.1, cellB h3 hW.2.2.1, cellB h3 hW.2.2.2.1, cellB h3 hW.2.2.2.2⟩, (h3.block _ (blkLt hq)).trans hq⟩)

  clear c0 c1 c2 c3 hbd
  generalize w7.drew = w8 at *
  generalize hg : decide ((60 : Int) < ((max (max S2.a.n S2.b.n) S2.o.n : Nat) : Int)) = g
  have HBIG := hid (big_of HK4.out HMADE.out hg)
  have HRR := hid hr
  clear hg hr
  cases g
  · have hsw2 : KR w.heap.size w7 w8.drew ∧ w8.drew.cell? ⟨w1.heap.size, 0, none⟩ = some (.slice S2.a.A S2.a.n S2.a.c) ∧ w8.drew.cell? ⟨w1.heap.size, 1, none⟩ = some (.slice S2.b.A S2.b.n S2.b.c) ∧ w8.drew.cell? ⟨w1.heap.size, 2, none⟩ = some (.slice S2.o.A S2.o.n S2.o.c) ∧ w8.drew.cell? ⟨w1.heap.size, 3, none⟩ = some (.slice S2.c.A S2.c.n S2.c.c) := ⟨KR.then hsw.1 (show Below w8.heap.size w8 w8.drew from ⟨rfl, rfl, rfl, Nat.le_refl _, fun _ _ => rfl⟩), hsw.2⟩
    have hq9 : w8.drew.heap[w.heap.size]? = some (.cells #[.slice none 0 0, .slice none 0 0, .slice none 0 0, .slice none 0 0] 28 (0, 0)) := hq8
    clear hsw hq8
    go_wp2_with fail
    go_region_held3 (fun W => KR w.heap.size w7 W ∧ W.cell? ⟨w1.heap.size, 0, none⟩ = some (.slice S2.a.A S2.a.n S2.a.c) ∧ W.cell? ⟨w1.heap.size, 1, none⟩ = some (.slice S2.b.A S2.b.n S2.b.c) ∧ W.cell? ⟨w1.heap.size, 2, none⟩ = some (.slice S2.o.A S2.o.n S2.o.c) ∧ W.cell? ⟨w1.heap.size, 3, none⟩ = some (.slice S2.c.A S2.c.n S2.c.c)) (first | assumption | exact HST.out _ (by assumption) _ _ _ _) (first | (refine step_callv (by rfl) _ _ _ (by rfl) 36 [] [] (by rfl) Tryz.func36 (by kernel_rfl) (by kernel_rfl) [.slice S2.a.A S2.a.n S2.a.c] (by rfl) (HOA.out _ (by assumption) (by assumption)) ?_; rintro e wA ⟨⟨BA, dA, lA, rfl, htA, heA⟩, hbA, hSA, hqA⟩; have r0A : wA.cell? ⟨w.heap.size, 0, none⟩ = some (.slice none 0 0) := (blkCell hqA 0).trans rfl; have f0A := blkFree hqA 0; have r1A : wA.cell? ⟨w.heap.size, 1, none⟩ = some (.slice none 0 0) := (blkCell hqA 1).trans rfl; have f1A := blkFree hqA 1; have r2A : wA.cell? ⟨w.heap.size, 2, none⟩ = some (.slice none 0 0) := (blkCell hqA 2).trans rfl; have f2A := blkFree hqA 2; have r3A : wA.cell? ⟨w.heap.size, 3, none⟩ = some (.slice none 0 0) := (blkCell hqA 3).trans rfl; have f3A := blkFree hqA 3; (try replace HTB := hid (HTB.out.below hbA)); (try replace HTO := hid (HTO.out.below hbA)); have HTA := hid htA; have HEA := hid heA; clear htA heA hbA; refine ⟨_, rfl, ?_⟩) | (refine step_callv (by rfl) _ _ _ (by rfl) 36 [] [] (by rfl) Tryz.func36 (by kernel_rfl) (by kernel_rfl) [.slice S2.b.A S2.b.n S2.b.c] (by rfl) (HOB.out _ (by assumption) (by assumption)) ?_; rintro e wB ⟨⟨BB, dB, lB, rfl, htB, heB⟩, hbB, hSB, hqB⟩; have r0B : wB.cell? ⟨w.heap.size, 0, none⟩ = some (.slice none 0 0) := (blkCell hqB 0).trans rfl; have f0B := blkFree hqB 0; have r1B : wB.cell? ⟨w.heap.size, 1, none⟩ = some (.slice none 0 0) := (blkCell hqB 1).trans rfl; have f1B := blkFree hqB 1; have r2B : wB.cell? ⟨w.heap.size, 2, none⟩ = some (.slice none 0 0) := (blkCell hqB 2).trans rfl; have f2B := blkFree hqB 2; have r3B : wB.cell? ⟨w.heap.size, 3, none⟩ = some (.slice none 0 0) := (blkCell hqB 3).trans rfl; have f3B := blkFree hqB 3; (try replace HTA := hid (HTA.out.below hbB)); (try replace HTO := hid (HTO.out.below hbB)); have HTB := hid htB; have HEB := hid heB; clear htB heB hbB; refine ⟨_, rfl, ?_⟩) | (refine step_callv (by rfl) _ _ _ (by rfl) 36 [] [] (by rfl) Tryz.func36 (by kernel_rfl) (by kernel_rfl) [.slice S2.o.A S2.o.n S2.o.c] (by rfl) (HOO.out _ (by assumption) (by assumption)) ?_; rintro e wO ⟨⟨BO, dO, lO, rfl, htO, heO⟩, hbO, hSO, hqO⟩; have r0O : wO.cell? ⟨w.heap.size, 0, none⟩ = some (.slice none 0 0) := (blkCell hqO 0).trans rfl; have f0O := blkFree hqO 0; have r1O : wO.cell? ⟨w.heap.size, 1, none⟩ = some (.slice none 0 0) := (blkCell hqO 1).trans rfl; have f1O := blkFree hqO 1; have r2O : wO.cell? ⟨w.heap.size, 2, none⟩ = some (.slice none 0 0) := (blkCell hqO 2).trans rfl; have f2O := blkFree hqO 2; have r3O : wO.cell? ⟨w.heap.size, 3, none⟩ = some (.slice none 0 0) := (blkCell hqO 3).trans rfl; have f3O := blkFree hqO 3; (try replace HTA := hid (HTA.out.below hbO)); (try replace HTB := hid (HTB.out.below hbO)); have HTO := hid htO; have HEO := hid heO; clear htO heO hbO; refine ⟨_, rfl, ?_⟩))
    have hF := blkSet (blkSet (blkSet (blkSet hqO 0 (.slice BA lA.length dA)) 1 (.slice BB lB.length dB)) 2 (.slice BO lO.length dO)) 3 (.slice S2.c.A S2.c.n S2.c.c)
    have hk : KR w.heap.size wO ((((wO.setCell ⟨w.heap.size, 0, none⟩ (.slice BA lA.length dA)).setCell ⟨w.heap.size, 1, none⟩ (.slice BB lB.length dB)).setCell ⟨w.heap.size, 2, none⟩ (.slice BO lO.length dO)).setCell ⟨w.heap.size, 3, none⟩ (.slice S2.c.A S2.c.n S2.c.c)) := KR.setR (KR.setR (KR.setR (KR.setR (Keep.refl _ wO) 0 _) 1 _) 2 _) 3 _
    have hk7 := (HST.out _ hSO (.slice BA lA.length dA) (.slice BB lB.length dB) (.slice BO lO.length dO) (.slice S2.c.A S2.c.n S2.c.c)).1
    have y0 := (blkCell hF 0).trans (rfl : _ = some (Value.slice BA lA.length dA))
    have y1 := (blkCell hF 1).trans (rfl : _ = some (Value.slice BB lB.length dB))
    have y2 := (blkCell hF 2).trans (rfl : _ = some (Value.slice BO lO.length dO))
    have y3 := (blkCell hF 3).trans (rfl : _ = some (Value.slice S2.c.A S2.c.n S2.c.c))
    have T1 := hid (HTA.out.aside hqO nils_no nils_nos hk)
    have T2 := hid (HTB.out.aside hqO nils_no nils_nos hk)
    have T3 := hid (HTO.out.aside hqO nils_no nils_nos hk)
    have T4 := hid (HK4.out.rc.keep fun k hk' => hk7.block k (HK4.out.rc.lt k hk') (fun e => HK4.out.rc.neBlk HQ7.out (by decide) (by rw [← e]; exact hk')))
    have T5 := hid (KR.below HBW.out hk7 (Nat.le_refl _))
    clear hF hk hk7 hSA hSB hSO hqA hqB hqO hsw2 hq9 HTA HTB HTO HST HOA HOB HOO HQ7 HK4 r0A r1A r2A r3A f0A f1A f2A f3A r0B r1B r2B r3B f0B f1B f2B f3B r0O r1O r2O r3O f0O f1O f2O f3O
    generalize ((((wO.setCell ⟨w.heap.size, 0, none⟩ (.slice BA lA.length dA)).setCell ⟨w.heap.size, 1, none⟩ (.slice BB lB.length dB)).setCell ⟨w.heap.size, 2, none⟩ (.slice BO lO.length dO)).setCell ⟨w.heap.size, 3, none⟩ (.slice S2.c.A S2.c.n S2.c.c)) = wF at *
    have HRES : HidP (ResOk wF (.agg #[.slice BA lA.length dA, .slice BB lB.length dB, .slice BO lO.length dO, .slice S2.c.A S2.c.n S2.c.c]) (mOut (o.l.map Itm.abs) (a.l.map Itm.abs) (b.l.map Itm.abs)) ∧ (mOut (o.l.map Itm.abs) (a.l.map Itm.abs) (b.l.map Itm.abs)).code = 0) := hid (by
      unfold mOut
      rw [if_pos HRR.out, if_neg (by rw [HBIG.out]; simp)]
      exact ⟨⟨⟨BA, dA, lA⟩, ⟨BB, dB, lB⟩, ⟨BO, dO, lO⟩, S2.c, S2.LC, rfl, T1.out, HEA.out, T2.out, HEB.out, T3.out, HEO.out, T4.out, HMADE.out.mc⟩, rfl⟩)
    clear T1 T2 T3 T4 HEA HEB HEO HMADE HBIG HRR
    go_wp2_with fail
    refine bodyPost_ret (v := .tuple #[.agg #[.slice BA lA.length dA, .slice BB lB.length dB, .slice BO lO.length dO, .slice S2.c.A S2.c.n S2.c.c], .int .i64 0]) (by simp [results, Tryz.results11, go_sem, y0, y1, y2, y3]) rfl ?_
    exact ⟨⟨_, by rw [HRES.out.2], HRES.out.1⟩, T5.out⟩
  · have r0 : w8.cell? ⟨w.heap.size, 0, none⟩ = some (.slice none 0 0) := (blkCell hq8 0).trans rfl
    have r1 : w8.cell? ⟨w.heap.size, 1, none⟩ = some (.slice none 0 0) := (blkCell hq8 1).trans rfl
    have r2 : w8.cell? ⟨w.heap.size, 2, none⟩ = some (.slice none 0 0) := (blkCell hq8 2).trans rfl
    have r3 : w8.cell? ⟨w.heap.size, 3, none⟩ = some (.slice none 0 0) := (blkCell hq8 3).trans rfl
    have f0 := blkFree hq8 0
    have f1 := blkFree hq8 1
    have f2 := blkFree hq8 2
    have f3 := blkFree hq8 3
    have hF := blkSet (blkSet (blkSet (blkSet hq8 0 (.slice none 0 0)) 1 (.slice none 0 0)) 2 (.slice none 0 0)) 3 (.slice none 0 0)
    have hk7 := (HST.out _ hsw (.slice none 0 0) (.slice none 0 0) (.slice none 0 0) (.slice none 0 0)).1
    have y0 := (blkCell hF 0).trans (rfl : _ = some (Value.slice none 0 0))
    have y1 := (blkCell hF 1).trans (rfl : _ = some (Value.slice none 0 0))
    have y2 := (blkCell hF 2).trans (rfl : _ = some (Value.slice none 0 0))
    have y3 := (blkCell hF 3).trans (rfl : _ = some (Value.slice none 0 0))
    have T5 := hid (KR.below HBW.out hk7 (Nat.le_refl _))
    have HRES : HidP (ResOk ((((w8.setCell ⟨w.heap.size, 0, none⟩ (.slice none 0 0)).setCell ⟨w.heap.size, 1, none⟩ (.slice none 0 0)).setCell ⟨w.heap.size, 2, none⟩ (.slice none 0 0)).setCell ⟨w.heap.size, 3, none⟩ (.slice none 0 0)) (.agg #[.slice none 0 0, .slice none 0 0, .slice none 0 0, .slice none 0 0]) (mOut (o.l.map Itm.abs) (a.l.map Itm.abs) (b.l.map Itm.abs)) ∧ (mOut (o.l.map Itm.abs) (a.l.map Itm.abs) (b.l.map Itm.abs)).code = 2) := hid (by
      unfold mOut
      rw [if_pos HRR.out, if_pos HBIG.out]
      exact ⟨ResOk.none _ _, rfl⟩)
    clear hF hk7
    go_wp2_with fail
    refine bodyPost_ret (v := .tuple #[.agg #[.slice none 0 0, .slice none 0 0, .slice none 0 0, .slice none 0 0], .int .i64 2]) (by simp [results, Tryz.results11, go_sem, y0, y1, y2, y3]) rfl ?_
    exact ⟨⟨_, by rw [HRES.out.2], HRES.out.1⟩, T5.out⟩

set_option maxHeartbeats 2000000 in
theorem merge_bad (o a b : TrI) (w : World) (ho : Tr w o.A o.c o.l) (ha : Tr w a.A a.c a.l) (hb : Tr w b.A b.c b.l) (hr : right3 (o.l.map Itm.abs) (a.l.map Itm.abs) (b.l.map Itm.abs) = false) :
    Calls Tryz.prog 11 #[.slice o.A o.l.length o.c, .slice a.A a.l.length a.c, .slice b.A b.l.length b.c] w fun e w' => (∃ v, e = .returned (.tuple #[v, .int .i64 (mOut (o.l.map Itm.abs) (a.l.map Itm.abs) (b.l.map Itm.abs)).code]) ∧ ResOk w' v (mOut (o.l.map Itm.abs) (a.l.map Itm.abs) (b.l.map Itm.abs))) ∧ Below w.heap.size w w' := by
  have H1 := hid (fun W (hW : Below w.heap.size w W) => mright_walk o a b W (ho.below hW) (ha.below hW) (hb.below hW))
  have HRES : HidP (∀ W, ResOk W (.agg #[.slice none 0 0, .slice none 0 0, .slice none 0 0, .slice none 0 0]) (mOut (o.l.map Itm.abs) (a.l.map Itm.abs) (b.l.map Itm.abs)) ∧ (mOut (o.l.map Itm.abs) (a.l.map Itm.abs) (b.l.map Itm.abs)).code = 1) := hid (fun W => by
    unfold mOut
    rw [hr, if_neg (by simp)]
    exact ⟨ResOk.none _ _, rfl⟩)
  rw [hr] at H1
  clear ho ha hb hr
  have hb0 := thenA (Below.refl _ w) (.cells #[.slice none 0 0, .slice none 0 0, .slice none 0 0, .slice none 0 0] 28 (0, 0))
  go_enter Tryz.func11, Tryz.ntmps11
  go_wp2_with fail
  refine (H1.out _ hb0).mono ?_
  rintro e w1 ⟨rfl, hb1'⟩
  have hb1 := thenB hb0 hb1'
  have hq8 := (hb1'.block _ (blkLt (heap_alloc_new w _))).trans (heap_alloc_new w (.cells #[.slice none 0 0, .slice none 0 0, .slice none 0 0, .slice none 0 0] 28 (0, 0)))
  have r0 : w1.cell? ⟨w.heap.size, 0, none⟩ = some (.slice none 0 0) := (blkCell hq8 0).trans rfl
  have r1 : w1.cell? ⟨w.heap.size, 1, none⟩ = some (.slice none 0 0) := (blkCell hq8 1).trans rfl
  have r2 : w1.cell? ⟨w.heap.size, 2, none⟩ = some (.slice none 0 0) := (blkCell hq8 2).trans rfl
  have r3 : w1.cell? ⟨w.heap.size, 3, none⟩ = some (.slice none 0 0) := (blkCell hq8 3).trans rfl
  have f0 := blkFree hq8 0
  have f1 := blkFree hq8 1
  have f2 := blkFree hq8 2
  have f3 := blkFree hq8 3
  have hF := blkSet (blkSet (blkSet (blkSet hq8 0 (.slice none 0 0)) 1 (.slice none 0 0)) 2 (.slice none 0 0)) 3 (.slice none 0 0)
  have y0 := (blkCell hF 0).trans (rfl : _ = some (Value.slice none 0 0))
  have y1 := (blkCell hF 1).trans (rfl : _ = some (Value.slice none 0 0))
  have y2 := (blkCell hF 2).trans (rfl : _ = some (Value.slice none 0 0))
  have y3 := (blkCell hF 3).trans (rfl : _ = some (Value.slice none 0 0))
  have T5 : HidP (Below w.heap.size w ((((w1.setCell ⟨w.heap.size, 0, none⟩ (.slice none 0 0)).setCell ⟨w.heap.size, 1, none⟩ (.slice none 0 0)).setCell ⟨w.heap.size, 2, none⟩ (.slice none 0 0)).setCell ⟨w.heap.size, 3, none⟩ (.slice none 0 0))) := hid (KR.below hb1 (KR.setR (KR.setR (KR.setR (KR.setR (Keep.refl _ w1) 0 _) 1 _) 2 _) 3 _) (Nat.le_refl _))
  clear hF hb0 hb1 hb1'
  go_wp2_with fail
  refine bodyPost_ret (v := .tuple #[.agg #[.slice none 0 0, .slice none 0 0, .slice none 0 0, .slice none 0 0], .int .i64 1]) (by simp [results, Tryz.results11, go_sem, y0, y1, y2, y3]) rfl ?_
  exact ⟨⟨_, by rw [(HRES.out w1).2], (HRES.out _).1⟩, T5.out⟩
/-- Merge, whatever the trees -/
theorem merge_any (o a b : TrI) (w : World) (ho : Tr w o.A o.c o.l) (ha : Tr w a.A a.c a.l) (hb : Tr w b.A b.c b.l) (lo : o.l.length ≤ 1000) (la : a.l.length ≤ 1000) (lb : b.l.length ≤ 1000) :
    Calls Tryz.prog 11 #[.slice o.A o.l.length o.c, .slice a.A a.l.length a.c, .slice b.A b.l.length b.c] w fun e w' => (∃ v, e = .returned (.tuple #[v, .int .i64 (mOut (o.l.map Itm.abs) (a.l.map Itm.abs) (b.l.map Itm.abs)).code]) ∧ ResOk w' v (mOut (o.l.map Itm.abs) (a.l.map Itm.abs) (b.l.map Itm.abs))) ∧ Below w.heap.size w w' := by
  cases hr : right3 (o.l.map Itm.abs) (a.l.map Itm.abs) (b.l.map Itm.abs)
  · exact merge_bad o a b w ho ha hb hr
  · have h := hr
    unfold right3 at h
    rw [Bool.and_eq_true, Bool.and_eq_true] at h
    exact merge_walk o a b w ho ha hb lo la lb ⟨right_iff.1 h.1.1, right_iff.1 h.1.2, right_iff.1 h.2⟩ hr

end Go.Proofs.YtfbbjfbnkcklgaaGreatDoor
