/- at: both sides alike, one side as the ancestor (printed by genE12.py) -/
import Derived.Test.YtfbbjfbnkcklgaaGreatDoorE5
import Derived.StillTailTactics
namespace Go.Proofs.YtfbbjfbnkcklgaaGreatDoor
open Go.RowKit

theorem sameL_of {l m : List Itm} {X Y : List AIt} (h : l.map Itm.abs = X) (k : m.map Itm.abs = Y) : sameL l m = decide (X = Y) := by
  unfold sameL
  rw [h, k]
theorem Brings.from {w : World} {R : Nat} {S : RS} {wr W : World} {XA XB XO : List AIt} {XC : List Txt} {e : Ending} {w' : World} (hb : Below wr.heap.size wr W) (h : Brings w R S W XA XB XO XC e w') : Brings w R S wr XA XB XO XC e w' := by
  obtain ⟨hv, S', h1, h2, h3⟩ := h
  exact ⟨hv, S', h1, (Mv.below hb).trans h2, h3⟩
theorem boxed {wr W : World} {s : Spot} (hb : Below (wr.alloc (.cells #[.string s.q, .slice s.o.A s.o.l.length s.o.c, .slice s.a.A s.a.l.length s.a.c, .slice s.b.A s.b.l.length s.b.c] 92 (0, 0))).heap.size (wr.alloc (.cells #[.string s.q, .slice s.o.A s.o.l.length s.o.c, .slice s.a.A s.a.l.length s.a.c, .slice s.b.A s.b.l.length s.b.c] 92 (0, 0))) W) :
    W.cell? ⟨wr.heap.size, 0, none⟩ = some (.string s.q) ∧ W.cell? ⟨wr.heap.size, 1, none⟩ = some (.slice s.o.A s.o.l.length s.o.c) ∧ W.cell? ⟨wr.heap.size, 2, none⟩ = some (.slice s.a.A s.a.l.length s.a.c) ∧ W.cell? ⟨wr.heap.size, 3, none⟩ = some (.slice s.b.A s.b.l.length s.b.c) := by
  have h := heap_alloc_new wr (.cells #[.string s.q, .slice s.o.A s.o.l.length s.o.c, .slice s.a.A s.a.l.length s.a.c, .slice s.b.A s.b.l.length s.b.c] 92 (0, 0))
  exact ⟨cellB hb ((blkCell h 0).trans rfl), cellB hb ((blkCell h 1).trans rfl), cellB hb ((blkCell h 2).trans rfl), cellB hb ((blkCell h 3).trans rfl)⟩
theorem same_ab {o a b : List AIt} {w : World} {R : Nat} {S : RS} {wr : World} {s : Spot} (hs : SpotG o a b w wr R S s) {v : Bool} (hv : decide (underA a s.q.toList = underA b s.q.toList) = v) : HidP (∀ W, Below wr.heap.size wr W → Calls Tryz.prog 26 #[.slice s.a.A s.a.l.length s.a.c, .slice s.b.A s.b.l.length s.b.c] W fun e w' => e = .returned (.bool v) ∧ Below W.heap.size W w') := hid (fun W hb => by
  rw [← hv, ← sameL_of hs.ia hs.ib]; exact tsame_walk _ _ _ _ _ _ W (hs.ok.a.below hb) (hs.ok.b.below hb))
theorem same_bo {o a b : List AIt} {w : World} {R : Nat} {S : RS} {wr : World} {s : Spot} (hs : SpotG o a b w wr R S s) {v : Bool} (hv : decide (underA b s.q.toList = underA o s.q.toList) = v) : HidP (∀ W, Below wr.heap.size wr W → Calls Tryz.prog 26 #[.slice s.b.A s.b.l.length s.b.c, .slice s.o.A s.o.l.length s.o.c] W fun e w' => e = .returned (.bool v) ∧ Below W.heap.size W w') := hid (fun W hb => by
  rw [← hv, ← sameL_of hs.ib hs.io]; exact tsame_walk _ _ _ _ _ _ W (hs.ok.b.below hb) (hs.ok.o.below hb))
theorem same_ao {o a b : List AIt} {w : World} {R : Nat} {S : RS} {wr : World} {s : Spot} (hs : SpotG o a b w wr R S s) {v : Bool} (hv : decide (underA a s.q.toList = underA o s.q.toList) = v) : HidP (∀ W, Below wr.heap.size wr W → Calls Tryz.prog 26 #[.slice s.a.A s.a.l.length s.a.c, .slice s.o.A s.o.l.length s.o.c] W fun e w' => e = .returned (.bool v) ∧ Below W.heap.size W w') := hid (fun W hb => by
  rw [← hv, ← sameL_of hs.ia hs.io]; exact tsame_walk _ _ _ _ _ _ W (hs.ok.a.below hb) (hs.ok.o.below hb))

set_option maxRecDepth 100000 in
set_option maxHeartbeats 4000000 in
theorem at_take1 {o a b : List AIt} {n : Nat} {w : World} {R : Nat} {S : RS} {wr : World} {s : Spot} (hin : S.In w R wr) (hs : SpotG o a b w wr R S s) (t1 : decide (underA a s.q.toList = underA b s.q.toList) = true)
    (hroom : S.Room (resX o a b (ruleA o a b) n s.q.toList) (resX o a b (ruleB o a b) n s.q.toList) (resX o a b (ruleO o a b) n s.q.toList) (resC o a b n s.q.toList)) :
    Calls Tryz.prog 58 #[.pointer (some ⟨R, 0, none⟩), .agg #[.string s.q, .slice s.o.A s.o.l.length s.o.c, .slice s.a.A s.a.l.length s.a.c, .slice s.b.A s.b.l.length s.b.c]] wr
      (Brings w R S wr (resX o a b (ruleA o a b) n s.q.toList) (resX o a b (ruleB o a b) n s.q.toList) (resX o a b (ruleO o a b) n s.q.toList) (resC o a b n s.q.toList)) := by
  obtain ⟨e1, e2, e3, e4⟩ := res_take (o := o) (a := a) (b := b) (n := n) (q := s.q.toList) (by unfold takeA; rw [t1]; rfl)
  rw [e1, e2, e3, e4] at hroom ⊢
  have HK := hid (keepB hin s.a s.a s.a hs.ok.a hs.ok.a hs.ok.a hs.wa hs.wa hs.ga hs.ga hs.ga hroom hs.ia hs.ia hs.ia)
  have hb1 := thenA (Below.refl _ wr) (.cells #[.string s.q, .slice s.o.A s.o.l.length s.o.c, .slice s.a.A s.a.l.length s.a.c, .slice s.b.A s.b.l.length s.b.c] 92 (0, 0))
  have HS1 := same_ab hs t1
  clear hroom e1 e2 e3 e4 hs hin t1
  go_enter Tryz.func58, Tryz.ntmps58
  go_wp2_with fail
  refine (HS1.out _ hb1).mono ?_
  rintro e w2 ⟨rfl, hc2⟩
  have hx2 := hc2
  obtain ⟨q0, q1, q2, q3⟩ := boxed hx2
  have hb2 := thenB hb1 hc2
  clear hc2
  go_wp2_with fail
  refine (HK.out _ hb2).mono ?_
  rintro e w3 ⟨⟨v, rfl⟩, hbr⟩
  have HBR := hid hbr
  clear hbr
  go_wp2_with fail
  go_end0
  exact ⟨⟨_, rfl⟩, HBR.out⟩

set_option maxRecDepth 100000 in
set_option maxHeartbeats 4000000 in
theorem at_take2 {o a b : List AIt} {n : Nat} {w : World} {R : Nat} {S : RS} {wr : World} {s : Spot} (hin : S.In w R wr) (hs : SpotG o a b w wr R S s) (t1 : decide (underA a s.q.toList = underA b s.q.toList) = false) (t2 : decide (underA b s.q.toList = underA o s.q.toList) = true)
    (hroom : S.Room (resX o a b (ruleA o a b) n s.q.toList) (resX o a b (ruleB o a b) n s.q.toList) (resX o a b (ruleO o a b) n s.q.toList) (resC o a b n s.q.toList)) :
    Calls Tryz.prog 58 #[.pointer (some ⟨R, 0, none⟩), .agg #[.string s.q, .slice s.o.A s.o.l.length s.o.c, .slice s.a.A s.a.l.length s.a.c, .slice s.b.A s.b.l.length s.b.c]] wr
      (Brings w R S wr (resX o a b (ruleA o a b) n s.q.toList) (resX o a b (ruleB o a b) n s.q.toList) (resX o a b (ruleO o a b) n s.q.toList) (resC o a b n s.q.toList)) := by
  obtain ⟨e1, e2, e3, e4⟩ := res_take (o := o) (a := a) (b := b) (n := n) (q := s.q.toList) (by unfold takeA; rw [t1, t2]; rfl)
  rw [e1, e2, e3, e4] at hroom ⊢
  have HK := hid (keepB hin s.a s.a s.a hs.ok.a hs.ok.a hs.ok.a hs.wa hs.wa hs.ga hs.ga hs.ga hroom hs.ia hs.ia hs.ia)
  have hb1 := thenA (Below.refl _ wr) (.cells #[.string s.q, .slice s.o.A s.o.l.length s.o.c, .slice s.a.A s.a.l.length s.a.c, .slice s.b.A s.b.l.length s.b.c] 92 (0, 0))
  have HS1 := same_ab hs t1
  have HS2 := same_bo hs t2
  clear hroom e1 e2 e3 e4 hs hin t1 t2
  go_enter Tryz.func58, Tryz.ntmps58
  go_wp2_with fail
  refine (HS1.out _ hb1).mono ?_
  rintro e w2 ⟨rfl, hc2⟩
  have hx2 := hc2
  obtain ⟨q0, q1, q2, q3⟩ := boxed hx2
  have hb2 := thenB hb1 hc2
  clear hc2
  go_wp2_with fail
  refine (HS2.out _ hb2).mono ?_
  rintro e w3 ⟨rfl, hc3⟩
  have hx3 := thenB hx2 hc3
  obtain ⟨q0, q1, q2, q3⟩ := boxed hx3
  have hb3 := thenB hb2 hc3
  clear hc3
  go_wp2_with fail
  refine (HK.out _ hb3).mono ?_
  rintro e w4 ⟨⟨v, rfl⟩, hbr⟩
  have HBR := hid hbr
  clear hbr
  go_wp2_with fail
  go_end0
  exact ⟨⟨_, rfl⟩, HBR.out⟩

set_option maxRecDepth 100000 in
set_option maxHeartbeats 4000000 in
theorem at_first {o a b : List AIt} {n : Nat} {w : World} {R : Nat} {S : RS} {wr : World} {s : Spot} (hin : S.In w R wr) (hs : SpotG o a b w wr R S s) (t1 : decide (underA a s.q.toList = underA b s.q.toList) = false) (t2 : decide (underA b s.q.toList = underA o s.q.toList) = false) (t3 : decide (underA a s.q.toList = underA o s.q.toList) = true)
    (hroom : S.Room (resX o a b (ruleA o a b) n s.q.toList) (resX o a b (ruleB o a b) n s.q.toList) (resX o a b (ruleO o a b) n s.q.toList) (resC o a b n s.q.toList)) :
    Calls Tryz.prog 58 #[.pointer (some ⟨R, 0, none⟩), .agg #[.string s.q, .slice s.o.A s.o.l.length s.o.c, .slice s.a.A s.a.l.length s.a.c, .slice s.b.A s.b.l.length s.b.c]] wr
      (Brings w R S wr (resX o a b (ruleA o a b) n s.q.toList) (resX o a b (ruleB o a b) n s.q.toList) (resX o a b (ruleO o a b) n s.q.toList) (resC o a b n s.q.toList)) := by
  obtain ⟨e1, e2, e3, e4⟩ := res_first (o := o) (a := a) (b := b) (n := n) (q := s.q.toList) (by unfold takeA; rw [t1, t2]; rfl) t3
  rw [e1, e2, e3, e4] at hroom ⊢
  have HK := hid (keepB hin s.b s.b s.b hs.ok.b hs.ok.b hs.ok.b hs.wb hs.wb hs.gb hs.gb hs.gb hroom hs.ib hs.ib hs.ib)
  have hb1 := thenA (Below.refl _ wr) (.cells #[.string s.q, .slice s.o.A s.o.l.length s.o.c, .slice s.a.A s.a.l.length s.a.c, .slice s.b.A s.b.l.length s.b.c] 92 (0, 0))
  have HS1 := same_ab hs t1
  have HS2 := same_bo hs t2
  have HS3 := same_ao hs t3
  clear hroom e1 e2 e3 e4 hs hin t1 t2 t3
  go_enter Tryz.func58, Tryz.ntmps58
  go_wp2_with fail
  refine (HS1.out _ hb1).mono ?_
  rintro e w2 ⟨rfl, hc2⟩
  have hx2 := hc2
  obtain ⟨q0, q1, q2, q3⟩ := boxed hx2
  have hb2 := thenB hb1 hc2
  clear hc2
  go_wp2_with fail
  refine (HS2.out _ hb2).mono ?_
  rintro e w3 ⟨rfl, hc3⟩
  have hx3 := thenB hx2 hc3
  obtain ⟨q0, q1, q2, q3⟩ := boxed hx3
  have hb3 := thenB hb2 hc3
  clear hc3
  go_wp2_with fail
  refine (HS3.out _ hb3).mono ?_
  rintro e w4 ⟨rfl, hc4⟩
  have hx4 := thenB hx3 hc4
  obtain ⟨q0, q1, q2, q3⟩ := boxed hx4
  have hb4 := thenB hb3 hc4
  clear hc4
  go_wp2_with fail
  refine (HK.out _ hb4).mono ?_
  rintro e w5 ⟨⟨v, rfl⟩, hbr⟩
  have HBR := hid hbr
  clear hbr
  go_wp2_with fail
  go_end0
  exact ⟨⟨_, rfl⟩, HBR.out⟩

end Go.Proofs.YtfbbjfbnkcklgaaGreatDoor

/- at: a conflict (printed by genE13.py) -/
namespace Go.Proofs.YtfbbjfbnkcklgaaGreatDoor
open Go.RowKit

theorem infoStr : (Tryz.prog.info? 9).map (fun i => (i.zero, i.size, i.bytes)) = some (some (.string ByteArray.empty), 1, 16) := by kernel_rfl
theorem dir_o {o a b : List AIt} {w : World} {R : Nat} {S : RS} {wr : World} {s : Spot} (hR : Right3 o a b) (hs : SpotG o a b w wr R S s) (hq : s.q.toList ≠ []) {v : Bool} (hv : foundDir o s.q.toList = v) : HidP (∀ W, Below wr.heap.size wr W → Calls Tryz.prog 92 #[.slice s.o.A s.o.l.length s.o.c, .string s.q] W fun e w' => e = .returned (.bool v) ∧ W = w') := hid (fun W hb => by
  rw [← hv, ← head_dir hR.o.sorted hq, ← hs.io]; exact mdir_walk _ _ _ _ W (hs.ok.o.below hb))
theorem dir_a {o a b : List AIt} {w : World} {R : Nat} {S : RS} {wr : World} {s : Spot} (hR : Right3 o a b) (hs : SpotG o a b w wr R S s) (hq : s.q.toList ≠ []) {v : Bool} (hv : foundDir a s.q.toList = v) : HidP (∀ W, Below wr.heap.size wr W → Calls Tryz.prog 92 #[.slice s.a.A s.a.l.length s.a.c, .string s.q] W fun e w' => e = .returned (.bool v) ∧ W = w') := hid (fun W hb => by
  rw [← hv, ← head_dir hR.a.sorted hq, ← hs.ia]; exact mdir_walk _ _ _ _ W (hs.ok.a.below hb))
theorem dir_b {o a b : List AIt} {w : World} {R : Nat} {S : RS} {wr : World} {s : Spot} (hR : Right3 o a b) (hs : SpotG o a b w wr R S s) (hq : s.q.toList ≠ []) {v : Bool} (hv : foundDir b s.q.toList = v) : HidP (∀ W, Below wr.heap.size wr W → Calls Tryz.prog 92 #[.slice s.b.A s.b.l.length s.b.c, .string s.q] W fun e w' => e = .returned (.bool v) ∧ W = w') := hid (fun W hb => by
  rw [← hv, ← head_dir hR.b.sorted hq, ← hs.ib]; exact mdir_walk _ _ _ _ W (hs.ok.b.below hb))
theorem str_src (W : World) (q : ByteArray) : Src (W.alloc (.cells #[.string q] 9 (0, 0))) 1 (.slice (some ⟨W.heap.size, 0, none⟩) 1 1) [.string q] :=
  Src.rec (f := fun z : ByteArray => [Value.string z]) (m := 1) (fun _ => rfl) q (heap_alloc_new W _)
/-- the conflict is noted; then what is kept -/
theorem conf_step {o a b : List AIt} {w : World} {R : Nat} {S : RS} {wr : World} {s : Spot} (hin : S.In w R wr) (hs : SpotG o a b w wr R S s) {W : World} (hb : Below wr.heap.size wr W) {O : Obj} {cA : Option Addr} {cn cc : Nat} {w7 : World} (hg : (W.alloc O).grownBy w7 (Value.slice S.c.A S.c.n S.c.c).ownBlock)
    (hr : Row w7 9 1 (.slice cA cn cc) (S.LC.map .string ++ [.string s.q])) (ha : (Value.slice cA cn cc).ownBlock = (Value.slice S.c.A S.c.n S.c.c).ownBlock ∨ (Value.slice cA cn cc).ownBlock = some (W.alloc O).heap.size) {XA XB XO : List AIt} (hroom : S.Room XA XB XO [s.q.toList]) (eO : s.o.l.map Itm.abs = XO) (eA : s.a.l.map Itm.abs = XA) (eB : s.b.l.map Itm.abs = XB) :
    Calls Tryz.prog 91 #[.pointer (some ⟨R, 0, none⟩), .slice s.o.A s.o.l.length s.o.c, .slice s.a.A s.a.l.length s.a.c, .slice s.b.A s.b.l.length s.b.c] (w7.setCell ⟨R, 3, none⟩ (.slice cA cn cc)) (Brings w R S wr XA XB XO [s.q.toList]) := by
  have hb2 := thenA hb O
  obtain ⟨h1, h2⟩ := (hin.later hb2).setC hg hr ha
  have h3 : S.Mv R ⟨S.a, S.b, S.o, ⟨cA, cn, cc⟩, S.LA, S.LB, S.LO, S.LC ++ [s.q]⟩ wr _ := (Mv.below hb2).trans h2
  have hs2 := hs.moved h3 h1.below
  have g : S.Grow ⟨S.a, S.b, S.o, ⟨cA, cn, cc⟩, S.LA, S.LB, S.LO, S.LC ++ [s.q]⟩ [] [] [] [s.q.toList] := ⟨by simp, by simp, by simp, by simp⟩
  have hroom2 : RS.Room ⟨S.a, S.b, S.o, ⟨cA, cn, cc⟩, S.LA, S.LB, S.LO, S.LC ++ [s.q]⟩ XA XB XO [] := RS.Room.right (XA := []) (XB := []) (XO := []) (XC := [s.q.toList]) (S := S) (by simpa using hroom) g
  refine (keepB (S := ⟨S.a, S.b, S.o, ⟨cA, cn, cc⟩, S.LA, S.LB, S.LO, S.LC ++ [s.q]⟩) h1 s.o s.a s.b hs2.ok.o hs2.ok.a hs2.ok.b hs2.wa hs2.wb hs2.go hs2.ga hs2.gb hroom2 eO eA eB _ (Below.refl _ _)).mono ?_
  rintro e w' ⟨hv, S', k1, k2, k3⟩
  exact ⟨hv, S', k1, h3.trans k2, by simpa using g.trans k3⟩
/-- what stands in the box of the spot stands there still -/
theorem box_kept {w : World} {R : Nat} {S S' : RS} {wr W W' : World} (hin : S.In w R wr) (hm : S.Mv R S' W W') {i : Nat} {x : Value} (hq : W.cell? ⟨wr.heap.size, i, none⟩ = some x) : W'.cell? ⟨wr.heap.size, i, none⟩ = some x :=
  (World.cell?_of_block (w := W) (w' := W') (a := ⟨wr.heap.size, i, none⟩) (hm.keep.block _ (World.block_lt_of_cell? W _ hq) (RM.offNew hin (Nat.le_refl _)))).trans hq
theorem conf_mv {w : World} {R : Nat} {S : RS} {wr : World} {s : ByteArray} (hin : S.In w R wr) {W : World} (hb : Below wr.heap.size wr W) {O : Obj} {cA : Option Addr} {cn cc : Nat} {w7 : World} (hg : (W.alloc O).grownBy w7 (Value.slice S.c.A S.c.n S.c.c).ownBlock)
    (hr : Row w7 9 1 (.slice cA cn cc) (S.LC.map .string ++ [.string s])) (ha : (Value.slice cA cn cc).ownBlock = (Value.slice S.c.A S.c.n S.c.c).ownBlock ∨ (Value.slice cA cn cc).ownBlock = some (W.alloc O).heap.size) :
    S.Mv R ⟨S.a, S.b, S.o, ⟨cA, cn, cc⟩, S.LA, S.LB, S.LO, S.LC ++ [s]⟩ W (w7.setCell ⟨R, 3, none⟩ (.slice cA cn cc)) := by
  have hb2 := thenA hb O
  obtain ⟨h1, h2⟩ := (hin.later hb2).setC hg hr ha
  exact (Mv.below (thenA (Below.refl _ W) O)).trans h2

set_option maxRecDepth 100000 in
set_option maxHeartbeats 4000000 in
theorem at_conf1 {o a b : List AIt} {n : Nat} {w : World} {R : Nat} {S : RS} {wr : World} {s : Spot} (hin : S.In w R wr) (hs : SpotG o a b w wr R S s) (hR : Right3 o a b) (hq : s.q.toList ≠ []) (t1 : decide (underA a s.q.toList = underA b s.q.toList) = false) (t2 : decide (underA b s.q.toList = underA o s.q.toList) = false) (t3 : decide (underA a s.q.toList = underA o s.q.toList) = false) (d1 : foundDir a s.q.toList = false)
    (hroom : S.Room (resX o a b (ruleA o a b) n s.q.toList) (resX o a b (ruleB o a b) n s.q.toList) (resX o a b (ruleO o a b) n s.q.toList) (resC o a b n s.q.toList)) :
    Calls Tryz.prog 58 #[.pointer (some ⟨R, 0, none⟩), .agg #[.string s.q, .slice s.o.A s.o.l.length s.o.c, .slice s.a.A s.a.l.length s.a.c, .slice s.b.A s.b.l.length s.b.c]] wr
      (Brings w R S wr (resX o a b (ruleA o a b) n s.q.toList) (resX o a b (ruleB o a b) n s.q.toList) (resX o a b (ruleO o a b) n s.q.toList) (resC o a b n s.q.toList)) := by
  obtain ⟨e1, e2, e3, e4⟩ := res_conf (o := o) (a := a) (b := b) (n := n) (q := s.q.toList) (by unfold takeA; rw [t1, t2]; rfl) t3 (by unfold bothD; rw [d1]; rfl)
  rw [e1, e2, e3, e4] at hroom ⊢
  obtain ⟨ti, hi0, hz0, hz1, hz2⟩ := info_parts infoStr
  have HS1 := same_ab hs t1
  have HS2 := same_bo hs t2
  have HS3 := same_ao hs t3
  have HR := hid hR
  have HD1 := dir_a hR hs hq d1
  have HIN := hid hin
  have HSG := hid hs
  have HROOM := hid hroom
  have hb1 := thenA (Below.refl _ wr) (.cells #[.string s.q, .slice s.o.A s.o.l.length s.o.c, .slice s.a.A s.a.l.length s.a.c, .slice s.b.A s.b.l.length s.b.c] 92 (0, 0))
  clear hroom e1 e2 e3 e4 hs hin t1 t2 t3 hR
  go_enter Tryz.func58, Tryz.ntmps58
  go_wp2_with fail
  refine (HS1.out _ hb1).mono ?_
  rintro e w2 ⟨rfl, hc2⟩
  have hx2 := hc2
  obtain ⟨q0, q1, q2, q3⟩ := boxed hx2
  have hb2 := thenB hb1 hc2
  clear hc2
  go_wp2_with fail
  refine (HS2.out _ hb2).mono ?_
  rintro e w3 ⟨rfl, hc3⟩
  have hx3 := thenB hx2 hc3
  obtain ⟨q0, q1, q2, q3⟩ := boxed hx3
  have hb3 := thenB hb2 hc3
  clear hc3
  go_wp2_with fail
  refine (HS3.out _ hb3).mono ?_
  rintro e w4 ⟨rfl, hc4⟩
  have hx4 := thenB hx3 hc4
  obtain ⟨q0, q1, q2, q3⟩ := boxed hx4
  have hb4 := thenB hb3 hc4
  clear hc4
  go_wp2_with fail
  refine (HD1.out _ hb4).mono ?_
  rintro e w5 ⟨rfl, rfl⟩
  go_wp2_with fail
  have c3 : w4.cell? ⟨R, 3, none⟩ = some (.slice S.c.A S.c.n S.c.c) := (blkCell (HIN.out.later hb4).blk 3).trans rfl
  have c3a : ∀ o, (w4.alloc o).cell? ⟨R, 3, none⟩ = some (.slice S.c.A S.c.n S.c.c) := fun o => cellA c3 o
  have hk3 := (HIN.out.later (thenA hb4 (.cells #[.string s.q] 9 (0, 0)))).blk
  have hro := (HIN.out.later (thenA hb4 (.cells #[.string s.q] 9 (0, 0)))).rc
  have hsi := str_src w4 s.q
  have hc1 : (S.LC.map Value.string).length + [Value.string s.q].length ≤ maxLen := by
    have := HROOM.out.c
    rw [List.length_map]
    simp only [maxLen, List.length_singleton]
    omega
  have hc2 : ((S.LC.map Value.string).length + [Value.string s.q].length) * 16 ≤ 140737488355328 := by
    have := HROOM.out.c
    rw [List.length_map]
    simp only [List.length_singleton]
    omega
  go_region_law (refine step_append_row _ (by rfl) _ _ 26 (by rfl) 9 ti (.string ByteArray.empty) 1 16 Tryz.underlying26 hi0 hz0 hz1 hz2 rfl (by decide) (.slice S.c.A S.c.n S.c.c) (S.LC.map .string) (by rfl) (by exact hro.keep (fun _ _ => rfl)) (.slice (some ⟨w4.heap.size, 0, none⟩) 1 1) [.string s.q] (by rfl) (by exact hsi.keep (fun _ _ _ => rfl)) (by simp [Value.oneCell']) hc1 hc2 ?_; intro cA cn cc w7 hr7 hg7 ha7; have hk7 := (hg7.block R (by exact blkLt hk3) (fun e => hro.neBlk hk3 (by decide) e.symm)).trans hk3; have f7 := blkFree hk7 3; have q7 : w7.cell? ⟨R, 3, none⟩ = some (.slice S.c.A S.c.n S.c.c) := (blkCell hk7 3).trans rfl; have HC7 := hid (conf_step HIN.out HSG.out hb4 (O := .cells #[.string s.q] 9 (0, 0)) ⟨hg7.os, hg7.tape, hg7.output, hg7.size, hg7.block⟩ hr7 ha7 HROOM.out HSG.out.io HSG.out.ia HSG.out.ib); have hm7 := conf_mv (s := s.q) HIN.out hb4 (O := .cells #[.string s.q] 9 (0, 0)) ⟨hg7.os, hg7.tape, hg7.output, hg7.size, hg7.block⟩ hr7 ha7; have z1 := box_kept HIN.out hm7 q1; have z2 := box_kept HIN.out hm7 q2; have z3 := box_kept HIN.out hm7 q3; clear hm7 hr7 hg7 ha7 hk7)
  all_goals
    clear c3 c3a hk3 hro hsi hc1 hc2
    go_wp2_with fail
    refine HC7.out.mono ?_
    rintro e w9 ⟨⟨v, rfl⟩, hbr⟩
    have HBR := hid hbr
    clear hbr
    go_wp2_with fail
    go_end0
    exact ⟨⟨_, rfl⟩, HBR.out⟩

set_option maxRecDepth 100000 in
set_option maxHeartbeats 4000000 in
theorem at_conf2 {o a b : List AIt} {n : Nat} {w : World} {R : Nat} {S : RS} {wr : World} {s : Spot} (hin : S.In w R wr) (hs : SpotG o a b w wr R S s) (hR : Right3 o a b) (hq : s.q.toList ≠ []) (t1 : decide (underA a s.q.toList = underA b s.q.toList) = false) (t2 : decide (underA b s.q.toList = underA o s.q.toList) = false) (t3 : decide (underA a s.q.toList = underA o s.q.toList) = false) (d1 : foundDir a s.q.toList = true) (d2 : foundDir b s.q.toList = false)
    (hroom : S.Room (resX o a b (ruleA o a b) n s.q.toList) (resX o a b (ruleB o a b) n s.q.toList) (resX o a b (ruleO o a b) n s.q.toList) (resC o a b n s.q.toList)) :
    Calls Tryz.prog 58 #[.pointer (some ⟨R, 0, none⟩), .agg #[.string s.q, .slice s.o.A s.o.l.length s.o.c, .slice s.a.A s.a.l.length s.a.c, .slice s.b.A s.b.l.length s.b.c]] wr
      (Brings w R S wr (resX o a b (ruleA o a b) n s.q.toList) (resX o a b (ruleB o a b) n s.q.toList) (resX o a b (ruleO o a b) n s.q.toList) (resC o a b n s.q.toList)) := by
  obtain ⟨e1, e2, e3, e4⟩ := res_conf (o := o) (a := a) (b := b) (n := n) (q := s.q.toList) (by unfold takeA; rw [t1, t2]; rfl) t3 (by unfold bothD; rw [d1, d2]; rfl)
  rw [e1, e2, e3, e4] at hroom ⊢
  obtain ⟨ti, hi0, hz0, hz1, hz2⟩ := info_parts infoStr
  have HS1 := same_ab hs t1
  have HS2 := same_bo hs t2
  have HS3 := same_ao hs t3
  have HR := hid hR
  have HD1 := dir_a hR hs hq d1
  have HD2 := dir_b hR hs hq d2
  have HIN := hid hin
  have HSG := hid hs
  have HROOM := hid hroom
  have hb1 := thenA (Below.refl _ wr) (.cells #[.string s.q, .slice s.o.A s.o.l.length s.o.c, .slice s.a.A s.a.l.length s.a.c, .slice s.b.A s.b.l.length s.b.c] 92 (0, 0))
  clear hroom e1 e2 e3 e4 hs hin t1 t2 t3 hR
  go_enter Tryz.func58, Tryz.ntmps58
  go_wp2_with fail
  refine (HS1.out _ hb1).mono ?_
  rintro e w2 ⟨rfl, hc2⟩
  have hx2 := hc2
  obtain ⟨q0, q1, q2, q3⟩ := boxed hx2
  have hb2 := thenB hb1 hc2
  clear hc2
  go_wp2_with fail
  refine (HS2.out _ hb2).mono ?_
  rintro e w3 ⟨rfl, hc3⟩
  have hx3 := thenB hx2 hc3
  obtain ⟨q0, q1, q2, q3⟩ := boxed hx3
  have hb3 := thenB hb2 hc3
  clear hc3
  go_wp2_with fail
  refine (HS3.out _ hb3).mono ?_
  rintro e w4 ⟨rfl, hc4⟩
  have hx4 := thenB hx3 hc4
  obtain ⟨q0, q1, q2, q3⟩ := boxed hx4
  have hb4 := thenB hb3 hc4
  clear hc4
  go_wp2_with fail
  refine (HD1.out _ hb4).mono ?_
  rintro e w5 ⟨rfl, rfl⟩
  go_wp2_with fail
  refine (HD2.out _ hb4).mono ?_
  rintro e w6 ⟨rfl, rfl⟩
  go_wp2_with fail
  have c3 : w4.cell? ⟨R, 3, none⟩ = some (.slice S.c.A S.c.n S.c.c) := (blkCell (HIN.out.later hb4).blk 3).trans rfl
  have c3a : ∀ o, (w4.alloc o).cell? ⟨R, 3, none⟩ = some (.slice S.c.A S.c.n S.c.c) := fun o => cellA c3 o
  have hk3 := (HIN.out.later (thenA hb4 (.cells #[.string s.q] 9 (0, 0)))).blk
  have hro := (HIN.out.later (thenA hb4 (.cells #[.string s.q] 9 (0, 0)))).rc
  have hsi := str_src w4 s.q
  have hc1 : (S.LC.map Value.string).length + [Value.string s.q].length ≤ maxLen := by
    have := HROOM.out.c
    rw [List.length_map]
    simp only [maxLen, List.length_singleton]
    omega
  have hc2 : ((S.LC.map Value.string).length + [Value.string s.q].length) * 16 ≤ 140737488355328 := by
    have := HROOM.out.c
    rw [List.length_map]
    simp only [List.length_singleton]
    omega
  go_region_law (refine step_append_row _ (by rfl) _ _ 26 (by rfl) 9 ti (.string ByteArray.empty) 1 16 Tryz.underlying26 hi0 hz0 hz1 hz2 rfl (by decide) (.slice S.c.A S.c.n S.c.c) (S.LC.map .string) (by rfl) (by exact hro.keep (fun _ _ => rfl)) (.slice (some ⟨w4.heap.size, 0, none⟩) 1 1) [.string s.q] (by rfl) (by exact hsi.keep (fun _ _ _ => rfl)) (by simp [Value.oneCell']) hc1 hc2 ?_; intro cA cn cc w7 hr7 hg7 ha7; have hk7 := (hg7.block R (by exact blkLt hk3) (fun e => hro.neBlk hk3 (by decide) e.symm)).trans hk3; have f7 := blkFree hk7 3; have q7 : w7.cell? ⟨R, 3, none⟩ = some (.slice S.c.A S.c.n S.c.c) := (blkCell hk7 3).trans rfl; have HC7 := hid (conf_step HIN.out HSG.out hb4 (O := .cells #[.string s.q] 9 (0, 0)) ⟨hg7.os, hg7.tape, hg7.output, hg7.size, hg7.block⟩ hr7 ha7 HROOM.out HSG.out.io HSG.out.ia HSG.out.ib); have hm7 := conf_mv (s := s.q) HIN.out hb4 (O := .cells #[.string s.q] 9 (0, 0)) ⟨hg7.os, hg7.tape, hg7.output, hg7.size, hg7.block⟩ hr7 ha7; have z1 := box_kept HIN.out hm7 q1; have z2 := box_kept HIN.out hm7 q2; have z3 := box_kept HIN.out hm7 q3; clear hm7 hr7 hg7 ha7 hk7)
  all_goals
    clear c3 c3a hk3 hro hsi hc1 hc2
    go_wp2_with fail
    refine HC7.out.mono ?_
    rintro e w9 ⟨⟨v, rfl⟩, hbr⟩
    have HBR := hid hbr
    clear hbr
    go_wp2_with fail
    go_end0
    exact ⟨⟨_, rfl⟩, HBR.out⟩

end Go.Proofs.YtfbbjfbnkcklgaaGreatDoor

/- at: both are directories: what is within is merged (printed by genE14.py) -/
namespace Go.Proofs.YtfbbjfbnkcklgaaGreatDoor
open Go.RowKit

/-- the parts of a part, all of them -/
theorem desc_all {o a b : List AIt} {n : Nat} {w : World} {R : Nat} {S : RS} {w6 w7 : World} {q : Txt} (hR : Right3 o a b) (hin : S.In w R w6) {lo la lb : List Itm} (po : PartOf o q lo) (pa : PartOf a q la) (pb : PartOf b q lb) (go : ∀ x ∈ lo, GoodR w R x) (ga : ∀ x ∈ la, GoodR w R x) (gb : ∀ x ∈ lb, GoodR w R x)
    {C : Option Addr} {u : Nat} {ss : List Spot} (hss : SpotsAt w7 C u ss) (hsort : sortedN (ss.map (·.q.toList))) (hmem : ∀ x, x ∈ ss.map (·.q.toList) ↔ (kidL lo q x ≠ [] ∨ kidL la q x ≠ [] ∨ kidL lb q x ≠ []))
    (hl : ∀ s ∈ ss, s.o.l = kidL lo q s.q.toList ∧ s.a.l = kidL la q s.q.toList ∧ s.b.l = kidL lb q s.q.toList) (hfr : ∀ s ∈ ss, s.fresh w6.heap.size) (hC : ∀ k, (Value.slice C ss.length u).ownBlock = some k → w6.heap.size ≤ k) (hb : Below w6.heap.size w6 w7) (hAll : AllOk o a b n) (hn : 126 ≤ q.length + n)
    (hroom : S.Room (allX o a b (ruleA o a b) n q) (allX o a b (ruleB o a b) n q) (allX o a b (ruleO o a b) n q) (allC o a b n q)) :
    Calls Tryz.prog 38 #[.pointer (some ⟨R, 0, none⟩), .slice C ss.length u] w7 (Brings w R S w6 (allX o a b (ruleA o a b) n q) (allX o a b (ruleB o a b) n q) (allX o a b (ruleO o a b) n q) (allC o a b n q)) := by
  have hnames := names_are hR po pa pb hsort hmem
  refine (hAll w R S w7 C u ss q (hin.later hb) hss (fun k hk => RM.offNew hin (hC k hk)) (fun s hs => ?_) hnames hn hroom).mono ?_
  · have hq : s.q.toList ∈ namesA o a b q := by rw [← hnames]; exact List.mem_map_of_mem hs
    obtain ⟨h1, h2⟩ := mem_names.1 hq
    have h3 := hR.pathU h2
    obtain ⟨l1, l2, l3⟩ := hl s hs
    have hok := hss.ok s hs
    have hf := hfr s hs
    exact ⟨hok, by rw [l1]; exact part_kid hR.o po h3 h1, by rw [l2]; exact part_kid hR.a pa h3 h1, by rw [l3]; exact part_kid hR.b pb h3 h1, fun x hx => go x (by rw [l1] at hx; exact (List.mem_filter.1 hx).1), fun x hx => ga x (by rw [l2] at hx; exact (List.mem_filter.1 hx).1), fun x hx => gb x (by rw [l3] at hx; exact (List.mem_filter.1 hx).1),
      fun _ k hk => RM.offNew hin (hf.o k hk), fun _ k hk => RM.offNew hin (hf.a k hk), fun _ k hk => RM.offNew hin (hf.b k hk)⟩
  · rintro e w' hbr
    exact Brings.from hb hbr
theorem own_len (A : Option Addr) (n m c d : Nat) : (Value.slice A n c).ownBlock = (Value.slice A m d).ownBlock := by cases A <;> rfl
theorem Tr.take1 {w : World} {A : Option Addr} {c : Nat} {x : Itm} {r : List Itm} (h : Tr w A c (x :: r)) : Tr w A c [x] := by
  have h1 := h.cap
  refine ⟨⟨by simp at h1 ⊢; omega, h.nil, fun i y hy => ?_⟩, by simp, fun y hy => h.good y (by simp at hy; simp [hy])⟩
  cases i with
  | zero => exact h.cell 0 y (by simpa using hy)
  | succ i => simp at hy
theorem head_is {T : List AIt} (hT : RightP T) {q : Txt} (hq : q ≠ []) {l : List Itm} (hl : l.map Itm.abs = underA T q) (hd : foundDir T q = true) : ∃ x r, l = x :: r ∧ x.abs = ⟨q, true, []⟩ := by
  have h1 := head_dir hT.sorted hq
  rw [hd, ← hl] at h1
  cases l with
  | nil => cases h1
  | cons x r =>
    refine ⟨x, r, rfl, ?_⟩
    have h2 : (x.abs.p == q && x.abs.d) = true := h1
    rw [Bool.and_eq_true, beq_iff_eq] at h2
    have h3 : x.abs ∈ underA T q := by rw [← hl]; exact List.mem_cons_self
    have h4 := (find_iff hT.sorted).2 ⟨(mem_under.1 h3).1, h2.1⟩
    rw [(foundDir_iff hT).1 hd] at h4
    exact (Option.some.inj h4).symm
theorem part_len {T : List AIt} {q : Txt} {l : List Itm} (h : l.map Itm.abs = underA T q) (hT : T.length ≤ 1000) : l.length ≤ 1000 := by
  have h1 := congrArg List.length h
  rw [List.length_map] at h1
  have h2 : (underA T q).length ≤ T.length := List.length_filter_le _ _
  omega

set_option maxRecDepth 100000 in
set_option maxHeartbeats 4000000 in
theorem at_desc1 {o a b : List AIt} {n : Nat} {w : World} {R : Nat} {S : RS} {wr : World} {s : Spot} (hin : S.In w R wr) (hs : SpotG o a b w wr R S s) (hR : Right3 o a b) (_lo : o.length ≤ 1000) (la : a.length ≤ 1000) (lb : b.length ≤ 1000) (hq : s.q.toList ≠ []) (hn : 126 ≤ s.q.toList.length + n) (hAll : AllOk o a b n) (t1 : decide (underA a s.q.toList = underA b s.q.toList) = false) (t2 : decide (underA b s.q.toList = underA o s.q.toList) = false) (t3 : decide (underA a s.q.toList = underA o s.q.toList) = false) (d1 : foundDir a s.q.toList = true) (d2 : foundDir b s.q.toList = true) (d3 : foundDir o s.q.toList = true)
    (hroom : S.Room (resX o a b (ruleA o a b) n s.q.toList) (resX o a b (ruleB o a b) n s.q.toList) (resX o a b (ruleO o a b) n s.q.toList) (resC o a b n s.q.toList)) :
    Calls Tryz.prog 58 #[.pointer (some ⟨R, 0, none⟩), .agg #[.string s.q, .slice s.o.A s.o.l.length s.o.c, .slice s.a.A s.a.l.length s.a.c, .slice s.b.A s.b.l.length s.b.c]] wr
      (Brings w R S wr (resX o a b (ruleA o a b) n s.q.toList) (resX o a b (ruleB o a b) n s.q.toList) (resX o a b (ruleO o a b) n s.q.toList) (resC o a b n s.q.toList)) := by
  have ht : takeA o a b s.q.toList = false := by unfold takeA; rw [t1, t2]; rfl
  have hd2 : bothD a b s.q.toList = true := by unfold bothD; rw [d1, d2]; rfl
  rw [res_desc ht t3 hd2, res_desc ht t3 hd2, res_desc ht t3 hd2, resC_desc ht t3 hd2] at hroom ⊢
  obtain ⟨x, r, hx, hxa⟩ := head_is hR.a hq hs.ia d1
  have htk : Tr wr s.a.A s.a.c [x] := (show Tr wr s.a.A s.a.c (x :: r) from hx ▸ hs.ok.a).take1
  have i1 : (1 : Int) ≤ (s.a.c : Int) := by have := htk.cap; simp at this; omega
  have hne : s.a.l ≠ [] := by rw [hx]; simp
  have hga : ∀ y ∈ [x], GoodR w R y := fun y hy => hs.ga y (by rw [hx]; simp at hy; simp [hy])
  have haw : S.Away R ⟨s.a.A, s.a.c, [x]⟩ := fun _ k hk => hs.wa hne k ((own_len _ _ _ _ _).trans hk)
  have HK : HidP (∀ W, Below wr.heap.size wr W → Calls Tryz.prog 91 #[.pointer (some ⟨R, 0, none⟩), .slice s.a.A 1 s.a.c, .slice s.a.A 1 s.a.c, .slice s.a.A 1 s.a.c] W (Brings w R S W [⟨s.q.toList, true, []⟩] [⟨s.q.toList, true, []⟩] [⟨s.q.toList, true, []⟩] [])) := hid (fun W hb =>
    keepB (hin.later hb) ⟨s.a.A, s.a.c, [x]⟩ ⟨s.a.A, s.a.c, [x]⟩ ⟨s.a.A, s.a.c, [x]⟩ (htk.below hb) (htk.below hb) (htk.below hb) haw haw hga hga hga hroom.left (by simp [hxa]) (by simp [hxa]) (by simp [hxa]) W (Below.refl _ _))
  have HS1 := same_ab hs t1
  have HS2 := same_bo hs t2
  have HS3 := same_ao hs t3
  have HD1 := dir_a hR hs hq d1
  have HD2 := dir_b hR hs hq d2
  have HR := hid hR
  have HIN := hid hin
  have HSG := hid hs
  have HROOM := hid hroom
  have HALL := hid hAll
  have HQ := hid hq
  have HD := hid d3
  have hb1 := thenA (Below.refl _ wr) (.cells #[.string s.q, .slice s.o.A s.o.l.length s.o.c, .slice s.a.A s.a.l.length s.a.c, .slice s.b.A s.b.l.length s.b.c] 92 (0, 0))
  clear hroom hs hin t1 t2 t3 hR ht hd2 hx hxa htk hne hga haw hAll hq d1 d2 d3
  go_enter Tryz.func58, Tryz.ntmps58
  go_wp2_with fail
  refine (HS1.out _ hb1).mono ?_
  rintro e w2 ⟨rfl, hc2⟩
  have hx2 := hc2
  obtain ⟨q0, q1, q2, q3⟩ := boxed hx2
  have hb2 := thenB hb1 hc2
  clear hc2
  go_wp2_with fail
  refine (HS2.out _ hb2).mono ?_
  rintro e w3 ⟨rfl, hc3⟩
  have hx3 := thenB hx2 hc3
  obtain ⟨q0, q1, q2, q3⟩ := boxed hx3
  have hb3 := thenB hb2 hc3
  clear hc3
  go_wp2_with fail
  refine (HS3.out _ hb3).mono ?_
  rintro e w4 ⟨rfl, hc4⟩
  have hx4 := thenB hx3 hc4
  obtain ⟨q0, q1, q2, q3⟩ := boxed hx4
  have hb4 := thenB hb3 hc4
  clear hc4
  go_wp2_with fail
  refine (HD1.out _ hb4).mono ?_
  rintro e w5 ⟨rfl, rfl⟩
  go_wp2_with fail
  refine (HD2.out _ hb4).mono ?_
  rintro e w6 ⟨rfl, rfl⟩
  go_wp2_with fail
  go_still_tail 10, (by kernel_rfl)
  change wpList _ _ _ _ _ w4.drew
  have hbd : Below w4.heap.size w4 w4.drew := ⟨rfl, rfl, rfl, Nat.le_refl _, fun _ _ => rfl⟩
  have hb5 := thenB hb4 hbd
  obtain ⟨q0, q1, q2, q3⟩ := boxed (thenB hx4 hbd)
  generalize w4.drew = w5 at *
  go_wp2_with fail
  refine (HK.out _ hb5).mono ?_
  rintro e w6 ⟨⟨v, rfl⟩, S1, h1, h2, h3⟩
  have z0 := box_kept HIN.out h2 q0
  have z1 := box_kept HIN.out h2 q1
  have z2 := box_kept HIN.out h2 q2
  have z3 := box_kept HIN.out h2 q3
  have HM := hid ((show S.Mv R S wr w5 from Mv.below hb5).trans h2)
  have HS6 := hid (HSG.out.moved HM.out h1.below)
  have HD3 := dir_o HR.out HS6.out HQ.out HD.out
  have HG := hid h3
  have H1 := hid h1
  have HSP := hid (spots_walk s.o.A s.o.c s.o.l s.a.A s.a.c s.a.l s.b.A s.b.c s.b.l s.q w6 HS6.out.ok.o HS6.out.ok.a HS6.out.ok.b (part_len HS6.out.io _lo) (part_len HS6.out.ia la) (part_len HS6.out.ib lb))
  clear h1 h2 h3 q0 q1 q2 q3 hx2 hx3 hx4 hb1 hb2 hb3 hb4 hb5 hbd HS1 HS2 HS3 HD1 HD2 HK
  go_wp2_with fail
  refine (HD3.out _ (Below.refl _ _)).mono ?_
  rintro e w7 ⟨rfl, rfl⟩
  go_wp2_with fail
  refine HSP.out.mono ?_
  rintro e w8 ⟨⟨C, u, ss, rfl, hss, hsort, hmem, hl, hfr, hC⟩, hb8⟩
  have HA := hid (desc_all HR.out H1.out (.inl HS6.out.io) (.inl HS6.out.ia) (.inl HS6.out.ib) HS6.out.go HS6.out.ga HS6.out.gb hss hsort hmem hl hfr hC hb8 HALL.out hn (HROOM.out.right HG.out))
  clear hss hsort hmem hl hfr hC hb8
  go_wp2_with fail
  refine HA.out.mono ?_
  rintro e w9 ⟨⟨v2, rfl⟩, S2, k1, k2, k3⟩
  have HBR : HidP (∃ S' : RS, S'.In w R w9 ∧ S.Mv R S' wr w9 ∧ S.Grow S' _ _ _ _) := hid ⟨S2, k1, HM.out.trans k2, HG.out.trans k3⟩
  clear k1 k2 k3
  go_wp2_with fail
  go_end0
  exact ⟨⟨_, rfl⟩, HBR.out⟩

set_option maxRecDepth 100000 in
set_option maxHeartbeats 4000000 in
theorem at_desc2 {o a b : List AIt} {n : Nat} {w : World} {R : Nat} {S : RS} {wr : World} {s : Spot} (hin : S.In w R wr) (hs : SpotG o a b w wr R S s) (hR : Right3 o a b) (_lo : o.length ≤ 1000) (la : a.length ≤ 1000) (lb : b.length ≤ 1000) (hq : s.q.toList ≠ []) (hn : 126 ≤ s.q.toList.length + n) (hAll : AllOk o a b n) (t1 : decide (underA a s.q.toList = underA b s.q.toList) = false) (t2 : decide (underA b s.q.toList = underA o s.q.toList) = false) (t3 : decide (underA a s.q.toList = underA o s.q.toList) = false) (d1 : foundDir a s.q.toList = true) (d2 : foundDir b s.q.toList = true) (d3 : foundDir o s.q.toList = false)
    (hroom : S.Room (resX o a b (ruleA o a b) n s.q.toList) (resX o a b (ruleB o a b) n s.q.toList) (resX o a b (ruleO o a b) n s.q.toList) (resC o a b n s.q.toList)) :
    Calls Tryz.prog 58 #[.pointer (some ⟨R, 0, none⟩), .agg #[.string s.q, .slice s.o.A s.o.l.length s.o.c, .slice s.a.A s.a.l.length s.a.c, .slice s.b.A s.b.l.length s.b.c]] wr
      (Brings w R S wr (resX o a b (ruleA o a b) n s.q.toList) (resX o a b (ruleB o a b) n s.q.toList) (resX o a b (ruleO o a b) n s.q.toList) (resC o a b n s.q.toList)) := by
  have ht : takeA o a b s.q.toList = false := by unfold takeA; rw [t1, t2]; rfl
  have hd2 : bothD a b s.q.toList = true := by unfold bothD; rw [d1, d2]; rfl
  rw [res_desc ht t3 hd2, res_desc ht t3 hd2, res_desc ht t3 hd2, resC_desc ht t3 hd2] at hroom ⊢
  obtain ⟨x, r, hx, hxa⟩ := head_is hR.a hq hs.ia d1
  have htk : Tr wr s.a.A s.a.c [x] := (show Tr wr s.a.A s.a.c (x :: r) from hx ▸ hs.ok.a).take1
  have i1 : (1 : Int) ≤ (s.a.c : Int) := by have := htk.cap; simp at this; omega
  have hne : s.a.l ≠ [] := by rw [hx]; simp
  have hga : ∀ y ∈ [x], GoodR w R y := fun y hy => hs.ga y (by rw [hx]; simp at hy; simp [hy])
  have haw : S.Away R ⟨s.a.A, s.a.c, [x]⟩ := fun _ k hk => hs.wa hne k ((own_len _ _ _ _ _).trans hk)
  have HK : HidP (∀ W, Below wr.heap.size wr W → Calls Tryz.prog 91 #[.pointer (some ⟨R, 0, none⟩), .slice s.a.A 1 s.a.c, .slice s.a.A 1 s.a.c, .slice s.a.A 1 s.a.c] W (Brings w R S W [⟨s.q.toList, true, []⟩] [⟨s.q.toList, true, []⟩] [⟨s.q.toList, true, []⟩] [])) := hid (fun W hb =>
    keepB (hin.later hb) ⟨s.a.A, s.a.c, [x]⟩ ⟨s.a.A, s.a.c, [x]⟩ ⟨s.a.A, s.a.c, [x]⟩ (htk.below hb) (htk.below hb) (htk.below hb) haw haw hga hga hga hroom.left (by simp [hxa]) (by simp [hxa]) (by simp [hxa]) W (Below.refl _ _))
  have HS1 := same_ab hs t1
  have HS2 := same_bo hs t2
  have HS3 := same_ao hs t3
  have HD1 := dir_a hR hs hq d1
  have HD2 := dir_b hR hs hq d2
  have HR := hid hR
  have HIN := hid hin
  have HSG := hid hs
  have HROOM := hid hroom
  have HALL := hid hAll
  have HQ := hid hq
  have HD := hid d3
  have hb1 := thenA (Below.refl _ wr) (.cells #[.string s.q, .slice s.o.A s.o.l.length s.o.c, .slice s.a.A s.a.l.length s.a.c, .slice s.b.A s.b.l.length s.b.c] 92 (0, 0))
  clear hroom hs hin t1 t2 t3 hR ht hd2 hx hxa htk hne hga haw hAll hq d1 d2 d3
  go_enter Tryz.func58, Tryz.ntmps58
  go_wp2_with fail
  refine (HS1.out _ hb1).mono ?_
  rintro e w2 ⟨rfl, hc2⟩
  have hx2 := hc2
  obtain ⟨q0, q1, q2, q3⟩ := boxed hx2
  have hb2 := thenB hb1 hc2
  clear hc2
  go_wp2_with fail
  refine (HS2.out _ hb2).mono ?_
  rintro e w3 ⟨rfl, hc3⟩
  have hx3 := thenB hx2 hc3
  obtain ⟨q0, q1, q2, q3⟩ := boxed hx3
  have hb3 := thenB hb2 hc3
  clear hc3
  go_wp2_with fail
  refine (HS3.out _ hb3).mono ?_
  rintro e w4 ⟨rfl, hc4⟩
  have hx4 := thenB hx3 hc4
  obtain ⟨q0, q1, q2, q3⟩ := boxed hx4
  have hb4 := thenB hb3 hc4
  clear hc4
  go_wp2_with fail
  refine (HD1.out _ hb4).mono ?_
  rintro e w5 ⟨rfl, rfl⟩
  go_wp2_with fail
  refine (HD2.out _ hb4).mono ?_
  rintro e w6 ⟨rfl, rfl⟩
  go_wp2_with fail
  go_still_tail 10, (by kernel_rfl)
  change wpList _ _ _ _ _ w4.drew
  have hbd : Below w4.heap.size w4 w4.drew := ⟨rfl, rfl, rfl, Nat.le_refl _, fun _ _ => rfl⟩
  have hb5 := thenB hb4 hbd
  obtain ⟨q0, q1, q2, q3⟩ := boxed (thenB hx4 hbd)
  generalize w4.drew = w5 at *
  go_wp2_with fail
  refine (HK.out _ hb5).mono ?_
  rintro e w6 ⟨⟨v, rfl⟩, S1, h1, h2, h3⟩
  have z0 := box_kept HIN.out h2 q0
  have z1 := box_kept HIN.out h2 q1
  have z2 := box_kept HIN.out h2 q2
  have z3 := box_kept HIN.out h2 q3
  have HM := hid ((show S.Mv R S wr w5 from Mv.below hb5).trans h2)
  have HS6 := hid (HSG.out.moved HM.out h1.below)
  have HD3 := dir_o HR.out HS6.out HQ.out HD.out
  have HG := hid h3
  have H1 := hid h1
  have HSP := hid (spots_walk none 0 [] s.a.A s.a.c s.a.l s.b.A s.b.c s.b.l s.q w6 (Tr.none w6) HS6.out.ok.a HS6.out.ok.b (Nat.zero_le _) (part_len HS6.out.ia la) (part_len HS6.out.ib lb))
  clear h1 h2 h3 q0 q1 q2 q3 hx2 hx3 hx4 hb1 hb2 hb3 hb4 hb5 hbd HS1 HS2 HS3 HD1 HD2 HK
  go_wp2_with fail
  refine (HD3.out _ (Below.refl _ _)).mono ?_
  rintro e w7 ⟨rfl, rfl⟩
  go_wp2_with fail
  refine HSP.out.mono ?_
  rintro e w8 ⟨⟨C, u, ss, rfl, hss, hsort, hmem, hl, hfr, hC⟩, hb8⟩
  have HA := hid (desc_all HR.out H1.out (.inr ⟨rfl, HD.out, HQ.out⟩) (.inl HS6.out.ia) (.inl HS6.out.ib) (by simp) HS6.out.ga HS6.out.gb hss hsort hmem hl hfr hC hb8 HALL.out hn (HROOM.out.right HG.out))
  clear hss hsort hmem hl hfr hC hb8
  go_wp2_with fail
  refine HA.out.mono ?_
  rintro e w9 ⟨⟨v2, rfl⟩, S2, k1, k2, k3⟩
  have HBR : HidP (∃ S' : RS, S'.In w R w9 ∧ S.Mv R S' wr w9 ∧ S.Grow S' _ _ _ _) := hid ⟨S2, k1, HM.out.trans k2, HG.out.trans k3⟩
  clear k1 k2 k3
  go_wp2_with fail
  go_end0
  exact ⟨⟨_, rfl⟩, HBR.out⟩

end Go.Proofs.YtfbbjfbnkcklgaaGreatDoor

/- at and all, whatever there is -/
namespace Go.Proofs.YtfbbjfbnkcklgaaGreatDoor
open Go.RowKit

theorem at_of_all {o a b : List AIt} (hR : Right3 o a b) (lo : o.length ≤ 1000) (la : a.length ≤ 1000) (lb : b.length ≤ 1000) {n : Nat} (hAll : AllOk o a b n) : AtOk o a b n := by
  intro w R S wr s hin hs hu hn hroom
  have hq := path_ne (hR.pathU hu)
  cases t1 : decide (underA a s.q.toList = underA b s.q.toList)
  · cases t2 : decide (underA b s.q.toList = underA o s.q.toList)
    · cases t3 : decide (underA a s.q.toList = underA o s.q.toList)
      · cases d1 : foundDir a s.q.toList
        · exact at_conf1 hin hs hR hq t1 t2 t3 d1 hroom
        · cases d2 : foundDir b s.q.toList
          · exact at_conf2 hin hs hR hq t1 t2 t3 d1 d2 hroom
          · cases d3 : foundDir o s.q.toList
            · exact at_desc2 hin hs hR lo la lb hq hn hAll t1 t2 t3 d1 d2 d3 hroom
            · exact at_desc1 hin hs hR lo la lb hq hn hAll t1 t2 t3 d1 d2 d3 hroom
      · exact at_first hin hs t1 t2 t3 hroom
    · exact at_take2 hin hs t1 t2 hroom
  · exact at_take1 hin hs t1 hroom
theorem all_any {o a b : List AIt} (hR : Right3 o a b) (lo : o.length ≤ 1000) (la : a.length ≤ 1000) (lb : b.length ≤ 1000) : ∀ n : Nat, AllOk o a b n
  | 0 => all_zero hR
  | n + 1 => all_of_at hR (at_of_all hR lo la lb (all_any hR lo la lb n))

end Go.Proofs.YtfbbjfbnkcklgaaGreatDoor
