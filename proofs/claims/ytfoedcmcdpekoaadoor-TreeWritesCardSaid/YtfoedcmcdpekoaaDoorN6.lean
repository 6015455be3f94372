/- TreeChanges: the walk -/
import Derived.Test.YtfoedcmcdpekoaaDoorN5
namespace Go.Proofs.YtfoedcmcdpekoaaDoor
open Go.RowKit Go.Deep Go.ChangeShapes Go.WideShapes Go.ChangeAt

theorem opsQ_one {w : World} {b : Nat} {e : TypeId} {o : OpI} (h : w.heap[b]? = some (.cells #[.int .i64 o.k, .int .i64 o.n, .string o.p, .string o.q, .slice o.bA o.bs.length o.bc] e (0, 0))) (ho : OpAt w o) : OpsQ w (some ⟨b, 0, none⟩) 1 [o] := by
  refine ⟨Nat.le_refl _, fun i x hx => ?_, fun x hx => by rw [List.mem_singleton.1 hx]; exact ho⟩
  have hi : i < [o].length := (List.getElem?_eq_some_iff.1 hx).1
  obtain rfl : i = 0 := by simpa using hi
  obtain rfl : o = x := by simpa using hx
  exact ⟨b, 0, rfl, (blkCell h 0).trans rfl, (blkCell h 1).trans rfl, (blkCell h 2).trans rfl, (blkCell h 3).trans rfl, (blkCell h 4).trans rfl⟩

theorem open_change {H : Type} {enc : TypeId × Value → H} {W : World} {base : Nat} {held : Bool} {fuel : Nat} {cs : List Value} {x : DataW H × List MemPlace} (h : DataW.trod enc Tryd.prog W base (fun _ => true) held fuel 46 cs = some x) :
    ∃ o : OpI, cs = o.cells ∧ OpAt W o := by
  obtain ⟨y0, y1, y2, y3, y4, n, hl, f0, f1, f2, f3, f4⟩ := trod_struct5 Tryd.underlying46 h
  have hc : Tryd.prog.cellsOf 46 = 5 := by kernel_rfl
  have h3 : Tryd.prog.cellsOf 3 = 1 := by kernel_rfl
  have h9 : Tryd.prog.cellsOf 9 = 1 := by kernel_rfl
  have h28 : Tryd.prog.cellsOf 28 = 1 := by kernel_rfl
  rw [hc] at hl
  obtain ⟨v0, v1, v2, v3, v4, rfl⟩ := list5 hl
  simp only [h3, h9, h28, List.drop_zero, List.drop_succ_cons, List.take_succ_cons, List.take_zero] at f0 f1 f2 f3 f4
  obtain ⟨k, e0, _⟩ := DataW.trod_int Tryd.underlying3 f0
  obtain ⟨m, e1, _⟩ := DataW.trod_int Tryd.underlying3 f1
  obtain ⟨s, e2, _, _⟩ := DataW.trod_string Tryd.underlying9 f2
  obtain ⟨u, e3, _, _⟩ := DataW.trod_string Tryd.underlying9 f3
  obtain ⟨A, c, bs, e4, hs, hr⟩ := open_u8s f4
  cases e0; cases e1; cases e2; cases e3; cases e4
  exact ⟨⟨k, m, s, u, A, c, bs⟩, rfl, hs, hr⟩

theorem open_changes {H : Type} {enc : TypeId × Value → H} {W : World} {base : Nat} {held : Bool} {fuel : Nat} {a : Option Addr} {len cap : Nat} {x : DataW H × List MemPlace}
    (h : DataW.trod enc Tryd.prog W base (fun _ => true) held fuel 48 [.slice a len cap] = some x) : ∃ l : List OpI, l.length = len ∧ OpsQ W a cap l := by
  rcases open_slice Tryd.underlying48 h with ⟨hcs, _⟩ | ⟨b, l, c, m, n, D, Pl, hcs, _, hl, _, hm, _, hx⟩
  · simp only [List.cons.injEq, Value.slice.injEq, and_true] at hcs
    obtain ⟨rfl, rfl, rfl⟩ := hcs
    exact ⟨[], rfl, ⟨Nat.le_refl _, fun i o ho => by simp at ho, by simp⟩⟩
  · simp only [List.cons.injEq, Value.slice.injEq, and_true] at hcs
    obtain ⟨rfl, rfl, rfl⟩ := hcs
    simp only [if_true] at hm
    have hc : Tryd.prog.cellsOf 46 = 5 := by kernel_rfl
    obtain ⟨f, hf⟩ := choose_lt (n := len) (p := fun i (y : OpI) => (∀ j u, y.cells[j]? = some u → W.cell? ((b.add (i * 5)).add j) = some u) ∧ OpAt W y) fun i hi => by
      obtain ⟨cs', h1, h2⟩ := hx i (by omega)
      rw [hc] at h1
      obtain ⟨y, rfl, hs⟩ := open_change h2
      obtain ⟨_, hlen, hcell⟩ := World.cells?_some h1
      refine ⟨y, fun j u hj => ?_, hs⟩
      have hj5 : j < 5 := by
        have := (List.getElem?_eq_some_iff.1 hj).1
        simpa [OpI.cells] using this
      rw [hcell j hj5]
      simpa using hj
    refine ⟨(List.range len).map f, by simp, ⟨by simpa using hl, fun i y hy => ?_, fun y hy => ?_⟩⟩
    · simp only [List.getElem?_map, Option.map_eq_some_iff] at hy
      obtain ⟨i', hi', rfl⟩ := hy
      obtain ⟨hlt, rfl⟩ := List.getElem?_eq_some_iff.1 hi'
      simp only [List.length_range] at hlt
      simp only [List.getElem_range]
      have h0 := (hf 0 (by omega)).1 0 _ rfl
      rw [Nat.zero_mul] at h0
      have hsp : b.spot = none := World.cell?_spot (a := b) (by simpa [Addr.add] using h0)
      obtain ⟨bb, off, sp⟩ := b
      simp only at hsp
      subst hsp
      have k0 := (hf i hlt).1 0 _ rfl
      have k1 := (hf i hlt).1 1 _ rfl
      have k2 := (hf i hlt).1 2 _ rfl
      have k3 := (hf i hlt).1 3 _ rfl
      have k4 := (hf i hlt).1 4 _ rfl
      rw [add_lit', add_lit'] at k0 k1 k2 k3 k4
      exact ⟨bb, off, rfl, k0, k1, k2, k3, k4⟩
    · obtain ⟨i, hi, rfl⟩ := List.mem_map.1 hy
      exact (hf i (by simpa using hi)).2

set_option maxRecDepth 100000 in
set_option maxHeartbeats 8000000 in
theorem treechanges_walk (A : Option Addr) (c : Nat) (l : List Itm) (o : OpI) (w : World) (hT : TrQ w A c l) (hO : OpAt w o) :
    Calls Tryd.prog 5 #[.slice A l.length c, .agg #[.int .i64 o.k, .int .i64 o.n, .string o.p, .string o.q, .slice o.bA o.bs.length o.bc]] w fun e w' => e = .returned (.bool true) ∧ Below w.heap.size w w' := by
  have HA := hid alive_walk
  have hb1 := thenA (Below.refl _ w) (.cells #[.int .i64 o.k, .int .i64 o.n, .string o.p, .string o.q, .slice o.bA o.bs.length o.bc] 46 (0, 0))
  have hbx := heap_alloc_new w (.cells #[.int .i64 o.k, .int .i64 o.n, .string o.p, .string o.q, .slice o.bA o.bs.length o.bc] 46 (0, 0))
  obtain ⟨w1, hw1⟩ : ∃ w1, w.alloc (.cells #[.int .i64 o.k, .int .i64 o.n, .string o.p, .string o.q, .slice o.bA o.bs.length o.bc] 46 (0, 0)) = w1 := ⟨_, rfl⟩
  rw [hw1] at hb1 hbx
  have hTW : TrW w1 A c l := ⟨hT.cap, hT.nil, fun i x hx => by
    obtain ⟨b, off, h0, h1, h2, h3⟩ := hT.cell i x hx
    exact ⟨b, off, h0, cellB hb1 h1, cellB hb1 h2, cellB hb1 h3⟩⟩
  have HL : HidP (Calls Tryd.prog 15 #[.slice A l.length c, .int .i64 62] w1 fun e w' => e = .returned (.bool (lightB l 62)) ∧ w1 = w') := hid (light_walk A c l 62 w1 hTW (by omega))
  cases h1 : lightB l 62
  · rw [h1] at HL
    go_enter Tryd.func5, Tryd.ntmps5
    go_wp2_with fail
    refine HL.out.mono ?_
    rintro e w2 ⟨rfl, rfl⟩
    go_wp2_with fail
    refine (HA.out _).mono ?_
    rintro e w3 ⟨rfl, hb3⟩
    have hb4 := thenB hb1 hb3
    go_wp2_with fail
    go_ret
    exact ⟨rfl, hb4⟩
  rw [h1] at HL
  have HT := hid (hT.tr h1 (by omega))
  have x0 : w1.cell? ⟨w.heap.size, 0, none⟩ = some (.int .i64 o.k) := (blkCell hbx 0).trans rfl
  have x1 : w1.cell? ⟨w.heap.size, 1, none⟩ = some (.int .i64 o.n) := (blkCell hbx 1).trans rfl
  have x2 : w1.cell? ⟨w.heap.size, 2, none⟩ = some (.string o.p) := (blkCell hbx 2).trans rfl
  have x3 : w1.cell? ⟨w.heap.size, 3, none⟩ = some (.string o.q) := (blkCell hbx 3).trans rfl
  have x4 : w1.cell? ⟨w.heap.size, 4, none⟩ = some (.slice o.bA o.bs.length o.bc) := (blkCell hbx 4).trans rfl
  have hb2 := thenA hb1 (.cells #[.int .i64 o.k, .int .i64 o.n, .string o.p, .string o.q, .slice o.bA o.bs.length o.bc] 46 (0, 0))
  have hbr := thenA (Below.refl _ w1) (.cells #[.int .i64 o.k, .int .i64 o.n, .string o.p, .string o.q, .slice o.bA o.bs.length o.bc] 46 (0, 0))
  have HOP : HidP (Calls Tryd.prog 27 #[.slice (some ⟨w1.heap.size, 0, none⟩) 1 1, .int .i64 1] (w1.alloc (.cells #[.int .i64 o.k, .int .i64 o.n, .string o.p, .string o.q, .slice o.bA o.bs.length o.bc] 46 (0, 0))) fun e w' => e = .returned (.bool (opsB [o] 1)) ∧ (w1.alloc (.cells #[.int .i64 o.k, .int .i64 o.n, .string o.p, .string o.q, .slice o.bA o.bs.length o.bc] 46 (0, 0))) = w') :=
    hid (ops_walk (some ⟨w1.heap.size, 0, none⟩) 1 [o] 1 _ (opsQ_one (heap_alloc_new w1 _) ((hO.below hb1).below hbr)) (by omega))
  have hob : opsB [o] 1 = opB o := by simp [opsB]
  rw [hob] at HOP
  clear hob
  cases h2 : opB o
  · rw [h2] at HOP
    go_enter Tryd.func5, Tryd.ntmps5
    go_wp2_with fail
    refine HL.out.mono ?_
    rintro e w2 ⟨rfl, rfl⟩
    go_wp2_with fail
    refine HOP.out.mono ?_
    rintro e w2 ⟨rfl, rfl⟩
    go_wp2_with fail
    refine (HA.out _).mono ?_
    rintro e w3 ⟨rfl, hb3⟩
    have hb4 := thenB hb2 hb3
    go_wp2_with fail
    go_ret
    exact ⟨rfl, hb4⟩
  rw [h2] at HOP
  have hog := (hO.below hb2).good h2
  have y0 := cellB hbr x0
  have y1 := cellB hbr x1
  have y2 := cellB hbr x2
  have y3 := cellB hbr x3
  have y4 := cellB hbr x4
  have HDO := hid (do_walk A c l o _ (HT.out.below hb2) hog)
  have hbx2 := (hbr.block _ (blkLt hbx)).trans hbx
  clear hT hO hTW
  go_enter Tryd.func5, Tryd.ntmps5
  go_wp2_with fail
  refine HL.out.mono ?_
  rintro e w2 ⟨rfl, rfl⟩
  go_wp2_with fail
  refine HOP.out.mono ?_
  rintro e w2 ⟨rfl, rfl⟩
  go_wp2_with fail
  refine HDO.out.mono ?_
  rintro e w3 ⟨⟨B, d, l1, f, rfl, ht1, hl1⟩, hb3⟩
  replace hl1 := hid hl1
  have hbx3 := (hb3.block _ (blkLt hbx2)).trans hbx2
  have hog3 := hog.below hb3
  have hb3' := thenB hb2 hb3
  have z0 : w3.cell? ⟨w.heap.size, 0, none⟩ = some (.int .i64 o.k) := (blkCell hbx3 0).trans rfl
  have z1 : w3.cell? ⟨w.heap.size, 1, none⟩ = some (.int .i64 o.n) := (blkCell hbx3 1).trans rfl
  have z2 : w3.cell? ⟨w.heap.size, 2, none⟩ = some (.string o.p) := (blkCell hbx3 2).trans rfl
  have z3 : w3.cell? ⟨w.heap.size, 3, none⟩ = some (.string o.q) := (blkCell hbx3 3).trans rfl
  have z4 : w3.cell? ⟨w.heap.size, 4, none⟩ = some (.slice o.bA o.bs.length o.bc) := (blkCell hbx3 4).trans rfl
  clear x0 x1 x2 x3 x4 y0 y1 y2 y3 y4 HDO HOP hbx hbx2
  go_wp2_with fail
  refine (refdo_walk A c l o w3 (HT.out.below hb3') hog3).mono ?_
  rintro e w4 ⟨⟨B2, d2, l2, f2, rfl, ht2, hl2⟩, hb4⟩
  obtain ⟨e1, rfl⟩ := Prod.mk.inj (hl1.out.trans hl2.symm)
  have hsl : sameL l1 l2 = true := by unfold sameL; exact decide_eq_true e1
  have hb4' := thenB hb3' hb4
  have HS := refsame B B2 d d2 l1 l2 w4 (ht1.below hb4) ht2
  rw [hsl] at HS
  replace HS := hid HS
  clear e1 hsl hl2 hl1 ht1 ht2 hbx3 z0 z1 z2 z3 z4
  go_wp2_with fail
  refine HS.out.mono ?_
  rintro e w5 ⟨rfl, hb5⟩
  replace hb5 := thenB hb4' hb5
  go_wp2_with fail
  refine (HA.out _).mono ?_
  rintro e w6 ⟨rfl, hb6⟩
  replace hb6 := thenB hb5 hb6
  go_wp2_with fail
  go_ret
  exact ⟨rfl, hb6⟩

end Go.Proofs.YtfoedcmcdpekoaaDoor
