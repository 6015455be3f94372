/- (Tree).put -/
import Derived.Test.YtfoedcmcdpekoaaDoorL5
namespace Go.Proofs.YtfoedcmcdpekoaaDoor
open Go.RowKit

set_option maxRecDepth 100000 in
set_option maxHeartbeats 4000000 in
theorem insert_walk (B : Option Addr) (d : Nat) (l : List Itm) (i : Nat) (x : Itm) (vb : Nat) (w : World) (hi : i ≤ l.length)
    (hrow : Row w 30 3 (.slice B l.length d) (l.flatMap Itm.cells)) (hlen : l.length ≤ 900000) (hne : ∀ k, (Value.slice B l.length d).ownBlock = some k → k ≠ vb)
    (hv : w.heap[vb]? = some (.cells #[.string x.p, .bool x.d, .slice x.dA x.bs.length x.dc] 30 (0, 0))) :
    Calls Tryd.prog 69 #[.slice B l.length d, .int .i64 i, .slice (some ⟨vb, 0, none⟩) 1 1] w fun e w' => (∃ B' d', e = .returned (.slice B' (l.length + 1) d') ∧ Row w' 30 3 (.slice B' (l.length + 1) d') ((l.take i ++ x :: l.drop i).flatMap Itm.cells)) ∧ w.grownBy w' (Value.slice B l.length d).ownBlock := by
  rcases Nat.lt_or_ge i l.length with hlt | hge
  · obtain ⟨b, off, rfl, _⟩ := hrow.at3 hlt
    rcases Nat.lt_or_ge d (l.length + 1) with hr | hr
    · refine (insert_grow b off d l i x vb w hlt hr hrow hlen hv).mono ?_
      rintro e w' ⟨⟨G, rfl, h2⟩, h3⟩
      exact ⟨⟨_, _, rfl, h2⟩, ⟨h3.os, h3.tape, h3.output, h3.size, fun k hk _ => h3.block k hk (by simp)⟩⟩
    · refine (insert_room b off d l i x vb w hlt hr hrow hlen (fun e => hne b rfl e.symm) hv).mono ?_
      rintro e w' ⟨⟨rfl, h2⟩, h3⟩
      exact ⟨⟨_, _, rfl, h2⟩, h3⟩
  · obtain rfl : i = l.length := by omega
    refine (insert_end B d l x vb w hrow hlen hv).mono ?_
    rintro e w' ⟨⟨B', d', rfl, h2, _⟩, h3⟩
    refine ⟨⟨_, _, rfl, ?_⟩, h3⟩
    rw [List.take_length, List.drop_length]
    exact h2

set_option maxRecDepth 100000 in
set_option maxHeartbeats 4000000 in
theorem put_walk (A : Option Addr) (c : Nat) (l : List Itm) (x : Itm) (w : World) (h : Tr w A c l) (hx : Good w x) (hlen : l.length ≤ 900000) (hs : sortedA (l.map Itm.abs)) :
    Calls Tryd.prog 55 #[.slice A l.length c, .agg #[.string x.p, .bool x.d, .slice x.dA x.bs.length x.dc]] w fun e w' => (∃ B d l', e = .returned (.slice B l'.length d) ∧ Tr w' B d l' ∧ l'.map Itm.abs = putA (l.map Itm.abs) x.abs) ∧ Below w.heap.size w w' := by
  have hsi := sortedI_of hs
  have HT := hid h
  clear h hs
  go_enter Tryd.func55, Tryd.ntmps55
  go_wp2_with fail
  have hbx := heap_alloc_new w (.cells #[.string x.p, .bool x.d, .slice x.dA x.bs.length x.dc] 30 (0, 0))
  have hb1 : Below w.heap.size w (w.alloc (.cells #[.string x.p, .bool x.d, .slice x.dA x.bs.length x.dc] 30 (0, 0))) := (Below.refl _ w).alloc (Nat.le_refl _) _
  have hs0 : (w.alloc (.cells #[.string x.p, .bool x.d, .slice x.dA x.bs.length x.dc] 30 (0, 0))).heap.size = w.heap.size + 1 := by simp
  generalize w.alloc (.cells #[.string x.p, .bool x.d, .slice x.dA x.bs.length x.dc] 30 (0, 0)) = w1 at *
  refine (place_walk A c l x.p w1 (HT.out.below hb1)).mono ?_
  rintro e w2 ⟨⟨i, rfl, hp⟩, hb2⟩
  have hbx2 := (hb2.block _ (by omega)).trans hbx
  have hb2' := thenB hb1 hb2
  have hil := hp.le
  have HP := hid hp
  clear hp
  go_wp2_with fail
  refine (own_walk A c l w2 (HT.out.below hb2')).mono ?_
  rintro e w3 ⟨⟨B, d, l', rfl, hrow, hfr, hma, hgo⟩, hb3⟩
  have hbx3 := (hb3.block _ (by have := hb2.size; omega)).trans hbx2
  have hb3' := thenB hb2' hb3
  have hll : l'.length = l.length := by have := congrArg List.length hma; simpa using this
  have hil' : i ≤ l'.length := by omega
  have hlen2 : l'.length ≤ 900000 := by omega
  replace hll := hid hll
  have hsz3 := hb3.size
  have hsz2 := hb2.size
  have x0 : w3.cell? ⟨w.heap.size, 0, none⟩ = some (.string x.p) := (blkCell hbx3 0).trans rfl
  have x1 : w3.cell? ⟨w.heap.size, 1, none⟩ = some (.bool x.d) := (blkCell hbx3 1).trans rfl
  have x2 : w3.cell? ⟨w.heap.size, 2, none⟩ = some (.slice x.dA x.bs.length x.dc) := (blkCell hbx3 2).trans rfl
  have HMA := hid hma
  have HGO := hid hgo
  have HROW := hid hrow
  clear hma hgo
  cases hpb : placeB l x.p.toList i
  · have HPUT := hid (put_not (x := x.abs) HP.out hsi hpb)
    have HI := hid (insert_walk B d l' i x w3.heap.size (w3.alloc (.cells #[.string x.p, .bool x.d, .slice x.dA x.bs.length x.dc] 30 (0, 0))) hil' (hrow.below (thenA (Below.refl _ w3) _)) hlen2 (fun k hk => by have := hrow.lt k hk; omega) (heap_alloc_new _ _))
    clear hrow
    go_wp2_with fail
    refine HI.out.mono ?_
    rintro e w4 ⟨⟨B', d', rfl, hrow4⟩, hg4⟩
    have hb4 : Below w.heap.size w w4 := Below.grownNew (thenA hb3' _) hg4 (by simp; omega) (fun k hk => by have := hfr k hk; omega)
    have hlen' : (l'.take i ++ x :: l'.drop i).length = l'.length + 1 := by simp; omega
    have ht := (Tr.ofRow (n := l'.length + 1) hrow4 (fun y hy => by
      rcases List.mem_append.1 hy with hy | hy
      · obtain ⟨h1, h2⟩ := HGO.out y (List.mem_of_mem_take hy)
        exact (h1.below (thenA (Below.refl _ w3) _)).grown hg4 (fun k hk => (h2 k hk).2)
      · rcases List.mem_cons.1 hy with rfl | hy
        · exact hx.below hb4
        · obtain ⟨h1, h2⟩ := HGO.out y (List.mem_of_mem_drop hy)
          exact (h1.below (thenA (Below.refl _ w3) _)).grown hg4 (fun k hk => (h2 k hk).2)) (by omega)).2
    have HTT := hid ht
    have HLN := hid hlen'
    clear ht hrow4 hlen'
    go_wp2_with fail
    go_ret
    refine ⟨⟨B', d', l'.take i ++ x :: l'.drop i, by rw [HLN.out]; rfl, HTT.out, ?_⟩, hb4⟩
    rw [List.map_append, List.map_cons, List.map_take, List.map_drop, HMA.out]
    exact HPUT.out
  · have HPUT := hid (put_is (x := x.abs) HP.out hsi hpb)
    obtain ⟨hi, _⟩ := placeB_lt hpb
    have hi' : i < l'.length := by rw [hll.out]; exact hi
    obtain ⟨b, off, hB, c0, c1, c2, hfz⟩ := hrow.at3 hi'
    have hbb : w2.heap.size ≤ b := hfr b (by rw [hB]; rfl)
    subst hB
    have k0 : (0 : Int) ≤ (i : Int) := by omega
    have k1 : (i : Int) < (l'.length : Int) := by omega
    have f0 := hfz (off + i * 3)
    have f1 := hfz (off + i * 3 + 1)
    have f2 := hfz (off + i * 3 + 2)
    have hr0 := ((hrow.set (i * 3) (.string x.p)).set (i * 3 + 1) (.bool x.d)).set (i * 3 + 2) (.slice x.dA x.bs.length x.dc)
    rw [cells_set3 hi' x, show off + (i * 3 + 1) = off + i * 3 + 1 by omega, show off + (i * 3 + 2) = off + i * 3 + 2 by omega] at hr0
    have hbW := ((hb3'.setCell (p := ⟨b, off + i * 3, none⟩) (by show w.heap.size ≤ b; omega) (.string x.p)).setCell (p := ⟨b, off + i * 3 + 1, none⟩) (by show w.heap.size ≤ b; omega) (.bool x.d)).setCell (p := ⟨b, off + i * 3 + 2, none⟩) (by show w.heap.size ≤ b; omega) (.slice x.dA x.bs.length x.dc)
    have HR0 := hid hr0
    have HBW := hid hbW
    have hgood : HidP (∀ y ∈ l'.set i x, Good (((w3.setCell ⟨b, off + i * 3, none⟩ (.string x.p)).setCell ⟨b, off + i * 3 + 1, none⟩ (.bool x.d)).setCell ⟨b, off + i * 3 + 2, none⟩ (.slice x.dA x.bs.length x.dc)) y) := hid (fun y hy => by
      rcases List.mem_or_eq_of_mem_set hy with hy | rfl
      · obtain ⟨h1, h2⟩ := HGO.out y hy
        have hne : ∀ k, (Value.slice y.dA y.bs.length y.dc).ownBlock = some k → k ≠ b := fun k hk e => (h2 k hk).2 (by rw [e]; rfl)
        exact ((h1.set (p := ⟨b, off + i * 3, none⟩) hne _).set (p := ⟨b, off + i * 3 + 1, none⟩) hne _).set (p := ⟨b, off + i * 3 + 2, none⟩) hne _
      · exact hx.below hbW)
    have hlen' : HidP ((l'.set i x).length = l'.length) := hid (List.length_set)
    clear hrow hr0 hbW
    go_wp2_with fail
    go_ret
    obtain ⟨_, ht⟩ := Tr.ofRow (n := l'.length) HR0.out hgood.out (by rw [hlen'.out]; omega)
    refine ⟨⟨some ⟨b, off, none⟩, d, l'.set i x, by rw [hlen'.out]; rfl, ht, ?_⟩, HBW.out⟩
    rw [List.map_set, HMA.out]
    exact HPUT.out

end Go.Proofs.YtfoedcmcdpekoaaDoor
