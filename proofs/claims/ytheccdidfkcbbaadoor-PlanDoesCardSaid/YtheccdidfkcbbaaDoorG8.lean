/- the chapter's example: alive; PlanSmall: the walk -/
import Derived.Test.YtheccdidfkcbbaaDoorG7
import Derived.Test.YtheccdidfkcbbaaDoorN4
namespace Go.Proofs.YtheccdidfkcbbaaDoor
open Go.RowKit

theorem make_walk (A : Option Addr) (c : Nat) (l : List Itm) (B : Option Addr) (d : Nat) (m : List Itm) (w : World) (h : Tr w A c l) (k : Tr w B d m) :
    Calls Tryd.prog 8 #[.slice A l.length c, .slice B m.length d] w fun e w' => (∃ (C : Option Addr) (u : Nat) (L : List StI) (f : Int), e = .returned (.tuple #[.slice C L.length u, .int .i64 f]) ∧ Sts w' C u L ∧ (L.map StI.abs, f) = makeA (l.map Itm.abs) (m.map Itm.abs)) ∧ Below w.heap.size w w' := by
  by_cases hn : rightA (l.map Itm.abs) = false ∨ rightA (m.map Itm.abs) = false
  · refine (make_no A c l B d m w h k hn).mono ?_
    rintro e w' ⟨rfl, hb⟩
    exact ⟨⟨none, 0, [], 1, rfl, Sts.none _, by unfold makeA; rw [if_pos hn]; rfl⟩, hb⟩
  · have h1 : rightA (l.map Itm.abs) = true := by cases h1 : rightA (l.map Itm.abs) <;> simp_all
    have h2 : rightA (m.map Itm.abs) = true := by cases h2 : rightA (m.map Itm.abs) <;> simp_all
    refine (make_yes A c l B d m w h k h1 h2).mono ?_
    rintro e w' ⟨⟨C, u, L, rfl, hst, hL⟩, hb⟩
    refine ⟨⟨C, u, L, 0, rfl, hst, ?_⟩, hb⟩
    rw [hL]
    unfold makeA
    rw [if_neg hn]
theorem makeA_zero {F T : List AIt} (h : (makeA F T).2 = 0) : rightA F = true ∧ rightA T = true := by
  unfold makeA at h
  split at h
  · cases h
  · rename_i hn
    constructor
    · cases h1 : rightA F <;> simp_all
    · cases h1 : rightA T <;> simp_all

theorem Tr.one {w : World} {b : Nat} {e : TypeId} (x : Itm) (h : w.heap[b]? = some (.cells #[.string x.p, .bool x.d, .slice x.dA x.bs.length x.dc] e (0, 0))) (hg : Good w x) : Tr w (some ⟨b, 0, Option.none⟩) 1 [x] := by
  refine ⟨⟨Nat.le_refl _, (fun h => by cases h), fun i y hy => ?_⟩, by simp, fun y hy => by rw [List.mem_singleton.1 hy]; exact hg⟩
  have hi : i < [x].length := (List.getElem?_eq_some_iff.1 hy).1
  obtain rfl : i = 0 := by simpa using hi
  obtain rfl : x = y := by simpa using hy
  exact ⟨b, 0, rfl, (blkCell h 0).trans rfl, (blkCell h 1).trans rfl, (blkCell h 2).trans rfl⟩

theorem ex_make : makeA [⟨[97], false, []⟩] [⟨[97], true, []⟩] = ([⟨1, [97], []⟩, ⟨2, [97], []⟩], 0) := by decide
theorem bytes_of {p : ByteArray} {a : Array UInt8} (h : p.toList = a.toList) : p = ⟨a⟩ := toList_inj (by rw [h, toList_lit])

set_option maxRecDepth 100000 in
set_option maxHeartbeats 4000000 in
theorem alive24_walk (w : World) : Calls Tryd.prog 7 #[] w fun e w' => e = .returned (.bool true) ∧ Below w.heap.size w w' := by
  have hb0 := thenA (thenA (Below.refl _ w) (.cells #[.string ⟨#[97]⟩, .bool false, .slice none 0 0] 31 (0, 0))) (.cells #[.string ⟨#[97]⟩, .bool true, .slice none 0 0] 31 (0, 0))
  have g0 : ∀ W d, Good W ⟨⟨#[97]⟩, d, none, 0, []⟩ := fun W d => ⟨by show (1 : Nat) ≤ _; omega, by simp, (Row.nil W 5 1).src, by simp⟩
  have t1 := (Tr.one (e := 31) ⟨⟨#[97]⟩, false, none, 0, []⟩ (heap_alloc_new w _) (g0 _ false)).below (thenA (Below.refl _ _) (.cells #[.string ⟨#[97]⟩, .bool true, .slice none 0 0] 31 (0, 0)))
  have t2 := Tr.one (e := 31) ⟨⟨#[97]⟩, true, none, 0, []⟩ (heap_alloc_new (w.alloc (.cells #[.string ⟨#[97]⟩, .bool false, .slice none 0 0] 31 (0, 0))) _) (g0 _ true)
  rw [World.size_alloc] at t2
  have HM : HidP (Calls Tryd.prog 8 #[.slice (some ⟨w.heap.size, 0, none⟩) 1 1, .slice (some ⟨w.heap.size + 1, 0, none⟩) 1 1] ((w.alloc (.cells #[.string ⟨#[97]⟩, .bool false, .slice none 0 0] 31 (0, 0))).alloc (.cells #[.string ⟨#[97]⟩, .bool true, .slice none 0 0] 31 (0, 0))) fun e w' =>
      (∃ (C : Option Addr) (u : Nat) (L : List StI) (f : Int), e = .returned (.tuple #[.slice C L.length u, .int .i64 f]) ∧ Sts w' C u L ∧ (L.map StI.abs, f) = makeA ([(⟨⟨#[97]⟩, false, none, 0, []⟩ : Itm)].map Itm.abs) ([(⟨⟨#[97]⟩, true, none, 0, []⟩ : Itm)].map Itm.abs)) ∧ Below ((w.alloc (.cells #[.string ⟨#[97]⟩, .bool false, .slice none 0 0] 31 (0, 0))).alloc (.cells #[.string ⟨#[97]⟩, .bool true, .slice none 0 0] 31 (0, 0))).heap.size ((w.alloc (.cells #[.string ⟨#[97]⟩, .bool false, .slice none 0 0] 31 (0, 0))).alloc (.cells #[.string ⟨#[97]⟩, .bool true, .slice none 0 0] 31 (0, 0))) w') := hid (make_walk _ _ _ _ _ _ _ t1 t2)
  clear t1 t2 g0
  go_enter Tryd.func7, Tryd.ntmps7
  go_wp2_with fail
  refine HM.out.mono ?_
  rintro e w1 ⟨⟨C, u, L, f, rfl, hst, hL⟩, hb1⟩
  have hL' : (L.map StI.abs, f) = ([⟨1, [97], []⟩, ⟨2, [97], []⟩], 0) := by
    rw [hL, ← ex_make]
    simp only [List.map_cons, List.map_nil, Itm.abs, toList_lit]
  obtain ⟨e1, rfl⟩ := Prod.mk.inj hL'
  have HL := hid e1
  clear hL hL' e1
  have hb2 := thenB hb0 hb1
  have HLN := hid (lines_walk C u L w1 hst)
  clear hst
  go_wp2_with fail
  refine HLN.out.mono ?_
  rintro e w2 ⟨⟨D, v, ps, rfl, hrow, hps⟩, hb3⟩
  rw [HL.out] at hps
  obtain ⟨p0, p1, rfl⟩ : ∃ p0 p1, ps = [p0, p1] := by
    have h2 := congrArg List.length hps
    simp at h2
    match ps, h2 with
    | [a, b], _ => exact ⟨a, b, rfl⟩
  have hps' := hps
  simp only [List.map_cons, List.map_nil, List.cons.injEq, and_true] at hps'
  obtain ⟨q0, q1⟩ := hps'
  have s0 : (p0.toList == [45, 32, 97]) = true := by rw [q0]; decide
  have s1 : (p1.toList == [100, 32, 97]) = true := by rw [q1]; decide
  obtain ⟨a0, hA, c0⟩ := hrow.at1 (i := 0) (u := .string p0) rfl
  obtain ⟨a1, hA', c1⟩ := hrow.at1 (i := 1) (u := .string p1) rfl
  rw [hA] at hA'
  cases hA'
  have hsp : a0.spot = none := by
    obtain ⟨A', n', c', hv, _, _, _, hh⟩ := hrow
    cases hv
    rcases hh with ⟨h, _⟩ | ⟨b, off, cs, h, _⟩
    · rw [hA] at h; cases h
    · rw [hA] at h; cases h; rfl
  obtain ⟨b, off, sp⟩ := a0
  simp only at hsp
  subst hsp
  subst hA
  rw [add_lit'] at c0 c1
  rw [Nat.add_zero] at c0
  have hb4 := thenB hb2 hb3
  clear hps q0 q1 hrow HL
  simp only [List.length_cons, List.length_nil, Nat.zero_add, Nat.reduceAdd]
  go_wp2_with fail
  go_ret
  exact ⟨rfl, hb4⟩

end Go.Proofs.YtheccdidfkcbbaaDoor
