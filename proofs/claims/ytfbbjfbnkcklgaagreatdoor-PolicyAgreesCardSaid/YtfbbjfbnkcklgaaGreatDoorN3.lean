/- the chapter's example: alive -/
import Derived.Test.YtfbbjfbnkcklgaaGreatDoorM3
import Derived.Lib.SlBytesConst
import Derived.Deep.Slices
import Derived.ProofKit
import Derived.OpenShut
namespace Go.Proofs.YtfbbjfbnkcklgaaGreatDoor
open Go.RowKit

theorem toList_lit (a : Array UInt8) : (⟨a⟩ : ByteArray).toList = a.toList := ByteArray.toList_eq _
def exT1 : List AIt := [⟨[97], true, []⟩]
def exT2 : List AIt := [⟨[97], true, []⟩, ⟨[97, 47, 98], false, [120]⟩]
theorem ex_mkdir : mkdirA [] [97] = (exT1, 0) := by decide
theorem ex_write : writeA exT1 [97, 47, 98] [120] = (exT2, 0) := by decide
theorem ex_find : findA exT2 [97, 47, 98] = some ⟨[97, 47, 98], false, [120]⟩ := by decide
theorem ex_under : (underA exT2 [97]).length = 2 := by decide
theorem ex_right : rightA exT2 = true := by decide

end Go.Proofs.YtfbbjfbnkcklgaaGreatDoor

/- TreePaths: the walk -/
namespace Go.Proofs.YtfbbjfbnkcklgaaGreatDoor
open Go.RowKit

end Go.Proofs.YtfbbjfbnkcklgaaGreatDoor

/- items that came in: what is read of them; Light -/
namespace Go.Proofs.YtfbbjfbnkcklgaaGreatDoor
open Go.RowKit Go.Deep Go.ChangeShapes Go.WideShapes Go.ChangeAt

instance : Inhabited Itm := ⟨⟨ByteArray.empty, false, none, 0, []⟩⟩

/-- the bytes that an item leads to, of whatever number -/
structure BytesAt (w : World) (x : Itm) : Prop where
  src : Src w 1 (.slice x.dA x.bs.length x.dc) (nums x.bs)
  rng : ∀ b ∈ x.bs, 0 ≤ b ∧ b < 256
/-- a slice of items as it came in -/
structure TrQ (w : World) (A : Option Addr) (c : Nat) (l : List Itm) : Prop extends TrW w A c l where
  at_ : ∀ x ∈ l, BytesAt w x

theorem open_u8s {H : Type} {enc : TypeId × Value → H} {W : World} {base : Nat} {held : Bool} {fuel : Nat} {cs : List Value} {x : DataW H × List MemPlace} (h : DataW.trod enc Tryz.prog W base (fun _ => true) held fuel 40 cs = some x) :
    ∃ (A : Option Addr) (c : Nat) (bs : List Int), cs = [.slice A bs.length c] ∧ Src W 1 (.slice A bs.length c) (nums bs) ∧ ∀ b ∈ bs, 0 ≤ b ∧ b < 256 := by
  rcases open_ints Tryz.underlying40 Tryz.underlying5 (by kernel_rfl) h with ⟨rfl, _⟩ | ⟨a, len, cap, zs, rfl, _, hl, hm, hz, _, hc, hwf⟩
  · exact ⟨none, 0, [], rfl, (Row.nil W 5 1).src, by simp⟩
  · simp only [if_true] at hz
    have hlen : (zs.take len).length = len := by rw [List.length_take]; omega
    refine ⟨some a, cap, zs.take len, by rw [hlen], ⟨some a, len, cap, by rw [hlen], by rw [nums_length, hlen]; omega, hl, (fun h => nomatch h), fun j u hj => ⟨a, rfl, ?_⟩⟩, fun b hb => ?_⟩
    · have hjl : j < len := by
        have := (List.getElem?_eq_some_iff.1 hj).1
        rw [nums_length, hlen] at this; exact this
      rw [hc j (by omega)]
      simp only [nums, List.getElem?_map, Option.map_eq_some_iff] at hj
      obtain ⟨p, hp, rfl⟩ := hj
      rw [List.getElem?_take, if_pos hjl] at hp
      simp [List.getD, hp]
    · have := bounds_u8 (hwf b (List.mem_of_mem_take hb))
      omega

theorem list3 {α : Type} {l : List α} (h : l.length = 3) : ∃ a b c, l = [a, b, c] := by
  match l, h with
  | [a, b, c], _ => exact ⟨a, b, c, rfl⟩

theorem list5 {α : Type} {l : List α} (h : l.length = 5) : ∃ a b c d e, l = [a, b, c, d, e] := by
  match l, h with
  | [a, b, c, d, e], _ => exact ⟨a, b, c, d, e, rfl⟩

theorem trod_struct3 {H : Type} {enc : TypeId × Value → H} {P : Program} {w : World} {base : Nat} {spare : Nat → Bool} {held : Bool} {t : TypeId} {f0 f1 f2 : Field} {fuel : Nat} {cs : List Value} {x : DataW H × List MemPlace} (ht : P.underlying t = some (.struct #[f0, f1, f2])) (h : DataW.trod enc P w base spare held fuel t cs = some x) :
    ∃ y0 y1 y2 n, cs.length = P.cellsOf t ∧ DataW.trod enc P w base spare held n f0.type ((cs.drop f0.offset).take (P.cellsOf f0.type)) = some y0 ∧ DataW.trod enc P w base spare held n f1.type ((cs.drop f1.offset).take (P.cellsOf f1.type)) = some y1 ∧ DataW.trod enc P w base spare held n f2.type ((cs.drop f2.offset).take (P.cellsOf f2.type)) = some y2 := by
  obtain ⟨xs, n, _, _, hl, hlen, hf⟩ := DataW.trod_struct ht h
  match xs, hlen with
  | [y0, y1, y2], _ => exact ⟨y0, y1, y2, n, hl, by simpa using hf 0 f0 rfl, by simpa using hf 1 f1 rfl, by simpa using hf 2 f2 rfl⟩

theorem trod_struct5 {H : Type} {enc : TypeId × Value → H} {P : Program} {w : World} {base : Nat} {spare : Nat → Bool} {held : Bool} {t : TypeId} {f0 f1 f2 f3 f4 : Field} {fuel : Nat} {cs : List Value} {x : DataW H × List MemPlace} (ht : P.underlying t = some (.struct #[f0, f1, f2, f3, f4])) (h : DataW.trod enc P w base spare held fuel t cs = some x) :
    ∃ y0 y1 y2 y3 y4 n, cs.length = P.cellsOf t ∧ DataW.trod enc P w base spare held n f0.type ((cs.drop f0.offset).take (P.cellsOf f0.type)) = some y0 ∧ DataW.trod enc P w base spare held n f1.type ((cs.drop f1.offset).take (P.cellsOf f1.type)) = some y1 ∧ DataW.trod enc P w base spare held n f2.type ((cs.drop f2.offset).take (P.cellsOf f2.type)) = some y2 ∧ DataW.trod enc P w base spare held n f3.type ((cs.drop f3.offset).take (P.cellsOf f3.type)) = some y3 ∧ DataW.trod enc P w base spare held n f4.type ((cs.drop f4.offset).take (P.cellsOf f4.type)) = some y4 := by
  obtain ⟨xs, n, _, _, hl, hlen, hf⟩ := DataW.trod_struct ht h
  match xs, hlen with
  | [y0, y1, y2, y3, y4], _ => exact ⟨y0, y1, y2, y3, y4, n, hl, by simpa using hf 0 f0 rfl, by simpa using hf 1 f1 rfl, by simpa using hf 2 f2 rfl, by simpa using hf 3 f3 rfl, by simpa using hf 4 f4 rfl⟩

theorem open_item {H : Type} {enc : TypeId × Value → H} {W : World} {base : Nat} {held : Bool} {fuel : Nat} {cs : List Value} {x : DataW H × List MemPlace} (h : DataW.trod enc Tryz.prog W base (fun _ => true) held fuel 42 cs = some x) :
    ∃ y : Itm, cs = y.cells ∧ BytesAt W y := by
  obtain ⟨y0, y1, y2, n, hl, f0, f1, f2⟩ := trod_struct3 Tryz.underlying42 h
  have hc : Tryz.prog.cellsOf 42 = 3 := by kernel_rfl
  have h9 : Tryz.prog.cellsOf 9 = 1 := by kernel_rfl
  have h4 : Tryz.prog.cellsOf 4 = 1 := by kernel_rfl
  have h28 : Tryz.prog.cellsOf 40 = 1 := by kernel_rfl
  rw [hc] at hl
  obtain ⟨v0, v1, v2, rfl⟩ := list3 hl
  simp only [h9, h4, h28, List.drop_zero, List.drop_succ_cons, List.take_succ_cons, List.take_zero] at f0 f1 f2
  obtain ⟨s, e0, _, _⟩ := DataW.trod_string Tryz.underlying9 f0
  obtain ⟨b, e1, _⟩ := DataW.trod_bool Tryz.underlying4 f1
  obtain ⟨A, c, bs, e2, hs, hr⟩ := open_u8s f2
  cases e0; cases e1; cases e2
  exact ⟨⟨s, b, A, c, bs⟩, rfl, hs, hr⟩

theorem open_items {H : Type} {enc : TypeId × Value → H} {W : World} {base : Nat} {held : Bool} {fuel : Nat} {a : Option Addr} {len cap : Nat} {x : DataW H × List MemPlace}
    (h : DataW.trod enc Tryz.prog W base (fun _ => true) held fuel 22 [.slice a len cap] = some x) : ∃ l : List Itm, l.length = len ∧ TrQ W a cap l := by
  rcases open_slice Tryz.underlying22 h with ⟨hcs, _⟩ | ⟨b, l, c, m, n, D, Pl, hcs, _, hl, _, hm, _, hx⟩
  · simp only [List.cons.injEq, Value.slice.injEq, and_true] at hcs
    obtain ⟨rfl, rfl, rfl⟩ := hcs
    exact ⟨[], rfl, ⟨TrW.none W, by simp⟩⟩
  · simp only [List.cons.injEq, Value.slice.injEq, and_true] at hcs
    obtain ⟨rfl, rfl, rfl⟩ := hcs
    simp only [if_true] at hm
    have hc : Tryz.prog.cellsOf 42 = 3 := by kernel_rfl
    obtain ⟨f, hf⟩ := choose_lt (n := len) (p := fun i (y : Itm) => (∀ j u, y.cells[j]? = some u → W.cell? ((b.add (i * 3)).add j) = some u) ∧ BytesAt W y) fun i hi => by
      obtain ⟨cs', h1, h2⟩ := hx i (by omega)
      rw [hc] at h1
      obtain ⟨y, rfl, hs⟩ := open_item h2
      obtain ⟨_, hlen, hcell⟩ := World.cells?_some h1
      refine ⟨y, fun j u hj => ?_, hs⟩
      have hj3 : j < 3 := by
        have := (List.getElem?_eq_some_iff.1 hj).1
        simpa [Itm.cells] using this
      rw [hcell j hj3]
      simpa using hj
    refine ⟨(List.range len).map f, by simp, ⟨by simpa using hl, (fun h => nomatch h), fun i y hy => ?_⟩, fun y hy => ?_⟩
    · simp only [List.getElem?_map, Option.map_eq_some_iff] at hy
      obtain ⟨i', hi', rfl⟩ := hy
      obtain ⟨hlt, rfl⟩ := List.getElem?_eq_some_iff.1 hi'
      simp only [List.length_range] at hlt
      simp only [List.getElem_range]
      have h0 := (hf 0 (by omega)).1 0 _ rfl
      rw [Nat.zero_mul] at h0
      have hsp : b.spot = none := World.cell?_spot (a := b) (by simpa [Addr.add] using h0)
      obtain ⟨bb, off, sp⟩ := b
      simp only at hsp
      subst hsp
      have k0 := (hf i hlt).1 0 _ rfl
      have k1 := (hf i hlt).1 1 _ rfl
      have k2 := (hf i hlt).1 2 _ rfl
      rw [add_lit', add_lit'] at k0 k1 k2
      exact ⟨bb, off, rfl, k0, k1, k2⟩
    · obtain ⟨i, hi, rfl⟩ := List.mem_map.1 hy
      exact (hf i (by simpa using hi)).2

/-- are items few, and short? -/
def lightB (l : List Itm) (n : Nat) : Bool := decide (l.length ≤ n) && l.all fun x => decide (x.p.size ≤ 250) && decide (x.bs.length ≤ 2100)

set_option maxRecDepth 100000 in
set_option maxHeartbeats 1600000 in
theorem light_walk (A : Option Addr) (c : Nat) (l : List Itm) (n : Nat) (w : World) (h : TrW w A c l) (hn : n ≤ 1000) : Calls Tryz.prog 33 #[.slice A l.length c, .int .i64 n] w fun e w' => e = .returned (.bool (lightB l n)) ∧ w = w' := by
  by_cases hl : l.length ≤ n
  case neg =>
    have g1 : decide ((l.length : Int) > (n : Int)) = true := decide_eq_true (by omega)
    have hf : lightB l n = false := by unfold lightB; rw [decide_eq_false hl]; rfl
    rw [hf]
    clear hf
    go_enter Tryz.func33, Tryz.ntmps33
    go_wp2_with fail
    go_ret
    exact ⟨rfl, rfl⟩
  have g1 : decide ((l.length : Int) > (n : Int)) = false := decide_eq_false (by omega)
  have HL := hid hl
  go_enter Tryz.func33, Tryz.ntmps33
  go_wp2_with fail
  go_loopg [5] l.length (fun k i wr => ∃ j : Nat, j ≤ l.length ∧ k = l.length - j ∧ i = .int .i64 j ∧ wr = w ∧ (l.take j).all (fun x => decide (x.p.size ≤ 250) && decide (x.bs.length ≤ 2100)) = true)
  case atStart => exact ⟨0, Nat.zero_le _, rfl, rfl, rfl, by simp⟩
  case round =>
    obtain ⟨j, hj, rfl, rfl, rfl, ht⟩ := hrel
    have HT := hid ht
    clear ht
    by_cases hlt : j < l.length
    · have i0 : (0 : Int) ≤ (j : Int) := by omega
      have i1 : (j : Int) < (l.length : Int) := by omega
      have hno : (decide (l[j].p.size ≤ 250) && decide (l[j].bs.length ≤ 2100)) = false → lightB l n = false := fun hq => by
        unfold lightB
        rw [Bool.and_eq_false_iff]
        exact .inr (List.all_eq_false.2 ⟨l[j], List.getElem_mem hlt, by simp [hq]⟩)
      have HNO := hid hno
      have hyes : (decide (l[j].p.size ≤ 250) && decide (l[j].bs.length ≤ 2100)) = true → (l.take (j + 1)).all (fun x => decide (x.p.size ≤ 250) && decide (x.bs.length ≤ 2100)) = true := fun hq => by
        rw [List.take_add_one, List.all_append, HT.out, List.getElem?_eq_getElem hlt]
        simpa using hq
      have HYES := hid hyes
      obtain ⟨b, off, hA, c0, c1, c2⟩ := h.cell j l[j] (List.getElem?_eq_getElem hlt)
      subst hA
      clear hno hyes h
      obtain ⟨N, hN⟩ : ∃ N, l[j].bs.length = N := ⟨_, rfl⟩
      rw [hN] at c2 HNO HYES
      clear hN
      by_cases h1 : l[j].p.size > 250
      · have g2 : decide ((l[j].p.size : Int) > 250) = true := decide_eq_true (by omega)
        go_wp2_with fail
        go_ret
        exact ⟨by rw [HNO.out (by rw [decide_eq_false (by omega)]; rfl)]; rfl, rfl⟩
      have g2 : decide ((l[j].p.size : Int) > 250) = false := decide_eq_false (by omega)
      by_cases h2 : N > 2100
      · have g3 : decide ((N : Int) > 2100) = true := decide_eq_true (by omega)
        go_wp2_with fail
        go_ret
        exact ⟨by rw [HNO.out (by rw [decide_eq_false (by omega : ¬ N ≤ 2100), Bool.and_false])]; rfl, rfl⟩
      have g3 : decide ((N : Int) > 2100) = false := decide_eq_false (by omega)
      go_wp2_with fail
      go_roundg (l.length - (j + 1))
      case measure => omega
      case rel => exact ⟨j + 1, by omega, rfl, by go_num, rfl, HYES.out (by rw [decide_eq_true (by omega), decide_eq_true (by omega)]; rfl)⟩
    · obtain rfl : j = l.length := by omega
      have ht := HT.out
      rw [List.take_length] at ht
      have hy : lightB l n = true := by unfold lightB; rw [decide_eq_true HL.out, ht]; rfl
      have HY := hid hy
      clear hy ht
      go_wp2_with fail
      go_ret
      exact ⟨by rw [HY.out]; rfl, rfl⟩

/-- what is light is a slice of items -/
theorem TrQ.tr {w : World} {A : Option Addr} {c : Nat} {l : List Itm} {n : Nat} (h : TrQ w A c l) (hl : lightB l n = true) (hn : n ≤ 1000) : Tr w A c l := by
  unfold lightB at hl
  rw [Bool.and_eq_true] at hl
  have h1 := of_decide_eq_true hl.1
  refine ⟨h.toTrW, by omega, fun x hx => ?_⟩
  have h2 := List.all_eq_true.1 hl.2 x hx
  simp only [Bool.and_eq_true, decide_eq_true_eq] at h2
  exact ⟨by omega, by omega, (h.at_ x hx).src, (h.at_ x hx).rng⟩

end Go.Proofs.YtfbbjfbnkcklgaaGreatDoor
