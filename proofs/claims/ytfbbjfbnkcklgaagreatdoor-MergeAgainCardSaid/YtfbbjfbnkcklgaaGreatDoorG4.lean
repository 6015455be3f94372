/- light; the paths that go -/
import Derived.Test.YtfbbjfbnkcklgaaGreatDoorG3
import Derived.Test.YtfbbjfbnkcklgaaGreatDoorG1
namespace Go.Proofs.YtfbbjfbnkcklgaaGreatDoor
open Go.RowKit

theorem TrW.below {w w' : World} {A : Option Addr} {c : Nat} {l : List Itm} (h : TrW w A c l) (hb : Below w.heap.size w w') : TrW w' A c l :=
  ⟨h.cap, h.nil, fun i x hx => by
    obtain ⟨b, off, h0, h1, h2, h3⟩ := h.cell i x hx
    exact ⟨b, off, h0, cellB hb h1, cellB hb h2, cellB hb h3⟩⟩
theorem TrQ.below {w w' : World} {A : Option Addr} {c : Nat} {l : List Itm} (h : TrQ w A c l) (hb : Below w.heap.size w w') : TrQ w' A c l :=
  ⟨h.toTrW.below hb, fun x hx => ⟨(h.at_ x hx).src.below hb, (h.at_ x hx).rng⟩⟩

/-- a tree that a cell holds -/
structure TrI where
  A : Option Addr
  c : Nat
  l : List Itm
instance : Inhabited TrI := ⟨⟨none, 0, []⟩⟩
def TrI.cells (t : TrI) : List Value := [.slice t.A t.l.length t.c]
theorem tri_len (t : TrI) : t.cells.length = 1 := rfl
theorem Recs.ofBlock {α : Type} {f : α → List Value} {m : Nat} (hf : ∀ x, (f x).length = m) {w : World} {b : Nat} {t : TypeId} {cs : Array Value} {l : List α} (h : w.heap[b]? = some (.cells cs t (0, 0))) (hc : cs.toList = l.flatMap f) : Recs f m w (some ⟨b, 0, Option.none⟩) l.length l := by
  refine ⟨Nat.le_refl _, (fun h => by cases h), fun i x hx => ⟨b, 0, rfl, fun k u hu => ?_⟩⟩
  rw [Nat.zero_add, blkCell h, ← Array.getElem?_toList, hc, flat_get hf l i x k hx (by rw [← hf x]; exact (List.getElem?_eq_some_iff.1 hu).1)]
  exact hu

set_option maxRecDepth 100000 in
set_option maxHeartbeats 1600000 in
theorem light22_walk (B : Option Addr) (d : Nat) (ls : List TrI) (w : World) (h : Recs TrI.cells 1 w B d ls) (hn : ls.length ≤ 10) (hq : ∀ t ∈ ls, TrW w t.A t.c t.l) :
    Calls Tryz.prog 9 #[.slice B ls.length d] w fun e w' => e = .returned (.bool (ls.all fun t => lightB t.l 62)) ∧ w = w' := by
  go_enter Tryz.func9, Tryz.ntmps9
  go_wp2_with fail
  go_loopg [3] ls.length (fun k i wr => ∃ j : Nat, j ≤ ls.length ∧ k = ls.length - j ∧ i = .int .i64 j ∧ wr = w ∧ (ls.take j).all (fun t => lightB t.l 62) = true)
  case atStart => exact ⟨0, Nat.zero_le _, rfl, rfl, rfl, rfl⟩
  case round =>
    obtain ⟨j, hj, rfl, rfl, rfl, ht⟩ := hrel
    have HT := hid ht
    clear ht
    by_cases hlt : j < ls.length
    · have i0 : (0 : Int) ≤ (j : Int) := by omega
      have i1 : (j : Int) < (ls.length : Int) := by omega
      obtain ⟨b, off, hA, hc⟩ := h.cell j ls[j] (List.getElem?_eq_getElem hlt)
      have c0 := hc 0 _ rfl
      rw [Nat.mul_one, Nat.add_zero] at c0
      subst hA
      have HL : HidP (Calls Tryz.prog 33 #[.slice ls[j].A ls[j].l.length ls[j].c, .int .i64 62] wr fun e w' => e = .returned (.bool (lightB ls[j].l 62)) ∧ wr = w') := hid (light_walk ls[j].A ls[j].c ls[j].l 62 wr (hq _ (List.getElem_mem hlt)) (by omega))
      clear h hc hq
      cases hv : lightB ls[j].l 62
      · rw [hv] at HL
        have HN : HidP ((ls.all fun t => lightB t.l 62) = false) := hid (List.all_eq_false.2 ⟨ls[j], List.getElem_mem hlt, by simp [hv]⟩)
        clear hv
        go_wp2_with fail
        refine HL.out.mono ?_
        rintro e w1 ⟨rfl, rfl⟩
        go_wp2_with fail
        go_ret
        exact ⟨by rw [HN.out]; rfl, rfl⟩
      · rw [hv] at HL
        have HN : HidP ((ls.take (j + 1)).all (fun t => lightB t.l 62) = true) := hid (by rw [List.take_add_one, List.all_append, HT.out, List.getElem?_eq_getElem hlt]; simpa using hv)
        clear hv
        go_wp2_with fail
        refine HL.out.mono ?_
        rintro e w1 ⟨rfl, rfl⟩
        go_wp2_with fail
        go_roundg (ls.length - (j + 1))
        case measure => omega
        case rel => exact ⟨j + 1, by omega, rfl, by go_num, rfl, HN.out⟩
    · obtain rfl : j = ls.length := by omega
      have ht := HT.out
      rw [List.take_length] at ht
      have HN := hid ht
      clear ht
      go_wp2_with fail
      go_ret
      exact ⟨by rw [HN.out]; rfl, rfl⟩

/-- are steps few, and short? -/
def stB (s : StI) : Bool := decide (s.p.size ≤ 250) && decide (s.bs.length ≤ 2100)
def stsB (l : List StI) (n : Nat) : Bool := decide (l.length ≤ n) && l.all stB

theorem split_len (l : List UInt8) : (splitL l).1.length ≤ l.length := by
  unfold splitL
  split
  · exact List.length_take_le' _ _
  · exact Nat.zero_le _
theorem Row.neSet {w : World} {e : TypeId} {sz : Nat} {v : Value} {xs : List Value} (h : Row w e sz v xs) {b : Nat} {ks : List ByteArray} (hs : IsSet w b ks) : v.ownBlock ≠ some b := by
  obtain ⟨es, clock, hb, _⟩ := hs
  obtain ⟨A, n, c, rfl, _, _, _, h⟩ := h
  rcases h with ⟨rfl, _⟩ | ⟨b', off, cs, rfl, hb', _⟩
  · simp [Value.ownBlock]
  · intro e
    simp only [Value.ownBlock, Option.some.injEq] at e
    subst e
    rw [hb] at hb'
    cases hb'

theorem goneS_in {T : List AIt} {s : List (List UInt8) × List (List UInt8)} {x : AIt} (h : (splitL x.p).1 ∈ s.1) : goneF T s x = (s.1 ++ [x.p], s.2) := by unfold goneF; rw [if_pos h]
theorem goneS_top {T : List AIt} {s : List (List UInt8) × List (List UInt8)} {x : AIt} (h : ¬ (splitL x.p).1 ∈ s.1) (hg : goesB T x = true) : goneF T s x = (s.1 ++ [x.p], s.2 ++ [x.p]) := by unfold goneF; rw [if_neg h, if_pos hg]
theorem goneS_no {T : List AIt} {s : List (List UInt8) × List (List UInt8)} {x : AIt} (h : ¬ (splitL x.p).1 ∈ s.1) (hg : goesB T x = false) : goneF T s x = s := by unfold goneF; rw [if_neg h, if_neg (by simp [hg])]

end Go.Proofs.YtfbbjfbnkcklgaaGreatDoor
