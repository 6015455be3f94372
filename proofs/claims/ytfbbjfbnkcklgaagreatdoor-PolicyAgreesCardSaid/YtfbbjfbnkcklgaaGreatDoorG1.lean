/- a set of strings: a map of Booleans that the call makes -/
import Derived.Test.YtfbbjfbnkcklgaaGreatDoorU
import Derived.Test.YtfbbjfbnkcklgaaGreatDoorChecked
import Derived.StringKeys
import Derived.Maps.Own
import Derived.Maps.OwnOps
import Derived.Maps.Views
import Derived.Test.YtfbbjfbnkcklgaaGreatDoorQ1
import Derived.Test.YtfbbjfbnkcklgaaGreatDoorB5
import Derived.Test.YtfbbjfbnkcklgaaGreatDoorQ2
import Derived.Laws.Concat
namespace Go.Proofs.YtfbbjfbnkcklgaaGreatDoor
open Go.Maps Go.RowKit Go.WideMaps

def keysOf (ks : List ByteArray) : List Lit := ks.map fun s => .string s.data.toList
noncomputable def setD (ks : List ByteArray) : DataW Unit := setOf (.lit (.bool true)) (keysOf ks)
/-- block b is a map whose keys are these, each with true -/
def IsSet (w : World) (b : Nat) (ks : List ByteArray) : Prop := w.ownsMap Tryz.prog 9 (plainElem (H := Unit) Tryz.prog 4) b ks.length (setD ks)

theorem atKey_fold (k : Lit) (hk : WideAt.IsKeyLit k) (u z : DataW Unit) : ∀ (xs : List Lit) (D : DataW Unit), IsMap D → (k ∈ xs → (xs.foldl (fun m x => m.put x u) D).atKey k z = u) ∧ (k ∉ xs → (xs.foldl (fun m x => m.put x u) D).atKey k z = D.atKey k z)
  | [], D, _ => ⟨fun h => (List.not_mem_nil h).elim, fun _ => rfl⟩
  | x :: r, D, hD => by
    obtain ⟨h1, h2⟩ := atKey_fold k hk u z r (D.put x u) (hD.put x u)
    rw [List.foldl_cons]
    by_cases hr : k ∈ r
    · exact ⟨fun _ => h1 hr, fun h => absurd (List.mem_cons_of_mem _ hr) h⟩
    · rw [h2 hr]
      constructor
      · intro h
        rcases List.mem_cons.1 h with e | h
        · subst e
          exact atKey_put_same hD hk u z
        · exact absurd h hr
      · intro h
        exact atKey_put_other (fun e => h (by rw [e]; simp)) u z
theorem lit_bytes {a b : ByteArray} : (Lit.string a.data.toList = .string b.data.toList) ↔ a = b := by
  constructor
  · intro h
    obtain ⟨⟨x⟩⟩ := a
    obtain ⟨⟨y⟩⟩ := b
    simpa using h
  · rintro rfl; rfl
theorem toList_inj {a b : ByteArray} (h : a.toList = b.toList) : a = b := by
  rw [ByteArray.toList_eq, ByteArray.toList_eq] at h
  exact lit_bytes.1 (by rw [h])
theorem atKey_set (ks : List ByteArray) (s : ByteArray) : (setD ks).atKey (.string s.data.toList) (.lit (.bool false)) = .lit (.bool (decide (s.toList ∈ ks.map (·.toList)))) := by
  unfold setD setOf
  obtain ⟨h1, h2⟩ := atKey_fold (.string s.data.toList) (show WideAt.IsKeyLit (.string s.data.toList) from trivial) (.lit (.bool true)) (.lit (.bool false)) (keysOf ks) (.map []) isMap_empty
  have : (Lit.string s.data.toList ∈ keysOf ks) ↔ s.toList ∈ ks.map (·.toList) := by
    unfold keysOf
    rw [List.mem_map, List.mem_map]
    constructor
    · rintro ⟨t, ht, e⟩
      exact ⟨t, ht, by rw [lit_bytes.1 e]⟩
    · rintro ⟨t, ht, e⟩
      exact ⟨t, ht, by rw [toList_inj e]⟩
  by_cases h : s.toList ∈ ks.map (·.toList)
  · rw [h1 (this.2 h), decide_eq_true h]
  · rw [h2 (fun hh => h (this.1 hh)), decide_eq_false h]
    rfl
theorem set_snoc (ks : List ByteArray) (s : ByteArray) : setD (ks ++ [s]) = (setD ks).put (.string s.data.toList) (.lit (.bool true)) := by
  unfold setD keysOf
  rw [List.map_append, List.map_cons, List.map_nil, setOf_snoc]
theorem plainElem_bool_inv {P : Program} {e : TypeId} (he : P.underlying e = some .bool) {v : Value} {z : DataW Unit × List MemPlace} (h : plainElem P e v = some z) : ∃ a, v = .bool a ∧ z = (.lit (.bool a), []) := by
  unfold plainElem at h
  rw [he] at h
  cases v <;> simp at h
  exact ⟨_, rfl, h.symm⟩
theorem zeroBool (w : World) : (zeroValue 4).run Tryz.prog w = .ok (.bool false) w := by kernel_rfl
theorem lawS : Keyed Tryz.prog 9 := string_keyed Tryz.underlying9

theorem IsSet.below {w w' : World} {b : Nat} {ks : List ByteArray} (h : IsSet w b ks) (hb : Below w.heap.size w w') : IsSet w' b ks := by
  have hlt := h.lt
  obtain ⟨es, clock, hb', F, hs, hD⟩ := h
  exact ⟨es, clock, (hb.block _ hlt).trans hb', F, hs, hD⟩
theorem IsSet.made (w : World) : IsSet (w.alloc (.map #[] 0)) w.heap.size [] := World.ownsMap_made w _ _ _
/-- a look-up in a set -/
theorem IsSet.look {w : World} {b : Nat} {ks : List ByteArray} (h : IsSet w b ks) (s : ByteArray) (hs : s.size ≤ maxLen) : (Instr.lookup 78 (.map (some b)) (.string s) false).run Tryz.prog w = .ok (.bool (decide (s.toList ∈ ks.map (·.toList)))) w := by
  obtain ⟨v, ps, hrun, hv⟩ := World.ownsMap.lookup h lawS Tryz.underlying78 (zeroBool w) (plainElem_bool Tryz.underlying4 false) (keyOf_string_mk Tryz.underlying9 hs)
  obtain ⟨a, rfl, ha⟩ := plainElem_bool_inv Tryz.underlying4 hv
  rw [atKey_set] at ha
  cases ha
  exact hrun
theorem IsSet.put {w : World} {b : Nat} {ks : List ByteArray} (h : IsSet w b ks) (s : ByteArray) (hs : s.size ≤ maxLen) (hn : ks.length < maxLen) :
    ∃ w', (Instr.mapUpdate 78 (.map (some b)) (.string s) (.bool true)).run Tryz.prog w = .ok () w' ∧ IsSet w' b (ks ++ [s]) ∧ w.grownBy w' (some b) := by
  obtain ⟨w', h1, h2, h3⟩ := World.ownsMap.update h lawS Tryz.underlying78 hn (keyOf_string_mk Tryz.underlying9 hs) (plainElem_bool Tryz.underlying4 true)
  refine ⟨w', h1, ?_, h3⟩
  unfold IsSet
  rw [set_snoc, List.length_append]
  exact h2
theorem IsSet.lt {w : World} {b : Nat} {ks : List ByteArray} (h : IsSet w b ks) : b < w.heap.size := World.ownsMap.lt h
theorem IsSet.kept {w w' : World} {b : Nat} {ks : List ByteArray} {row : Option Nat} (h : IsSet w b ks) (hg : w.grownBy w' row) (hne : some b ≠ row) : IsSet w' b ks := World.ownsMap.kept h hg hne

end Go.Proofs.YtfbbjfbnkcklgaaGreatDoor

/- steps in memory; which are right; what one makes, and many -/
namespace Go.Proofs.YtfbbjfbnkcklgaaGreatDoor
open Go.RowKit

/-- a step, with the place of its bytes -/
structure StI where
  k : Int
  p : ByteArray
  bA : Option Addr
  bc : Nat
  bs : List Int
instance : Inhabited StI := ⟨⟨0, ByteArray.empty, none, 0, []⟩⟩
def StI.abs (s : StI) : StA := ⟨s.k, s.p.toList, s.bs⟩
def StI.cells (s : StI) : List Value := [.int .i64 s.k, .string s.p, .slice s.bA s.bs.length s.bc]
structure StGood (w : World) (s : StI) : Prop where
  size : s.p.size ≤ 140737488351232
  len : s.bs.length ≤ 140737488351232
  src : Src w 1 (.slice s.bA s.bs.length s.bc) (nums s.bs)
  rng : ∀ b ∈ s.bs, 0 ≤ b ∧ b < 256
theorem StGood.below {w w' : World} {s : StI} (h : StGood w s) (hb : Below w.heap.size w w') : StGood w' s := ⟨h.size, h.len, h.src.below hb, h.rng⟩
theorem StGood.item {w : World} {s : StI} (h : StGood w s) : Good w ⟨s.p, false, s.bA, s.bc, s.bs⟩ := ⟨h.size, h.len, h.src, h.rng⟩
theorem st_len (s : StI) : s.cells.length = 3 := rfl
theorem st_one (s : StI) : ∀ u ∈ s.cells, u.oneCell' = true := by
  intro u hu
  simp [StI.cells] at hu
  rcases hu with rfl | rfl | rfl <;> rfl
/-- a slice of steps -/
structure Sts (w : World) (A : Option Addr) (c : Nat) (l : List StI) : Prop where
  recs : Recs StI.cells 3 w A c l
  max : l.length ≤ 1000000
  good : ∀ s ∈ l, StGood w s
theorem Sts.below {w w' : World} {A : Option Addr} {c : Nat} {l : List StI} (h : Sts w A c l) (hb : Below w.heap.size w w') : Sts w' A c l := ⟨h.recs.below hb, h.max, fun s hs => (h.good s hs).below hb⟩
theorem Sts.at {w : World} {A : Option Addr} {c : Nat} {l : List StI} (h : Sts w A c l) {i : Nat} (hi : i < l.length) : ∃ b off, A = some ⟨b, off, none⟩ ∧ w.cell? ⟨b, off + i * 3, none⟩ = some (.int .i64 l[i].k) ∧ w.cell? ⟨b, off + i * 3 + 1, none⟩ = some (.string l[i].p) ∧ w.cell? ⟨b, off + i * 3 + 2, none⟩ = some (.slice l[i].bA l[i].bs.length l[i].bc) ∧ StGood w l[i] := by
  obtain ⟨b, off, h0, h1⟩ := h.recs.cell i l[i] (List.getElem?_eq_getElem hi)
  exact ⟨b, off, h0, h1 0 _ rfl, h1 1 _ rfl, h1 2 _ rfl, h.good _ (List.getElem_mem hi)⟩
theorem Sts.none (w : World) : Sts w none 0 [] := ⟨Recs.none w, by simp, by simp⟩
theorem Sts.ofRow {w : World} {e : TypeId} {A : Option Addr} {n c : Nat} {l : List StI} (h : Row w e 3 (.slice A n c) (l.flatMap StI.cells)) (hg : ∀ s ∈ l, StGood w s) (hm : l.length ≤ 1000000) : n = l.length ∧ Sts w A c l := by
  obtain ⟨h1, h2⟩ := Recs.ofRow st_len (by omega) h
  exact ⟨h1, h2, hm, hg⟩

theorem stRight_k1 {s : StA} (h : ¬ 1 ≤ s.k) : stRight s = false := by unfold stRight; rw [decide_eq_false (show ¬ s.k ≥ 1 from h)]; rfl
theorem stRight_k3 {s : StA} (h : ¬ s.k ≤ 3) : stRight s = false := by unfold stRight; rw [decide_eq_false h, Bool.and_false]; rfl
theorem stRight_p {s : StA} (h : pathB s.p = false) : stRight s = false := by unfold stRight; rw [h, Bool.and_false]; rfl
theorem stRight_b {s : StA} (h : s.k ≠ 3) (h2 : s.b.length ≠ 0) : stRight s = false := by unfold stRight; simp [h, h2]
theorem stRight_n {s : StA} (h : ¬ s.b.length ≤ 2000) : stRight s = false := by unfold stRight; rw [decide_eq_false h, Bool.and_false]
theorem stRight_yes {s : StA} (h1 : 1 ≤ s.k) (h2 : s.k ≤ 3) (h3 : pathB s.p = true) (h4 : s.k = 3 ∨ s.b.length = 0) (h5 : s.b.length ≤ 2000) : stRight s = true := by
  unfold stRight
  simp only [Bool.and_eq_true, Bool.or_eq_true, decide_eq_true_eq, beq_iff_eq]
  exact ⟨⟨⟨⟨h1, h2⟩, h3⟩, h4⟩, h5⟩


end Go.Proofs.YtfbbjfbnkcklgaaGreatDoor

/- many steps; what they cost; how they are told; own, light -/
namespace Go.Proofs.YtfbbjfbnkcklgaaGreatDoor
open Go.RowKit

theorem underA_nil (t : List AIt) : underA t [] = t := by
  unfold underA
  rw [List.filter_eq_self]
  intro x _
  unfold withinA
  simp
theorem srunA_zero {t : List AIt} {s : StA} {r : List StA} {i : Nat} (h : (sdoA t s).2 = 0) : srunA t (s :: r) i = srunA (sdoA t s).1 r (i + 1) := by conv => lhs; unfold srunA; rw [if_pos h]
theorem srunA_not {t : List AIt} {s : StA} {r : List StA} {i : Nat} (h : (sdoA t s).2 ≠ 0) : srunA t (s :: r) i = (t, i, (sdoA t s).2) := by conv => lhs; unfold srunA; rw [if_neg h]

/-- a step's word -/
def wordA (k : Int) : List UInt8 := if k = 1 then [45, 32] else if k = 2 then [100, 32] else if k = 3 then [102, 32] else []
def lineA (s : StA) : List UInt8 := wordA s.k ++ s.p

theorem st_bound {L : List StI} {s : StI} (h : L.length ≤ 1000001) : (L.flatMap StI.cells).length + s.cells.length ≤ maxLen ∧ ((L.flatMap StI.cells).length + s.cells.length) * 48 ≤ 140737488355328 := by
  rw [flat_len st_len, st_len]
  constructor
  · simp only [maxLen]; omega
  · omega

end Go.Proofs.YtfbbjfbnkcklgaaGreatDoor

/- light; the paths that go -/
namespace Go.Proofs.YtfbbjfbnkcklgaaGreatDoor
open Go.RowKit

theorem TrW.below {w w' : World} {A : Option Addr} {c : Nat} {l : List Itm} (h : TrW w A c l) (hb : Below w.heap.size w w') : TrW w' A c l :=
  ⟨h.cap, h.nil, fun i x hx => by
    obtain ⟨b, off, h0, h1, h2, h3⟩ := h.cell i x hx
    exact ⟨b, off, h0, cellB hb h1, cellB hb h2, cellB hb h3⟩⟩
theorem TrQ.below {w w' : World} {A : Option Addr} {c : Nat} {l : List Itm} (h : TrQ w A c l) (hb : Below w.heap.size w w') : TrQ w' A c l :=
  ⟨h.toTrW.below hb, fun x hx => ⟨(h.at_ x hx).src.below hb, (h.at_ x hx).rng⟩⟩

/-- a tree that a cell holds -/
structure TrI where
  A : Option Addr
  c : Nat
  l : List Itm
instance : Inhabited TrI := ⟨⟨none, 0, []⟩⟩
def TrI.cells (t : TrI) : List Value := [.slice t.A t.l.length t.c]
theorem tri_len (t : TrI) : t.cells.length = 1 := rfl
theorem Recs.ofBlock {α : Type} {f : α → List Value} {m : Nat} (hf : ∀ x, (f x).length = m) {w : World} {b : Nat} {t : TypeId} {cs : Array Value} {l : List α} (h : w.heap[b]? = some (.cells cs t (0, 0))) (hc : cs.toList = l.flatMap f) : Recs f m w (some ⟨b, 0, Option.none⟩) l.length l := by
  refine ⟨Nat.le_refl _, (fun h => by cases h), fun i x hx => ⟨b, 0, rfl, fun k u hu => ?_⟩⟩
  rw [Nat.zero_add, blkCell h, ← Array.getElem?_toList, hc, flat_get hf l i x k hx (by rw [← hf x]; exact (List.getElem?_eq_some_iff.1 hu).1)]
  exact hu

set_option maxRecDepth 100000 in
set_option maxHeartbeats 1600000 in
theorem light22_walk (B : Option Addr) (d : Nat) (ls : List TrI) (w : World) (h : Recs TrI.cells 1 w B d ls) (hn : ls.length ≤ 10) (hq : ∀ t ∈ ls, TrW w t.A t.c t.l) :
    Calls Tryz.prog 9 #[.slice B ls.length d] w fun e w' => e = .returned (.bool (ls.all fun t => lightB t.l 62)) ∧ w = w' := by
  go_enter Tryz.func9, Tryz.ntmps9
  go_wp2_with fail
  go_loopg [3] ls.length (fun k i wr => ∃ j : Nat, j ≤ ls.length ∧ k = ls.length - j ∧ i = .int .i64 j ∧ wr = w ∧ (ls.take j).all (fun t => lightB t.l 62) = true)
  case atStart => exact ⟨0, Nat.zero_le _, rfl, rfl, rfl, rfl⟩
  case round =>
    obtain ⟨j, hj, rfl, rfl, rfl, ht⟩ := hrel
    have HT := hid ht
    clear ht
    by_cases hlt : j < ls.length
    · have i0 : (0 : Int) ≤ (j : Int) := by omega
      have i1 : (j : Int) < (ls.length : Int) := by omega
      obtain ⟨b, off, hA, hc⟩ := h.cell j ls[j] (List.getElem?_eq_getElem hlt)
      have c0 := hc 0 _ rfl
      rw [Nat.mul_one, Nat.add_zero] at c0
      subst hA
      have HL : HidP (Calls Tryz.prog 33 #[.slice ls[j].A ls[j].l.length ls[j].c, .int .i64 62] wr fun e w' => e = .returned (.bool (lightB ls[j].l 62)) ∧ wr = w') := hid (light_walk ls[j].A ls[j].c ls[j].l 62 wr (hq _ (List.getElem_mem hlt)) (by omega))
      clear h hc hq
      cases hv : lightB ls[j].l 62
      · rw [hv] at HL
        have HN : HidP ((ls.all fun t => lightB t.l 62) = false) := hid (List.all_eq_false.2 ⟨ls[j], List.getElem_mem hlt, by simp [hv]⟩)
        clear hv
        go_wp2_with fail
        refine HL.out.mono ?_
        rintro e w1 ⟨rfl, rfl⟩
        go_wp2_with fail
        go_ret
        exact ⟨by rw [HN.out]; rfl, rfl⟩
      · rw [hv] at HL
        have HN : HidP ((ls.take (j + 1)).all (fun t => lightB t.l 62) = true) := hid (by rw [List.take_add_one, List.all_append, HT.out, List.getElem?_eq_getElem hlt]; simpa using hv)
        clear hv
        go_wp2_with fail
        refine HL.out.mono ?_
        rintro e w1 ⟨rfl, rfl⟩
        go_wp2_with fail
        go_roundg (ls.length - (j + 1))
        case measure => omega
        case rel => exact ⟨j + 1, by omega, rfl, by go_num, rfl, HN.out⟩
    · obtain rfl : j = ls.length := by omega
      have ht := HT.out
      rw [List.take_length] at ht
      have HN := hid ht
      clear ht
      go_wp2_with fail
      go_ret
      exact ⟨by rw [HN.out]; rfl, rfl⟩

/-- are steps few, and short? -/
def stB (s : StI) : Bool := decide (s.p.size ≤ 250) && decide (s.bs.length ≤ 2100)
def stsB (l : List StI) (n : Nat) : Bool := decide (l.length ≤ n) && l.all stB

theorem split_len (l : List UInt8) : (splitL l).1.length ≤ l.length := by
  unfold splitL
  split
  · exact List.length_take_le' _ _
  · exact Nat.zero_le _
theorem Row.neSet {w : World} {e : TypeId} {sz : Nat} {v : Value} {xs : List Value} (h : Row w e sz v xs) {b : Nat} {ks : List ByteArray} (hs : IsSet w b ks) : v.ownBlock ≠ some b := by
  obtain ⟨es, clock, hb, _⟩ := hs
  obtain ⟨A, n, c, rfl, _, _, _, h⟩ := h
  rcases h with ⟨rfl, _⟩ | ⟨b', off, cs, rfl, hb', _⟩
  · simp [Value.ownBlock]
  · intro e
    simp only [Value.ownBlock, Option.some.injEq] at e
    subst e
    rw [hb] at hb'
    cases hb'

theorem goneS_in {T : List AIt} {s : List (List UInt8) × List (List UInt8)} {x : AIt} (h : (splitL x.p).1 ∈ s.1) : goneF T s x = (s.1 ++ [x.p], s.2) := by unfold goneF; rw [if_pos h]
theorem goneS_top {T : List AIt} {s : List (List UInt8) × List (List UInt8)} {x : AIt} (h : ¬ (splitL x.p).1 ∈ s.1) (hg : goesB T x = true) : goneF T s x = (s.1 ++ [x.p], s.2 ++ [x.p]) := by unfold goneF; rw [if_neg h, if_pos hg]
theorem goneS_no {T : List AIt} {s : List (List UInt8) × List (List UInt8)} {x : AIt} (h : ¬ (splitL x.p).1 ∈ s.1) (hg : goesB T x = false) : goneF T s x = s := by unfold goneF; rw [if_neg h, if_neg (by simp [hg])]

end Go.Proofs.YtfbbjfbnkcklgaaGreatDoor
