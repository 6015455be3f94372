/- the place of a path: BinarySearchFunc -/
import Derived.Test.YtfbbjfbnkcklgaaGreatDoorK1
namespace Go.Proofs.YtfbbjfbnkcklgaaGreatDoor
open Go.RowKit

set_option maxHeartbeats 400000 in
theorem isnan_any (a : ByteArray) (w : World) : Calls Tryz.prog 96 #[.string a] w fun e w' => e = .returned (.bool false) ∧ w = w' := by
  go_enter Tryz.func96, Tryz.ntmps96
  go_wp2_with fail
  go_ret
  exact ⟨by simp, rfl⟩

/-- -1, 0, 1 -/
def cmpL (a b : List UInt8) : Int := if Op.bytesLess a b then -1 else if a = b then 0 else 1

set_option maxHeartbeats 1600000 in
theorem compare_any (a b : ByteArray) (w : World) : Calls Tryz.prog 65 #[.string a, .string b] w fun e w' => e = .returned (.int .i64 (cmpL a.toList b.toList)) ∧ w = w' := by
  have HA := hid (isnan_any a)
  have HB := hid (isnan_any b)
  unfold cmpL
  cases h1 : Op.bytesLess a.toList b.toList
  case true =>
    go_enter Tryz.func65, Tryz.ntmps65
    go_wp2_with fail
    refine (HA.out _).mono ?_
    rintro e w' ⟨rfl, rfl⟩
    go_wp2_with fail
    refine (HB.out _).mono ?_
    rintro e w' ⟨rfl, rfl⟩
    go_wp2_with fail
    go_ret
    exact ⟨by simp, rfl⟩
  cases h2 : (a.toList == b.toList)
  · have h3 : ¬ a.toList = b.toList := by simpa using h2
    go_enter Tryz.func65, Tryz.ntmps65
    go_wp2_with fail
    refine (HA.out _).mono ?_
    rintro e w' ⟨rfl, rfl⟩
    go_wp2_with fail
    refine (HB.out _).mono ?_
    rintro e w' ⟨rfl, rfl⟩
    go_wp2_with fail
    go_ret
    exact ⟨by simp, rfl⟩
  · have h3 : a.toList = b.toList := by simpa using h2
    have h4 := less_irrefl b.toList
    go_enter Tryz.func65, Tryz.ntmps65
    go_wp2_with fail
    refine (HA.out _).mono ?_
    rintro e w' ⟨rfl, rfl⟩
    go_wp2_with fail
    refine (HB.out _).mono ?_
    rintro e w' ⟨rfl, rfl⟩
    go_wp2_with fail
    go_ret
    exact ⟨by simp, rfl⟩

set_option maxHeartbeats 400000 in
theorem placecmp (x : Itm) (q : ByteArray) (w : World) : Calls Tryz.prog 106 #[.agg #[.string x.p, .bool x.d, .slice x.dA x.bs.length x.dc], .string q] w fun e w' => e = .returned (.int .i64 (cmpL x.p.toList q.toList)) ∧ Below w.heap.size w w' := by
  have H := hid (compare_any x.p q)
  go_enter Tryz.func106, Tryz.ntmps106
  go_wp2_with fail
  refine (H.out _).mono ?_
  rintro e w' ⟨rfl, rfl⟩
  go_wp2_with fail
  go_ret
  exact ⟨rfl, thenA (Below.refl _ w) _⟩

/-- where a path stands, or would stand, in items, however they lie -/
structure PlaceAt (l : List Itm) (q : List UInt8) (i : Nat) : Prop where
  le : i ≤ l.length
  ahead : ∀ (j : Nat) (x : Itm), i = j + 1 → l[j]? = some x → Op.bytesLess x.p.toList q = true
  behind : ∀ (x : Itm), l[i]? = some x → Op.bytesLess x.p.toList q = false
def placeB (l : List Itm) (q : List UInt8) (i : Nat) : Bool := match l[i]? with
  | none => false
  | some x => x.p.toList == q
theorem cmpL_neg {a b : List UInt8} : decide (cmpL a b < 0) = Op.bytesLess a b := by
  unfold cmpL
  cases Op.bytesLess a b
  · by_cases h : a = b <;> simp [h]
  · simp
theorem cmpL_zero {a b : List UInt8} (h : Op.bytesLess a b = false) : (cmpL a b == 0) = (a == b) := by
  unfold cmpL
  rw [h]
  by_cases h : a = b <;> simp [h]

set_option maxRecDepth 100000 in
set_option maxHeartbeats 4000000 in
theorem search_walk (A : Option Addr) (c : Nat) (l : List Itm) (q : ByteArray) (w : World) (h : Tr w A c l) :
    Calls Tryz.prog 105 #[.slice A l.length c, .string q, .func (.func 106) #[] #[]] w fun e w' => (∃ i, e = .returned (.tuple #[.int .i64 (i : Nat), .bool (placeB l q.toList i)]) ∧ PlaceAt l q.toList i) ∧ Below w.heap.size w w' := by
  have hm := h.max
  have HT := hid h
  clear h
  go_enter Tryz.func105, Tryz.ntmps105
  go_wp2_with fail
  go_loopg [9, 10] l.length (fun k i j wr => ∃ (a b : Nat), a ≤ b ∧ b ≤ l.length ∧ k = b - a ∧ i = .int .i64 a ∧ j = .int .i64 b ∧ Below w.heap.size w wr ∧ (∀ (j : Nat) (x : Itm), a = j + 1 → l[j]? = some x → Op.bytesLess x.p.toList q.toList = true) ∧ (∀ x, l[b]? = some x → Op.bytesLess x.p.toList q.toList = false))
  case atStart => exact ⟨0, l.length, Nat.zero_le _, Nat.le_refl _, rfl, rfl, rfl, Below.refl _ _, fun j x h => by omega, fun x hx => by simp at hx⟩
  case round =>
    obtain ⟨a, b, hab, hbl, rfl, rfl, rfl, hb, ha1, hb1⟩ := hrel
    have HA1 := hid ha1
    have HB1 := hid hb1
    clear ha1 hb1
    by_cases hlt : a < b
    · have k0 : (a : Int) < (b : Int) := by omega
      have hh : (a + b) / 2 < l.length := by omega
      obtain ⟨m, hmm⟩ : ∃ m, (a + b) / 2 = m := ⟨_, rfl⟩
      have hm1 : a ≤ m := by omega
      have hm2 : m < b := by omega
      have e1 : wrap64 ((a : Int) + b) = (a : Int) + b := by unfold wrap64; omega
      have e2 : ((a : Int) + b) / 2 = (m : Int) := by omega
      have i0 : (0 : Int) ≤ (m : Int) := by omega
      have i1 : (m : Int) < (l.length : Int) := by omega
      have hlm : m < l.length := by omega
      obtain ⟨bb, off, hA, c0, c1, c2, hg⟩ := (HT.out.below hb).at hlm
      subst hA
      have HC := hid (placecmp l[m] q)
      have hn := cmpL_neg (a := l[m].p.toList) (b := q.toList)
      obtain ⟨C, hC⟩ : ∃ C, cmpL l[m].p.toList q.toList = C := ⟨_, rfl⟩
      rw [hC] at HC hn
      clear hmm hC
      cases hc : Op.bytesLess l[m].p.toList q.toList
      · rw [hc] at hn
        go_wp2_with fail
        refine (HC.out _).mono ?_
        rintro e w' ⟨rfl, hb2⟩
        replace hb2 := thenB hb hb2
        have HH := hid hc
        clear hc
        go_wp2_with fail
        go_roundg (m - a)
        case measure => omega
        case rel => exact ⟨a, m, hm1, by omega, rfl, rfl, rfl, hb2, HA1.out, fun x hx => by
          rw [List.getElem?_eq_getElem hlm] at hx
          rw [← Option.some.inj hx]
          exact HH.out⟩
      · rw [hc] at hn
        go_wp2_with fail
        refine (HC.out _).mono ?_
        rintro e w' ⟨rfl, hb2⟩
        replace hb2 := thenB hb hb2
        have HH := hid hc
        clear hc
        go_wp2_with fail
        go_roundg (b - (m + 1))
        case measure => omega
        case rel => exact ⟨m + 1, b, by omega, hbl, rfl, by go_num, rfl, hb2, fun j x hj hx => by
          obtain rfl : j = m := by omega
          rw [List.getElem?_eq_getElem hlm] at hx
          rw [← Option.some.inj hx]
          exact HH.out, HB1.out⟩
    · obtain rfl : a = b := by omega
      have HPA : HidP (PlaceAt l q.toList a) := hid ⟨hbl, HA1.out, HB1.out⟩
      by_cases hal : a < l.length
      · have d0 : decide ((a : Int) < (l.length : Int)) = true := decide_eq_true (by omega)
        have i0 : (0 : Int) ≤ (a : Int) := by omega
        have i1 : (a : Int) < (l.length : Int) := by omega
        obtain ⟨bb, off, hA, c0, c1, c2, hg⟩ := (HT.out.below hb).at hal
        subst hA
        have HC := hid (placecmp l[a] q)
        have hn := cmpL_zero (HB1.out l[a] (List.getElem?_eq_getElem hal))
        have hpb : placeB l q.toList a = (l[a].p.toList == q.toList) := by unfold placeB; rw [List.getElem?_eq_getElem hal]
        have HPB := hid hpb
        rw [← hpb] at hn
        clear hpb
        obtain ⟨C, hC⟩ : ∃ C, cmpL l[a].p.toList q.toList = C := ⟨_, rfl⟩
        rw [hC] at HC hn
        clear hC
        have HNN := hid hn
        clear hn
        go_wp2_with fail
        refine (HC.out _).mono ?_
        rintro e w' ⟨rfl, hb2⟩
        replace hb2 := thenB hb hb2
        go_wp2_with fail
        go_ret2
        exact ⟨⟨a, by rw [← HNN.out]; rfl, HPA.out⟩, hb2⟩
      · have d0 : decide ((a : Int) < (l.length : Int)) = false := decide_eq_false (by omega)
        have hpb : placeB l q.toList a = false := by unfold placeB; rw [List.getElem?_eq_none (by omega)]
        have HPB := hid hpb
        clear hpb
        go_wp2_with fail
        go_ret2
        exact ⟨⟨a, by rw [HPB.out]; rfl, HPA.out⟩, hb⟩

set_option maxHeartbeats 400000 in
theorem place_walk (A : Option Addr) (c : Nat) (l : List Itm) (q : ByteArray) (w : World) (h : Tr w A c l) :
    Calls Tryz.prog 78 #[.slice A l.length c, .string q] w fun e w' => (∃ i, e = .returned (.tuple #[.int .i64 (i : Nat), .bool (placeB l q.toList i)]) ∧ PlaceAt l q.toList i) ∧ Below w.heap.size w w' := by
  have H := hid (search_walk A c l q w h)
  go_enter Tryz.func78, Tryz.ntmps78
  go_wp2_with fail
  refine H.out.mono ?_
  rintro e w' ⟨⟨i, rfl, hi⟩, hb⟩
  have hi := hid hi
  go_wp2_with fail
  go_ret2
  exact ⟨⟨i, rfl, hi.out⟩, hb⟩

end Go.Proofs.YtfbbjfbnkcklgaaGreatDoor
