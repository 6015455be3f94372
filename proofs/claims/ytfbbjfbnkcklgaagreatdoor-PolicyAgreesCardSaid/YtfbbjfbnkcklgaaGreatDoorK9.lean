/- tree.Bytes, Same -/
import Derived.Test.YtfbbjfbnkcklgaaGreatDoorK8
namespace Go.Proofs.YtfbbjfbnkcklgaaGreatDoor
open Go.RowKit

theorem str_eq {xs ys : List Int} (hx : ∀ b ∈ xs, 0 ≤ b ∧ b < 256) (hy : ∀ b ∈ ys, 0 ≤ b ∧ b < 256) : ((strOfNums xs).toList == (strOfNums ys).toList) = decide (xs = ys) := by
  rw [Bool.eq_iff_iff, beq_iff_eq, decide_eq_true_eq]
  constructor
  · intro h
    rw [ByteArray.toList_eq, ByteArray.toList_eq] at h
    simp only [strOfNums] at h
    have key : ∀ (xs ys : List Int), (∀ b ∈ xs, 0 ≤ b ∧ b < 256) → (∀ b ∈ ys, 0 ≤ b ∧ b < 256) → xs.map (fun n => UInt8.ofNat n.toNat) = ys.map (fun n => UInt8.ofNat n.toNat) → xs = ys := by
      intro xs
      induction xs with
      | nil => intro ys _ _ h; cases ys with | nil => rfl | cons _ _ => simp at h
      | cons x r ih =>
        intro ys hx hy h
        cases ys with
        | nil => simp at h
        | cons y s =>
          simp only [List.map_cons, List.cons.injEq] at h
          have h1 := hx x (by simp)
          have h2 := hy y (by simp)
          have h3 := congrArg UInt8.toNat h.1
          simp only [UInt8.toNat_ofNat'] at h3
          have : x = y := by omega
          rw [this, ih s (fun b hb => hx b (by simp [hb])) (fun b hb => hy b (by simp [hb])) h.2]
    exact key xs ys hx hy (by simpa using h)
  · rintro rfl; rfl

set_option maxHeartbeats 1600000 in
theorem bytesequal (a b : Value) (xs ys : List Int) (w : World) (ha : Src w 1 a (nums xs)) (hb : Src w 1 b (nums ys)) (hx : ∀ b ∈ xs, 0 ≤ b ∧ b < 256) (hy : ∀ b ∈ ys, 0 ≤ b ∧ b < 256) :
    Calls Tryz.prog 85 #[a, b] w fun e w' => e = .returned (.bool (decide (xs = ys))) ∧ w = w' := by
  have h1 := ha.string
  have h2 := hb.string
  have he := str_eq hx hy
  obtain ⟨aA, an, ac, rfl, _⟩ := id ha
  obtain ⟨bA, bn, bc, rfl, _⟩ := id hb
  rw [← he]
  clear he ha hb
  generalize strOfNums xs = S at *
  generalize strOfNums ys = T at *
  go_enter Tryz.func85, Tryz.ntmps85
  go_wp2_with fail
  go_ret
  exact ⟨rfl, rfl⟩

set_option maxHeartbeats 1600000 in
theorem same_walk (x y : Itm) (w : World) (hx : Good w x) (hy : Good w y) :
    Calls Tryz.prog 53 #[.agg #[.string x.p, .bool x.d, .slice x.dA x.bs.length x.dc], .agg #[.string y.p, .bool y.d, .slice y.dA y.bs.length y.dc]] w fun e w' => e = .returned (.bool (sameI x y)) ∧ Below w.heap.size w w' := by
  have hB := fun w' (hb : Below w.heap.size w w') => bytesequal (.slice x.dA x.bs.length x.dc) (.slice y.dA y.bs.length y.dc) x.bs y.bs w' (hx.src.below hb) (hy.src.below hb) hx.rng hy.rng
  have hb1 : Below w.heap.size w ((w.alloc (.cells #[.string x.p, .bool x.d, .slice x.dA x.bs.length x.dc] 42 (0, 0))).alloc (.cells #[.string y.p, .bool y.d, .slice y.dA y.bs.length y.dc] 42 (0, 0))) := ((Below.refl _ w).alloc (Nat.le_refl _) _).alloc (by simp) _
  have HB := hid (hB _ hb1)
  unfold sameI
  cases h1 : (x.p.toList == y.p.toList)
  · go_enter Tryz.func53, Tryz.ntmps53
    go_wp2_with fail
    go_ret
    exact ⟨by simp, hb1⟩
  cases h2 : (x.d == y.d)
  · go_enter Tryz.func53, Tryz.ntmps53
    go_wp2_with fail
    go_ret
    exact ⟨by simp, hb1⟩
  go_enter Tryz.func53, Tryz.ntmps53
  go_wp2_with fail
  refine HB.out.mono ?_
  rintro e w' ⟨rfl, rfl⟩
  go_wp2_with fail
  go_ret
  exact ⟨by simp, hb1⟩

set_option maxRecDepth 100000 in
set_option maxHeartbeats 1600000 in
theorem equalfunc_walk (A B : Option Addr) (c d : Nat) (l m : List Itm) (w : World) (h : Tr w A c l) (k : Tr w B d m) :
    Calls Tryz.prog 52 #[.slice A l.length c, .slice B m.length d, .func (.func 53) #[] #[]] w fun e w' => e = .returned (.bool (sameL l m)) ∧ Below w.heap.size w w' := by
  unfold sameL
  by_cases hlm : l.length = m.length
  case neg =>
    have d1 : ((l.length : Int) != (m.length : Int)) = true := by simp; omega
    have hf : decide (l.map Itm.abs = m.map Itm.abs) = false := decide_eq_false (fun e => hlm (by have := congrArg List.length e; simpa using this))
    rw [hf]
    clear hf
    go_enter Tryz.func52, Tryz.ntmps52
    go_wp2_with fail
    go_ret
    exact ⟨rfl, Below.refl _ _⟩
  have d1 : ((l.length : Int) != (m.length : Int)) = false := by simp [hlm]
  have HLM := hid hlm
  have h48 := h.max
  clear hlm
  go_enter Tryz.func52, Tryz.ntmps52
  go_wp2_with fail
  go_loopg [17] l.length (fun k i wr => ∃ j : Nat, j ≤ l.length ∧ k = l.length - j ∧ i = .int .i64 j ∧ Below w.heap.size w wr ∧ (l.take j).map Itm.abs = (m.take j).map Itm.abs)
  case atStart => exact ⟨0, Nat.zero_le _, rfl, rfl, Below.refl _ _, by simp⟩
  case round =>
    obtain ⟨j, hj, rfl, rfl, hb, ht⟩ := hrel
    have HT := hid ht
    clear ht
    by_cases hlt : j < l.length
    · have hlt2 : j < m.length := by have := HLM.out; omega
      have i0 : (0 : Int) ≤ (j : Int) := by omega
      have i1 : (j : Int) < (l.length : Int) := by omega
      have i2 : (j : Int) < (m.length : Int) := by omega
      have h1 := h.below hb
      obtain ⟨b, off, hA, c0, c1, c2, hg⟩ := h1.at hlt
      have hba := thenA (Below.refl _ wr) (.cells #[.string l[j].p, .bool l[j].d, .slice l[j].dA l[j].bs.length l[j].dc] 42 (0, 0))
      have k1 := k.below (thenB hb hba)
      obtain ⟨b', off', hB, c0', c1', c2', hg'⟩ := k1.at hlt2
      subst hA
      subst hB
      have hba2 := thenA hba (.cells #[.string m[j].p, .bool m[j].d, .slice m[j].dA m[j].bs.length m[j].dc] 42 (0, 0))
      have hba3 := thenA (Below.refl _ (wr.alloc (.cells #[.string l[j].p, .bool l[j].d, .slice l[j].dA l[j].bs.length l[j].dc] 42 (0, 0)))) (.cells #[.string m[j].p, .bool m[j].d, .slice m[j].dA m[j].bs.length m[j].dc] 42 (0, 0))
      have HS := hid (same_walk l[j] m[j] _ (hg.below hba2) (hg'.below hba3))
      have HE := hid (sameI_abs l[j] m[j])
      have hbb := thenB hb hba2
      clear h1 k1 hg hg' h k hba hba3
      cases hs : sameI l[j] m[j]
      · rw [hs] at HS
        go_wp2_with fail
        refine HS.out.mono ?_
        rintro e w' ⟨rfl, hb5⟩
        replace hb5 := thenB hbb hb5
        go_wp2_with fail
        go_ret
        refine ⟨?_, hb5⟩
        have hne : decide (l.map Itm.abs = m.map Itm.abs) = false := decide_eq_false (fun e => by
          have h1 := HE.out
          rw [hs] at h1
          refine of_decide_eq_false h1.symm ?_
          have h2 := congrArg (·[j]?) e
          simpa [hlt, hlt2] using h2)
        rw [hne]; rfl
      · rw [hs] at HS
        go_wp2_with fail
        refine HS.out.mono ?_
        rintro e w' ⟨rfl, hb5⟩
        replace hb5 := thenB hbb hb5
        go_wp2_with fail
        go_roundg (l.length - (j + 1))
        case measure => omega
        case rel => exact ⟨j + 1, by omega, rfl, by go_num, hb5, by
          have h1 := HE.out
          rw [hs] at h1
          have h2 := of_decide_eq_true h1.symm
          rw [List.take_add_one, List.take_add_one, List.map_append, List.map_append, HT.out]
          simp [hlt, hlt2, h2]⟩
    · obtain rfl : j = l.length := by omega
      have he : l.map Itm.abs = m.map Itm.abs := by
        have h1 := HT.out
        rw [List.take_length, HLM.out, List.take_length] at h1
        exact h1
      have HEQ := hid he
      clear he
      go_wp2_with fail
      go_ret
      exact ⟨by rw [decide_eq_true HEQ.out]; rfl, hb⟩

set_option maxHeartbeats 400000 in
theorem tsame_walk (A B : Option Addr) (c d : Nat) (l m : List Itm) (w : World) (h : Tr w A c l) (k : Tr w B d m) :
    Calls Tryz.prog 26 #[.slice A l.length c, .slice B m.length d] w fun e w' => e = .returned (.bool (sameL l m)) ∧ Below w.heap.size w w' := by
  have H := hid (equalfunc_walk A B c d l m w h k)
  go_enter Tryz.func26, Tryz.ntmps26
  go_wp2_with fail
  refine H.out.mono ?_
  rintro e w' ⟨rfl, hb⟩
  go_wp2_with fail
  go_ret
  exact ⟨rfl, hb⟩

end Go.Proofs.YtfbbjfbnkcklgaaGreatDoor
