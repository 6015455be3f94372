/- the reference's Within, SameItem, Same, Bytes -/
import Derived.Test.YtfbbjfbnkcklgaaGreatDoorI3
import Derived.Test.YtfbbjfbnkcklgaaGreatDoorU
namespace Go.Proofs.YtfbbjfbnkcklgaaGreatDoor
open Go.RowKit

/-- is a path within another one? -/
def withinA (p q : List UInt8) : Bool := q == p || p == [] || (decide (q.length > p.length) && (q.take p.length == p) && (q[p.length]? == some 47))

set_option maxHeartbeats 1600000 in
theorem refwithin (p q : ByteArray) (w : World) (hp : p.size ≤ 140737488351232) : Calls Tryz.prog 22 #[.string p, .string q] w fun e w' => e = .returned (.bool (withinA p.toList q.toList)) ∧ w = w' := by
  have hlp := str_len p
  have hlq := str_len q
  unfold withinA
  cases h1 : (q.toList == p.toList)
  case true =>
    go_enter Tryz.func22, Tryz.ntmps22
    go_wp2_with fail
    go_ret
    exact ⟨by simp, rfl⟩
  cases h2 : (p.toList == [])
  case true =>
    go_enter Tryz.func22, Tryz.ntmps22
    go_wp2_with fail
    go_ret
    exact ⟨by simp, rfl⟩
  by_cases h3 : q.size > p.size
  case neg =>
    have d3 : decide ((q.size : Int) > (p.size : Int)) = false := decide_eq_false (by omega)
    have e3 : decide (q.toList.length > p.toList.length) = false := decide_eq_false (by omega)
    have E3 := hid e3
    clear e3
    go_enter Tryz.func22, Tryz.ntmps22
    go_wp2_with fail
    go_ret
    exact ⟨by rw [E3.out]; rfl, rfl⟩
  have d3 : decide ((q.size : Int) > (p.size : Int)) = true := decide_eq_true (by omega)
  have e3 : decide (q.toList.length > p.toList.length) = true := decide_eq_true (by omega)
  have e4 : (q.extract 0 p.size).toList = q.toList.take p.toList.length := by rw [ext_take, hlp]
  rw [e3, ← e4]
  have i0 : (0 : Int) ≤ (p.size : Int) := by omega
  have i1 : (p.size : Int) ≤ (q.size : Int) := by omega
  have i2 : (p.size : Int) < (q.size : Int) := by omega
  clear e3 e4
  have hg := str_get q p.size h3
  rw [hlp, hg]
  cases h4 : ((q.extract 0 p.size).toList == p.toList)
  · go_enter Tryz.func22, Tryz.ntmps22
    go_wp2_with fail
    go_ret
    exact ⟨by simp, rfl⟩
  · have e5 : (some q[p.size] == some 47) = ((q[p.size].toNat : Int) == 47) := by
      rw [Bool.eq_iff_iff]
      simp only [beq_iff_eq, Option.some.injEq]
      constructor
      · intro h; rw [h]; rfl
      · intro h; exact UInt8.toNat_inj.1 (by exact_mod_cast h)
    rw [e5]
    clear hg e5
    go_enter Tryz.func22, Tryz.ntmps22
    go_wp2_with fail
    go_ret
    exact ⟨by simp, rfl⟩

def sameI (x y : Itm) : Bool := (x.p.toList == y.p.toList) && (x.d == y.d) && decide (x.bs = y.bs)
theorem sameI_abs (x y : Itm) : sameI x y = decide (x.abs = y.abs) := by
  unfold sameI Itm.abs
  rw [Bool.eq_iff_iff]
  simp [and_assoc]

set_option maxHeartbeats 1600000 in
theorem refsameitem (x y : Itm) (w : World) (hx : Good w x) (hy : Good w y) :
    Calls Tryz.prog 18 #[.agg #[.string x.p, .bool x.d, .slice x.dA x.bs.length x.dc], .agg #[.string y.p, .bool y.d, .slice y.dA y.bs.length y.dc]] w fun e w' => e = .returned (.bool (sameI x y)) ∧ Below w.heap.size w w' := by
  have hB := fun w' (hb : Below w.heap.size w w') => bytes_same (.slice x.dA x.bs.length x.dc) (.slice y.dA y.bs.length y.dc) x.bs y.bs w' (hx.src.below hb) (hy.src.below hb) (by have := hx.len; omega)
  have hb1 : Below w.heap.size w ((w.alloc (.cells #[.string x.p, .bool x.d, .slice x.dA x.bs.length x.dc] 42 (0, 0))).alloc (.cells #[.string y.p, .bool y.d, .slice y.dA y.bs.length y.dc] 42 (0, 0))) := ((Below.refl _ w).alloc (Nat.le_refl _) _).alloc (by simp) _
  have HB := hid (hB _ hb1)
  unfold sameI
  cases h1 : (x.p.toList == y.p.toList)
  · go_enter Tryz.func18, Tryz.ntmps18
    go_wp2_with fail
    go_ret
    exact ⟨by simp, hb1⟩
  cases h2 : (x.d == y.d)
  · go_enter Tryz.func18, Tryz.ntmps18
    go_wp2_with fail
    go_ret
    exact ⟨by simp, hb1⟩
  go_enter Tryz.func18, Tryz.ntmps18
  go_wp2_with fail
  refine HB.out.mono ?_
  rintro e w' ⟨rfl, q, rfl⟩
  go_wp2_with fail
  go_ret
  exact ⟨by simp, Below.drewN hb1⟩

def sameL (l m : List Itm) : Bool := decide (l.map Itm.abs = m.map Itm.abs)

set_option maxRecDepth 100000 in
set_option maxHeartbeats 1600000 in
theorem refsame (A B : Option Addr) (c d : Nat) (l m : List Itm) (w : World) (h : Tr w A c l) (k : Tr w B d m) :
    Calls Tryz.prog 19 #[.slice A l.length c, .slice B m.length d] w fun e w' => e = .returned (.bool (sameL l m)) ∧ Below w.heap.size w w' := by
  unfold sameL
  by_cases hlm : l.length = m.length
  case neg =>
    have d1 : ((l.length : Int) != (m.length : Int)) = true := by simp; omega
    have hf : decide (l.map Itm.abs = m.map Itm.abs) = false := decide_eq_false (fun e => hlm (by have := congrArg List.length e; simpa using this))
    rw [hf]
    clear hf
    go_enter Tryz.func19, Tryz.ntmps19
    go_wp2_with fail
    go_ret
    exact ⟨rfl, Below.refl _ _⟩
  have d1 : ((l.length : Int) != (m.length : Int)) = false := by simp [hlm]
  have HLM := hid hlm
  have h48 := h.max
  clear hlm
  go_enter Tryz.func19, Tryz.ntmps19
  go_wp2_with fail
  go_loopg [5] l.length (fun k i wr => ∃ j : Nat, j ≤ l.length ∧ k = l.length - j ∧ i = .int .i64 j ∧ Below w.heap.size w wr ∧ (l.take j).map Itm.abs = (m.take j).map Itm.abs)
  case atStart => exact ⟨0, Nat.zero_le _, rfl, rfl, Below.refl _ _, by simp⟩
  case round =>
    obtain ⟨j, hj, rfl, rfl, hb, ht⟩ := hrel
    have HT := hid ht
    clear ht
    by_cases hlt : j < l.length
    · have hlt2 : j < m.length := by have := HLM.out; omega
      have i0 : (0 : Int) ≤ (j : Int) := by omega
      have i1 : (j : Int) < (l.length : Int) := by omega
      have i2 : (j : Int) < (m.length : Int) := by omega
      have h1 := h.below hb
      have k1 := k.below hb
      obtain ⟨b, off, hA, c0, c1, c2, hg⟩ := h1.at hlt
      obtain ⟨b', off', hB, c0', c1', c2', hg'⟩ := k1.at hlt2
      subst hA
      subst hB
      have u0 := under_cell c0
      have u1 := under_cell c1
      have u2 := under_cell c2
      have v0 := under_cell c0'
      have v1 := under_cell c1'
      have v2 := under_cell c2'
      have HS := hid (fun W => under_call (refsameitem l[j] m[j] (under wr W) (hg.below (under_below wr W)) (hg'.below (under_below wr W))))
      have HE := hid (sameI_abs l[j] m[j])
      clear c0 c1 c2 c0' c1' c2' h1 k1 hg hg' h k
      cases hs : sameI l[j] m[j]
      · rw [hs] at HS
        go_wp2_with fail
        refine wp_region_under (by kernel_rfl) (by kernel_rfl) ?_
        repeat (go_big_quiet_step (with_reducible exact HS.out _))
        refine wpQuiet_nil ?_
        intro _ hw'
        obtain ⟨Wq, hw''⟩ := hw'
        subst hw''
        go_wp2_with fail
        go_ret
        refine ⟨?_, hb.trans ((under_below wr Wq).mono hb.size)⟩
        have hne : decide (l.map Itm.abs = m.map Itm.abs) = false := decide_eq_false (fun e => by
          have h1 := HE.out
          rw [hs] at h1
          refine of_decide_eq_false h1.symm ?_
          have h2 := congrArg (·[j]?) e
          simpa [hlt, hlt2] using h2)
        rw [hne]; rfl
      · rw [hs] at HS
        go_wp2_with fail
        refine wp_region_under (by kernel_rfl) (by kernel_rfl) ?_
        repeat (go_big_quiet_step (with_reducible exact HS.out _))
        refine wpQuiet_nil ?_
        intro _ hw'
        obtain ⟨Wq, hw''⟩ := hw'
        subst hw''
        go_wp2_with fail
        go_roundg (l.length - (j + 1))
        case measure => omega
        case rel => exact ⟨j + 1, by omega, rfl, by go_num, hb.trans ((under_below wr Wq).mono hb.size), by
          have h1 := HE.out
          rw [hs] at h1
          have h2 := of_decide_eq_true h1.symm
          rw [List.take_add_one, List.take_add_one, List.map_append, List.map_append, HT.out]
          simp [hlt, hlt2, h2]⟩
    · obtain rfl : j = l.length := by omega
      have he : l.map Itm.abs = m.map Itm.abs := by
        have h1 := HT.out
        rw [List.take_length, HLM.out, List.take_length] at h1
        exact h1
      have HEQ := hid he
      clear he
      go_wp2_with fail
      go_ret
      exact ⟨by rw [decide_eq_true HEQ.out]; rfl, hb⟩

/-- how many bytes there are -/
def bytesA (t : List AIt) : Nat := (t.map fun x => x.b.length).sum

end Go.Proofs.YtfbbjfbnkcklgaaGreatDoor
