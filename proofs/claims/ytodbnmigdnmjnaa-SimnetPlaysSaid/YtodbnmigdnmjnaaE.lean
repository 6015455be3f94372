/- the small methods of a net that is there -/
import Derived.Test.YtodbnmigdnmjnaaD
import Derived.Test.YtodbnmigdnmjnaaA2
import Derived.Laws.LoneSync
namespace Go.Proofs.Ytodbnmigdnmjnaa
open Go.RowKit

theorem blkCell {w : World} {g : Nat} {t : TypeId} {cs : Array Value} (h : w.heap[g]? = some (.cells cs t (0, 0))) (i : Nat) : w.cell? ⟨g, i, none⟩ = cs[i]? := cell_of_row w g i cs t (0, 0) h
theorem blkFree {w : World} {g : Nat} {t : TypeId} {cs : Array Value} (h : w.heap[g]? = some (.cells cs t (0, 0))) (i : Nat) : w.frozen? ⟨g, i, none⟩ = false := by simp [World.frozen?, h]
theorem blkSet {w : World} {g : Nat} {t : TypeId} {cs : Array Value} (h : w.heap[g]? = some (.cells cs t (0, 0))) (i : Nat) (u : Value) : (w.setCell ⟨g, i, none⟩ u).heap[g]? = some (.cells (cs.setIfInBounds i u) t (0, 0)) := by
  rw [setCell_eq_setRow w g i cs t (0, 0) u h]; exact setRow_heap w g cs _ t _ h
theorem blkFar {w : World} {g : Nat} {o : Obj} (h : w.heap[g]? = some o) {p : Addr} (hp : g ≠ p.block) (u : Value) : (w.setCell p u).heap[g]? = some o := (Below.heap_setCell w p u g hp).trans h
theorem blkLt {w : World} {g : Nat} {o : Obj} (h : w.heap[g]? = some o) : g < w.heap.size := (Array.getElem?_eq_some_iff.1 h).1

set_option maxHeartbeats 400000 in
theorem add_any (g j : Nat) (x d : Int) (w : World) (hc : w.cell? ⟨g, j, none⟩ = some (.int .i64 x)) (hf : w.frozen? ⟨g, j, none⟩ = false) (h1 : -9223372036854775808 ≤ x + d) (h2 : x + d ≤ 9223372036854775807) :
    Calls Try.prog 25 #[.pointer (some ⟨g, j, none⟩), .int .i64 d] w fun e w' => e = .returned (.int .i64 (x + d)) ∧ w.setCell ⟨g, j, none⟩ (.int .i64 (x + d)) = w' := by
  have hs : (Op.intArith .add .i64 x d).run Try.prog w = .ok (.int .i64 (x + d)) w := by
    have := IntWalk.i64_in (x + d) (by omega)
    simp [go_sem, this]
  have hadd := run_call_add (P := Try.prog) Try.func45 (by kernel_rfl) (by kernel_rfl) (by kernel_rfl) .i64 (by kernel_rfl) (y := d) hc hf hs
  clear hs
  go_enter Try.func25, Try.ntmps25
  go_wp2
  go_ret
  exact ⟨rfl, rfl⟩

set_option maxHeartbeats 400000 in
theorem load_any (g j : Nat) (x : Int) (w : World) (hc : w.cell? ⟨g, j, none⟩ = some (.int .i64 x)) :
    Calls Try.prog 26 #[.pointer (some ⟨g, j, none⟩)] w fun e w' => e = .returned (.int .i64 x) ∧ w = w' := by
  have hadd := run_call_load (P := Try.prog) Try.func46 (by kernel_rfl) (by kernel_rfl) (by kernel_rfl) .i64 (by kernel_rfl) hc
  go_enter Try.func26, Try.ntmps26
  go_wp2
  go_ret
  exact ⟨rfl, rfl⟩

set_option maxHeartbeats 400000 in
theorem sent_any (g : Nat) (x : Int) (w : World) (hc : w.cell? ⟨g, 4, none⟩ = some (.int .i64 x)) :
    Calls Try.prog 9 #[.pointer (some ⟨g, 0, none⟩)] w fun e w' => e = .returned (.int .i64 x) ∧ w = w' := by
  go_enter Try.func9, Try.ntmps9
  go_wp2_with (go_at_call 26; refine (load_any g 4 x _ hc).mono ?_; rintro e w' ⟨rfl, rfl⟩)
  go_ret
  exact ⟨rfl, rfl⟩

set_option maxHeartbeats 400000 in
theorem bytes_any (g : Nat) (x : Int) (w : World) (hc : w.cell? ⟨g, 5, none⟩ = some (.int .i64 x)) :
    Calls Try.prog 14 #[.pointer (some ⟨g, 0, none⟩)] w fun e w' => e = .returned (.int .i64 x) ∧ w = w' := by
  go_enter Try.func14, Try.ntmps14
  go_wp2_with (go_at_call 26; refine (load_any g 5 x _ hc).mono ?_; rintro e w' ⟨rfl, rfl⟩)
  go_ret
  exact ⟨rfl, rfl⟩

set_option maxHeartbeats 400000 in
theorem isCut_any (g : Nat) (x : Bool) (w : World) (hc : w.cell? ⟨g, 3, none⟩ = some (.bool x)) :
    Calls Try.prog 18 #[.pointer (some ⟨g, 0, none⟩)] w fun e w' => e = .returned (.bool x) ∧ w = w' := by
  go_enter Try.func18, Try.ntmps18
  go_wp2_with fail
  go_ret
  exact ⟨rfl, rfl⟩

set_option maxHeartbeats 400000 in
theorem waits_any (g : Nat) (i : Int) (A : Option Addr) (n c : Nat) (w : World) (h0 : 0 ≤ i) (h1 : i < 2) (hq : w.cell? ⟨g, 1 + i.toNat, none⟩ = some (.slice A n c)) :
    Calls Try.prog 10 #[.pointer (some ⟨g, 0, none⟩), .int .i64 i] w fun e w' => e = .returned (.int .i64 n) ∧ w = w' := by
  go_enter Try.func10, Try.ntmps10
  go_wp2_with (go_at_call 27; refine (at_in _ _ _ h0 h1).mono ?_; rintro e w' ⟨rfl, rfl⟩)
  go_ret
  exact ⟨rfl, rfl⟩

def offEnd (i : Int) : Prop := decide (i < 0) = true ∨ (decide (i < 0) = false ∧ decide (i ≥ 2) = true)
theorem offEnd_of {i : Int} (h : ¬ (0 ≤ i ∧ i < 2)) : offEnd i := by
  by_cases h0 : i < 0
  · exact .inl (by simpa using h0)
  · refine .inr ⟨by simpa using h0, ?_⟩
    simp; omega

set_option maxHeartbeats 400000 in
theorem waits_off (a : Addr) (i : Int) (w : World) (h : offEnd i) :
    Calls Try.prog 10 #[.pointer (some a), .int .i64 i] w fun e w' => e = .returned (.int .i64 0) ∧ w = w' := by
  go_enter Try.func10, Try.ntmps10
  go_wp2_with (go_at_call 27; refine (at_out _ _ _ h).mono ?_; rintro e w' ⟨rfl, rfl⟩)
  go_ret
  exact ⟨rfl, rfl⟩

set_option maxHeartbeats 400000 in
theorem put_off (a : Addr) (i : Int) (b : Value) (w : World) (h : offEnd i) :
    Calls Try.prog 24 #[.pointer (some a), .int .i64 i, b] w fun e w' => e = .returned (.int .i64 1) ∧ w = w' := by
  go_enter Try.func24, Try.ntmps24
  go_wp2_with (go_at_call 27; refine (at_out _ _ _ h).mono ?_; rintro e w' ⟨rfl, rfl⟩)
  go_ret
  exact ⟨rfl, rfl⟩

set_option maxHeartbeats 400000 in
theorem put_cut (g : Nat) (i : Int) (b : Value) (w : World) (h0 : 0 ≤ i) (h1 : i < 2) (hcut : w.cell? ⟨g, 3, none⟩ = some (.bool true)) :
    Calls Try.prog 24 #[.pointer (some ⟨g, 0, none⟩), .int .i64 i, b] w fun e w' => e = .returned (.int .i64 15) ∧ w = w' := by
  go_enter Try.func24, Try.ntmps24
  go_wp2_with (go_at_call 27; refine (at_in _ _ _ h0 h1).mono ?_; rintro e w' ⟨rfl, rfl⟩)
  go_ret
  exact ⟨rfl, rfl⟩

set_option maxHeartbeats 400000 in
theorem do_off (a : Addr) (i j : Int) (f : Value) (w : World) (h : offEnd i) :
    Calls Try.prog 28 #[.pointer (some a), .int .i64 i, .int .i64 j, f] w fun e w' => e = .returned (.bool false) ∧ w = w' := by
  go_enter Try.func28, Try.ntmps28
  go_wp2_with (go_at_call 27; refine (at_out _ _ _ h).mono ?_; rintro e w' ⟨rfl, rfl⟩)
  go_ret
  exact ⟨rfl, rfl⟩

set_option maxHeartbeats 400000 in
theorem do_none (g : Nat) (i j : Int) (A : Option Addr) (n c : Nat) (f : Value) (w : World) (h0 : 0 ≤ i) (h1 : i < 2) (hq : w.cell? ⟨g, 1 + i.toNat, none⟩ = some (.slice A n c)) (hj : ¬ (0 ≤ j ∧ j < n)) :
    Calls Try.prog 28 #[.pointer (some ⟨g, 0, none⟩), .int .i64 i, .int .i64 j, f] w fun e w' => e = .returned (.bool false) ∧ w = w' := by
  by_cases h : 0 ≤ j
  · have g1 : decide (j ≥ 0) = true := by simpa using h
    have g2 : decide (j < (n : Int)) = false := by simp; omega
    clear hj
    go_enter Try.func28, Try.ntmps28
    go_wp2_with (go_at_call 27; refine (at_in _ _ _ h0 h1).mono ?_; rintro e w' ⟨rfl, rfl⟩)
    go_ret
    exact ⟨rfl, rfl⟩
  · have g1 : decide (j ≥ 0) = false := by simpa using h
    clear hj
    go_enter Try.func28, Try.ntmps28
    go_wp2_with (go_at_call 27; refine (at_in _ _ _ h0 h1).mono ?_; rintro e w' ⟨rfl, rfl⟩)
    go_ret
    exact ⟨rfl, rfl⟩

set_option maxHeartbeats 400000 in
theorem do_some (g : Nat) (i j : Int) (A : Option Addr) (n c fn : Nat) (F : Func) (cap : List Value) (r : World → Prop) (v : Bool) (w : World) (h0 : 0 ≤ i) (h1 : i < 2) (hq : w.cell? ⟨g, 1 + i.toNat, none⟩ = some (.slice A n c)) (hj0 : 0 ≤ j) (hj1 : j < n)
    (hfn : Try.prog.funcs[fn]? = some F) (hnm : (F.name == "runtime.NumGoroutine") = false) (hbd : F.body.isNone = false)
    (hf : Calls Try.prog fn (Value.pointer (some ⟨g, 1 + i.toNat, none⟩) :: cap).toArray w fun e w' => e = .returned (.bool v) ∧ r w') :
    Calls Try.prog 28 #[.pointer (some ⟨g, 0, none⟩), .int .i64 i, .int .i64 j, .func (.func fn) #[] cap.toArray] w fun e w' => e = .returned (.bool v) ∧ r w' := by
  have hcf := fun args w => run_callFunc_go hfn hnm hbd args w
  clear hfn hnm hbd
  have g1 : decide (j ≥ 0) = true := by simpa using hj0
  have g2 : decide (j < (n : Int)) = true := by simpa using hj1
  go_enter Try.func28, Try.ntmps28
  go_wp2_with (go_at_call 27; refine (at_in _ _ _ h0 h1).mono ?_; rintro e w' ⟨rfl, rfl⟩)
  refine hf.mono ?_
  rintro e w' ⟨rfl, hr⟩
  go_wp2_with fail
  go_ret
  exact ⟨rfl, hr⟩

end Go.Proofs.Ytodbnmigdnmjnaa
