/- the chapter's example; what a nil net says -/
import Derived.Test.YtodbnmigdnmjnaaH
import Derived.Lib.SlBytesConst
namespace Go.Proofs.Ytodbnmigdnmjnaa
open Go.RowKit

theorem new_pn (n : Int) (w : World) (R : Nat → Prop) (hR : ∀ k, R k → k < w.heap.size) (h1 : 1 ≤ n) (h2 : n ≤ 1000) :
    Calls Try.prog 7 #[.int .i64 n] w fun e w' => e = .returned (.tuple #[.pointer (some ⟨w.heap.size, 0, none⟩), .int .i64 0]) ∧
      PN w' R w.heap.size n (fun _ => .slice none 0 0) false 0 0 (fun _ => []) (fun _ => []) ∧ Keep R w w' := by
  refine (new_ok n w h1 h2).mono ?_
  rintro e w' ⟨rfl, rfl⟩
  refine ⟨rfl, ⟨heap_alloc_new w _, fun h => by have := hR _ h; omega, fun k hk => by have := hR k hk; simp; omega, ?_⟩, (Keep.refl R w).alloc _⟩
  exact ⟨fun _ => Row.nil _ _ _, fun _ k hk => by simp [Value.ownBlock] at hk, fun k hk => by simp [Value.ownBlock] at hk, fun _ => rfl, fun _ _ _ _ hv => by simp at hv, fun _ _ _ _ hv => by simp at hv, fun _ _ _ _ _ _ _ hv => by simp at hv⟩

set_option maxRecDepth 100000 in
set_option maxHeartbeats 800000 in
theorem alive_any (w : World) : Calls Try.prog 6 #[] w fun e w' => e = .returned (.bool true) ∧ Below w.heap.size w w' := by
  go_enter Try.func6, Try.ntmps6
  go_wp2_with fail
  refine (new_pn 5 w (· < w.heap.size) (fun _ h => h) (by decide) (by decide)).mono ?_
  rintro e w1 ⟨rfl, hp1, hk1⟩
  have kc := fun (w : World) (C : Array Value) (n c : Nat) => Lib.run_convert_bytes_const (P := Try.prog) w 28 5 C n c Try.underlying28 Try.underlying5
  go_wp2_with fail
  clear kc
  have hR : ∀ k, k < w.heap.size → k < w1.heap.size := hp1.Rlt
  have hk2 := hk1.alloc (.cells #[.int .u8 97] 5 (1, 2))
  have hp2 : PN (w1.alloc (.cells #[.int .u8 97] 5 (1, 2))) (· < w.heap.size) w.heap.size 5 (fun _ => .slice none 0 0) false 0 0 (fun _ => []) (fun _ => []) :=
    ⟨(Below.heap_alloc w1 _ _ (blkLt hp1.net)).trans hp1.net, hp1.gR, fun k hk => by have := hR k hk; simp; omega, hp1.core.keep fun k hk _ _ => Below.heap_alloc w1 _ k hk⟩
  have hsrc : Src (w1.alloc (.cells #[.int .u8 97] 5 (1, 2))) 1 (.slice (some ⟨w1.heap.size, 0, none⟩) 1 1) (nums [97]) := by
    refine ⟨_, 1, 1, rfl, rfl, Nat.le_refl _, (by simp), fun j u hj => ⟨_, rfl, ?_⟩⟩
    cases j with
    | zero =>
      have hu : u = .int .u8 97 := by simp [nums] at hj; exact hj.symm
      subst hu
      rw [add_lit', cell_of_row _ _ _ _ _ _ (heap_alloc_new w1 _)]
      rfl
    | succ j => simp [nums] at hj
  have H := send_ok hp2 true _ [97] hsrc (by decide) (by decide) (by decide) (by decide) (by decide) (by decide) (by decide)
  refine H.mono ?_
  rintro e w3 ⟨rfl, q3, vs3, hp3, hk3⟩
  clear hp1 hk1 hp2 hsrc H
  have hk4 := hk2.trans hk3
  clear hk2 hk3
  go_wp2_with fail
  refine (recv_ok hp3 true [97] [] rfl).mono ?_
  rintro e w4 ⟨vA, vn, vc, rfl, hrow, hnR, q4, vs4, hp4, hk5, hnb⟩
  have hk6 := hk4.trans hk5
  have hcs : w4.cell? ⟨w.heap.size, 4, none⟩ = some (.int .i64 1) := (blkCell hp4.net 4).trans rfl
  have hconv : (convert 28 9 (.slice vA vn vc)).run Try.prog w4 = .ok (.string ⟨#[97]⟩) w4 := hrow.src.string
  clear hp3 hk4 hk5 hnb hnR
  go_wp2_with fail
  refine (sent_any _ 1 _ hcs).mono ?_
  rintro e w' ⟨rfl, rfl⟩
  go_wp2_with fail
  go_ret
  exact ⟨rfl, Below.ofKeep hk6 (Nat.le_refl _)⟩

set_option maxRecDepth 100000 in
set_option maxHeartbeats 1600000 in
theorem nils_walk (e0 i : Int) (A : Option Addr) (n c : Nat) (w : World) :
    Calls Try.prog 5 #[.int .i64 e0, .int .i64 i, .slice A n c] w fun e w' => e = .returned (.bool true) ∧ Below w.heap.size w w' := by
  by_cases hn : 200 < n
  · have g1 : decide ((n : Int) > 200) = true := by simp; omega
    go_enter Try.func5, Try.ntmps5
    go_wp2_with fail
    refine (alive_any _).mono ?_
    rintro e w' ⟨rfl, hb⟩
    go_wp2_with fail
    go_ret
    exact ⟨rfl, hb⟩
  · have g1 : decide ((n : Int) > 200) = false := by simp; omega
    go_enter Try.func5, Try.ntmps5
    go_wp2_with fail
    refine (cut_nil _ _).mono ?_
    rintro e w' ⟨rfl, rfl⟩
    go_wp2_with fail
    refine (recv_nil _ _).mono ?_
    rintro e w1 ⟨rfl, hw1⟩
    have hb1 : Below w.heap.size w w1 := by rw [hw1]; exact (Below.refl _ _).alloc (Nat.le_refl _) _
    clear hw1
    go_wp2_with fail
    refine (send_nil _ _ _).mono ?_
    rintro e w' ⟨rfl, rfl⟩
    go_wp2_with fail
    refine (forge_nil _ _ _).mono ?_
    rintro e w' ⟨rfl, rfl⟩
    go_wp2_with fail
    refine (drop_nil _ _ _).mono ?_
    rintro e w2 ⟨rfl, hb2⟩
    replace hb2 := hb1.trans (hb2.mono hb1.size)
    clear hb1
    go_wp2_with fail
    refine (again_nil _ _ _).mono ?_
    rintro e w3 ⟨rfl, hb3⟩
    replace hb3 := hb2.trans (hb3.mono hb2.size)
    clear hb2
    go_wp2_with fail
    refine (swap_nil _ _ _ _).mono ?_
    rintro e w4 ⟨rfl, hb4⟩
    replace hb4 := hb3.trans (hb4.mono hb3.size)
    clear hb3
    go_wp2_with fail
    refine (turn_nil _ _ _ _ _).mono ?_
    rintro e w5 ⟨rfl, hb5⟩
    replace hb5 := hb4.trans (hb5.mono hb4.size)
    clear hb4
    go_wp2_with fail
    refine (isCut_nil _).mono ?_
    rintro e w' ⟨rfl, rfl⟩
    go_wp2_with fail
    refine (waits_nil _ _).mono ?_
    rintro e w' ⟨rfl, rfl⟩
    go_wp2_with fail
    refine (sent_nil _).mono ?_
    rintro e w' ⟨rfl, rfl⟩
    go_wp2_with fail
    refine (bytes_nil _).mono ?_
    rintro e w' ⟨rfl, rfl⟩
    go_wp2_with fail
    refine (alive_any _).mono ?_
    rintro e w6 ⟨rfl, hb6⟩
    replace hb6 := hb5.trans (hb6.mono hb5.size)
    clear hb5
    go_wp2_with fail
    go_ret
    exact ⟨rfl, hb6⟩

end Go.Proofs.Ytodbnmigdnmjnaa
