/- the reference's Recv, Cut -/
import Derived.Test.YtodbnmigdnmjnaaY1
namespace Go.Proofs.Ytodbnmigdnmjnaa
open Go.RowKit

set_option maxHeartbeats 400000 in
theorem rrecv_none {w : World} {R : Nat → Prop} {g : Nat} {room : Int} {q : Bool → Value} {cut : Bool} {sent bytes : Int} {vs : Bool → List Value} {ms : Bool → List (List Int)} (h : RN w R g room q cut sent bytes vs ms) (i : Int)
    (hi : offEnd i ∨ ∃ t, i = endI t ∧ ms t = []) :
    Calls Try.prog 31 #[.pointer (some ⟨g, 0, none⟩), .int .i64 i] w fun e w' => e = .returned (.tuple #[.slice none 0 0, .bool false]) ∧ w = w' := by
  have H : Calls Try.prog 49 #[.pointer (some ⟨g, 0, none⟩), .int .i64 i, .int .i64 0] w fun e w' => e = .returned (.bool false) ∧ w = w' := by
    rcases hi with hi | ⟨t, rfl, hm⟩
    · exact rhas_off _ i 0 w hi
    · obtain ⟨A, c, _, hq, _⟩ := h.q_at t
      refine (rhas_in g t 0 _ _ _ w hq).mono ?_
      rintro e w' ⟨rfl, rfl⟩
      exact ⟨by simp [hm], rfl⟩
  have H := hid H
  clear h hi
  go_enter Try.func31, Try.ntmps31
  go_wp2_with (go_at_call 49; refine H.out.mono ?_; rintro e w' ⟨rfl, rfl⟩)
  go_ret2
  exact ⟨rfl, rfl⟩

set_option maxRecDepth 100000 in
set_option maxHeartbeats 1600000 in
theorem rrecv1 (g qb off n c : Nat) (i : Int) (vA : Option Addr) (vn vc : Nat) (w : World) (h0 : 0 ≤ i) (h1 : i < 2) (H : HidP (Calls Try.prog 49 #[.pointer (some ⟨g, 0, none⟩), .int .i64 i, .int .i64 0] w fun e w' => e = .returned (.bool true) ∧ w = w'))
    (cg : w.cell? ⟨g, 1 + i.toNat, none⟩ = some (.slice (some ⟨qb, off, none⟩) n c)) (fg : w.frozen? ⟨g, 1 + i.toNat, none⟩ = false) (hn : 1 ≤ n) (hc : n ≤ c) (he : w.cell? ⟨qb, off, none⟩ = some (.slice vA vn vc)) (hcm : c ≤ 9223372036854775807) :
    Calls Try.prog 31 #[.pointer (some ⟨g, 0, none⟩), .int .i64 i] w fun e w' => e = .returned (.tuple #[.slice vA vn vc, .bool true]) ∧ w' = w.drew.setCell ⟨g, 1 + i.toNat, none⟩ (tailOf ⟨qb, off, none⟩ n c) := by
  have l1 : (0 : Int) ≤ 1 := by omega
  have l2 : (1 : Int) ≤ (n : Int) := by omega
  have l3 : (n : Int) ≤ (c : Int) := by omega
  have l4 : (0 : Int) < (n : Int) := by omega
  have hN : 1 + i.toNat = 1 ∨ 1 + i.toNat = 2 := by omega
  by_cases h1 : c = 1
  · subst h1
    obtain rfl : n = 1 := by omega
    go_enter Try.func31, Try.ntmps31
    go_wp2_with (go_at_call 49; refine H.out.mono ?_; rintro e w' ⟨rfl, rfl⟩)
    go_region
    all_goals
      go_wp2_with fail
      go_ret2
      exact ⟨rfl, rfl⟩
  · have h2 : (c = 1) = False := by simpa using h1
    go_enter Try.func31, Try.ntmps31
    go_wp2_with (go_at_call 49; refine H.out.mono ?_; rintro e w' ⟨rfl, rfl⟩)
    go_region
    all_goals
      go_wp2_with fail
      go_ret2
      exact ⟨rfl, by simp [tailOf, h1, add_lit']; rfl⟩

theorem Below.drew0 (B : Nat) (w : World) : Below B w w.drew := ⟨rfl, rfl, rfl, Nat.le_refl _, fun _ _ => rfl⟩

theorem rrecv_ok {w : World} {R : Nat → Prop} {g : Nat} {room : Int} {q : Bool → Value} {cut : Bool} {sent bytes : Int} {vs : Bool → List Value} {ms : Bool → List (List Int)} (h : RN w R g room q cut sent bytes vs ms) (t : Bool) (m : List Int) (r : List (List Int))
    (hm : ms t = m :: r) :
    Calls Try.prog 31 #[.pointer (some ⟨g, 0, none⟩), .int .i64 (endI t)] w fun e w' => ∃ vA vn vc, e = .returned (.tuple #[.slice vA vn vc, .bool true]) ∧ Row w' 5 1 (.slice vA vn vc) (nums m) ∧ (∀ k, (Value.slice vA vn vc).ownBlock = some k → R k) ∧
      (∃ q' vs', RN w' (ext R w w') g room q' cut sent bytes vs' (upd ms t r)) ∧ Keep (· ≠ g) w w' := by
  have ⟨e0, e1⟩ := endI_range t
  obtain ⟨A, c, hqt, hq, hr⟩ := h.q_at t
  have hl0 : 0 < (ms t).length := by rw [hm]; simp
  have hrow := hr
  obtain ⟨qb, off, rfl⟩ := hr.someOf hl0
  obtain ⟨vA, vc, hv, hrm⟩ := h.msg_at t hl0
  have hm0 : (ms t)[0] = m := by simp [hm]
  rw [hm0] at hv hrm
  have hc0 := (hr.cellAt hv).1
  rw [Nat.add_zero] at hc0
  obtain ⟨_, _, _, hv', _, hnc, hcm, _⟩ := hr
  cases hv'
  have H : Calls Try.prog 49 #[.pointer (some ⟨g, 0, none⟩), .int .i64 (endI t), .int .i64 0] w fun e w' => e = .returned (.bool true) ∧ w = w' := by
    refine (rhas_in g t 0 _ _ _ w hq).mono ?_
    rintro e w' ⟨rfl, rfl⟩
    exact ⟨by simp [hl0], rfl⟩
  refine (rrecv1 g qb off (ms t).length c (endI t) vA m.length vc w e0 e1 (hid H) hq (h.free _) hl0 hnc hc0 (by simp only [maxLen] at hcm; omega)).mono ?_
  rintro e w' ⟨rfl, hw'⟩
  have hlen := h.len t
  have htl := Row.tailOf (w := w) hrow hl0
  have hX := h.queue t hw' (Below.drew0 _ _) (htl.1.keep fun _ _ => rfl) (fun k hk => .inl (h.qR t k (by rw [hqt]; rw [htl.2] at hk; exact hk))) (ms' := r)
    (by simp [hlen, hm]) (fun j u mm hu hmm => by
      rw [List.getElem?_tail] at hu
      exact (h.msg t (j + 1) u mm hu (by rw [hm]; simpa using hmm)).keep fun _ _ => rfl) (fun j u k hu hk => by
      rw [List.getElem?_tail] at hu
      exact .inl (h.mR t (j + 1) u k hu hk))
  refine ⟨vA, m.length, vc, rfl, ?_, fun k hk => h.mR t 0 _ k hv hk, ⟨_, _, hX.1⟩, hX.2⟩
  exact hrm.keep fun k hk => hX.2.block k (hrm.lt k hk) (by rintro rfl; exact hrm.ne h.net (by decide) hk)

set_option maxHeartbeats 800000 in
theorem rcut_true {w : World} {R : Nat → Prop} {g : Nat} {room : Int} {q : Bool → Value} {cut : Bool} {sent bytes : Int} {vs : Bool → List Value} {ms : Bool → List (List Int)} (h : RN w R g room q cut sent bytes vs ms) :
    Calls Try.prog 37 #[.pointer (some ⟨g, 0, none⟩), .bool true] w fun e w' => e = .returned (.tuple #[]) ∧ RN w' (ext R w w') g room (fun _ => .slice none 0 0) true sent bytes (fun _ => []) (fun _ => []) ∧ Keep (· ≠ g) w w' := by
  have hgR := h.gR
  have hnet := h.net
  clear h
  have c3 : w.cell? ⟨g, 3, none⟩ = some (.bool cut) := (blkCell hnet 3).trans rfl
  have c1 : w.cell? ⟨g, 1, none⟩ = some (q false) := (blkCell hnet 1).trans rfl
  have c2 : w.cell? ⟨g, 2, none⟩ = some (q true) := (blkCell hnet 2).trans rfl
  have f3 := blkFree hnet 3
  have f1 := blkFree hnet 1
  have f2 := blkFree hnet 2
  have hn := hid hnet
  clear hnet
  go_enter Try.func37, Try.ntmps37
  go_wp2
  go_end0
  have h1 := blkSet hn.out 3 (.bool true)
  have h2 := blkSet h1 1 (.slice none 0 0)
  have h3 := blkSet h2 2 (.slice none 0 0)
  have hk := (((Keep.refl (· ≠ g) w).setCell (p := ⟨g, 3, none⟩) (.inl (by simp)) (.bool true)).setCell (p := ⟨g, 1, none⟩) (.inl (by simp)) (.slice none 0 0)).setCell (p := ⟨g, 2, none⟩) (.inl (by simp)) (.slice none 0 0)
  refine ⟨rfl, ⟨?_, .inl hgR, fun _ => Row.nil _ _ _, fun _ k hk => by simp [Value.ownBlock] at hk, fun _ => rfl, fun _ _ _ _ hv => by simp at hv, fun _ _ _ _ hv => by simp at hv⟩, hk⟩
  rw [h3]; simp [netCells]

set_option maxHeartbeats 400000 in
theorem rcut_false {w : World} {R : Nat → Prop} {g : Nat} {room : Int} {q : Bool → Value} {cut : Bool} {sent bytes : Int} {vs : Bool → List Value} {ms : Bool → List (List Int)} (h : RN w R g room q cut sent bytes vs ms) :
    Calls Try.prog 37 #[.pointer (some ⟨g, 0, none⟩), .bool false] w fun e w' => e = .returned (.tuple #[]) ∧ RN w' (ext R w w') g room q false sent bytes vs ms ∧ Keep (· ≠ g) w w' := by
  have H := hid (h.setNet 3 (.bool false) (cut' := false) (sent' := sent) (bytes' := bytes) (by simp [netCells]))
  have hk := (Keep.refl (· ≠ g) w).setCell (p := ⟨g, 3, none⟩) (.inl (by simp)) (.bool false)
  have c3 : w.cell? ⟨g, 3, none⟩ = some (.bool cut) := (blkCell h.net 3).trans rfl
  have f3 := h.free 3
  clear h
  go_enter Try.func37, Try.ntmps37
  go_wp2
  go_end0
  exact ⟨rfl, H.out.keepR (Keep.refl _ _) fun _ hk => .inl hk, hk⟩

end Go.Proofs.Ytodbnmigdnmjnaa
