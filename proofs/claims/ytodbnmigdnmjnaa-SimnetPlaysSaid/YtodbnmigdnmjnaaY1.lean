/- the reference's put on the net, Send, Forge -/
import Derived.Test.YtodbnmigdnmjnaaX
namespace Go.Proofs.Ytodbnmigdnmjnaa
open Go.RowKit

theorem RN.free {w : World} {R : Nat → Prop} {g : Nat} {room : Int} {q : Bool → Value} {cut : Bool} {sent bytes : Int} {vs : Bool → List Value} {ms : Bool → List (List Int)} (h : RN w R g room q cut sent bytes vs ms) (j : Nat) : w.frozen? ⟨g, j, none⟩ = false := blkFree h.net j

theorem rput_ok_rn {w : World} {R : Nat → Prop} {g : Nat} {room : Int} {q : Bool → Value} {cut : Bool} {sent bytes : Int} {vs : Bool → List Value} {ms : Bool → List (List Int)} (h : RN w R g room q cut sent bytes vs ms) (i : Int) (t : Bool) (hi : i = endI t) (b : Value) (bs : List Int)
    (hb : Src w 1 b (nums bs)) (hbl : bs.length ≤ 60000) (hn : ((ms t).length : Int) < room) (hr1 : room ≤ 1000) :
    Calls Try.prog 48 #[.pointer (some ⟨g, 0, none⟩), .int .i64 i, b] w fun e w' => e = .returned (.int .i64 0) ∧
      (∃ q' vs', RN w' (ext R w w') g room q' cut sent bytes vs' (upd ms t (ms t ++ [bs]))) ∧ Keep (· ≠ g) w w' := by
  subst hi
  have ⟨e0, e1⟩ := endI_range t
  obtain ⟨A, c, hqt, hq, hr⟩ := h.q_at t
  have hroom : w.cell? ⟨g, 0, none⟩ = some (.int .i64 room) := (blkCell h.net 0).trans rfl
  refine (rput_ok g (endI t) room A (ms t).length c (vs t) b bs w e0 e1 hroom hq (h.free _) hr (h.slices t) hb hbl hn hr1).mono ?_
  rintro e w' ⟨rfl, v, q', w2, rfl, hv, hq', hbel, hfv, hfq⟩
  have hlen := h.len t
  have := h.queue t rfl hbel hq' (fun k hk => .inr (hfq k hk)) (ms' := ms t ++ [bs]) (by simp [hlen])
    (fun j u m hu hm => by
      by_cases hj : j < (vs t).length
      · rw [List.getElem?_append_left hj] at hu
        rw [List.getElem?_append_left (by omega)] at hm
        exact (h.msg t j u m hu hm).below hbel
      · rw [List.getElem?_append_right (by omega)] at hu
        rw [List.getElem?_append_right (by omega), ← hlen] at hm
        obtain ⟨hj', hu'⟩ := List.getElem?_eq_some_iff.1 hu
        have hz : j - (vs t).length = 0 := by simp at hj'; omega
        rw [hz] at hu hm
        simp at hu hm
        subst hu hm
        exact hv)
    (fun j u k hu hk => by
      by_cases hj : j < (vs t).length
      · rw [List.getElem?_append_left hj] at hu
        exact .inl (h.mR t j u k hu hk)
      · rw [List.getElem?_append_right (by omega)] at hu
        obtain ⟨hj', hu'⟩ := List.getElem?_eq_some_iff.1 hu
        have hz : j - (vs t).length = 0 := by simp at hj'; omega
        rw [hz] at hu
        simp at hu
        subst hu
        exact .inr (hfv k hk))
  exact ⟨rfl, ⟨_, _, this.1⟩, this.2⟩

theorem rput_too_rn {w : World} {R : Nat → Prop} {g : Nat} {room : Int} {q : Bool → Value} {cut : Bool} {sent bytes : Int} {vs : Bool → List Value} {ms : Bool → List (List Int)} (h : RN w R g room q cut sent bytes vs ms) (i : Int) (t : Bool) (hi : i = endI t) (b : Value) (bs : List Int)
    (hb : Src w 1 b (nums bs)) (hbad : 60000 < bs.length ∨ room ≤ (ms t).length) :
    Calls Try.prog 48 #[.pointer (some ⟨g, 0, none⟩), .int .i64 i, b] w fun e w' => e = .returned (.int .i64 2) ∧ ∃ n, w.drewN n = w' := by
  subst hi
  have ⟨e0, e1⟩ := endI_range t
  obtain ⟨A, c, hqt, hq, hr⟩ := h.q_at t
  have hroom : w.cell? ⟨g, 0, none⟩ = some (.int .i64 room) := (blkCell h.net 0).trans rfl
  obtain ⟨bA, bn, bc, rfl, hbn, _⟩ := id hb
  obtain rfl : bn = bs.length := hb.len
  exact rput_too g (endI t) room A (ms t).length c bA bs.length bc w e0 e1 hroom hq hbad

set_option maxHeartbeats 400000 in
theorem rsend_off (g : Nat) (i : Int) (b : Value) (w : World) (hi : offEnd i) :
    Calls Try.prog 30 #[.pointer (some ⟨g, 0, none⟩), .int .i64 i, b] w fun e w' => e = .returned (.int .i64 1) ∧ w = w' := by
  have H := hid (rend_off i w hi)
  clear hi
  go_enter Try.func30, Try.ntmps30
  go_wp2_with (go_at_call 47; refine H.out.mono ?_; rintro e w' ⟨rfl, rfl⟩)
  go_ret
  exact ⟨rfl, rfl⟩

set_option maxHeartbeats 400000 in
theorem rsend_cut (g : Nat) (t : Bool) (b : Value) (w : World) (hcut : w.cell? ⟨g, 3, none⟩ = some (.bool true)) :
    Calls Try.prog 30 #[.pointer (some ⟨g, 0, none⟩), .int .i64 (endI t), b] w fun e w' => e = .returned (.int .i64 15) ∧ w = w' := by
  have H := hid (rend_in t w)
  go_enter Try.func30, Try.ntmps30
  go_wp2_with (go_at_call 47; refine H.out.mono ?_; rintro e w' ⟨rfl, rfl⟩)
  go_ret
  exact ⟨rfl, rfl⟩

theorem oneLess (t : Bool) : IntKind.i64.wrap (1 - endI (!t)) = endI t := by cases t <;> decide

set_option maxHeartbeats 800000 in
theorem rsend_too {w : World} {R : Nat → Prop} {g : Nat} {room : Int} {q : Bool → Value} {sent bytes : Int} {vs : Bool → List Value} {ms : Bool → List (List Int)} (h : RN w R g room q false sent bytes vs ms) (t : Bool) (b : Value) (bs : List Int)
    (hb : Src w 1 b (nums bs)) (hbad : 60000 < bs.length ∨ room ≤ (ms t).length) :
    Calls Try.prog 30 #[.pointer (some ⟨g, 0, none⟩), .int .i64 (endI (!t)), b] w fun e w' => e = .returned (.int .i64 2) ∧ ∃ n, w.drewN n = w' := by
  have H := hid (rend_in (!t) w)
  have H2 := hid (rput_too_rn h (endI t) t rfl b bs hb hbad)
  have hcut : w.cell? ⟨g, 3, none⟩ = some (.bool false) := (blkCell h.net 3).trans rfl
  have hone := oneLess t
  clear h hb hbad
  go_enter Try.func30, Try.ntmps30
  go_wp2_with (go_at_call 47; refine H.out.mono ?_; rintro e w' ⟨rfl, rfl⟩)
  go_at_call 48
  refine H2.out.mono ?_
  rintro e w' ⟨rfl, n, rfl⟩
  go_wp2_with fail
  go_ret
  exact ⟨rfl, n, rfl⟩

theorem RN.setNet {w : World} {R : Nat → Prop} {g : Nat} {room : Int} {q : Bool → Value} {cut : Bool} {sent bytes : Int} {vs : Bool → List Value} {ms : Bool → List (List Int)} (h : RN w R g room q cut sent bytes vs ms) (j : Nat) (u : Value) {cut' : Bool} {sent' bytes' : Int}
    (hn : (netCells room q cut sent bytes).setIfInBounds j u = netCells room q cut' sent' bytes') : RN (w.setCell ⟨g, j, none⟩ u) R g room q cut' sent' bytes' vs ms :=
  h.data (fun k _ _ hne => Below.heap_setCell _ _ _ _ hne) (fun _ hk => hk) (by rw [← hn]; exact blkSet h.net j u)
theorem ext_set (R : Nat → Prop) (w w1 : World) (p : Addr) (u : Value) : ext R w (w1.setCell p u) = ext R w w1 := by
  funext k
  simp [ext, World.setCell]

set_option maxHeartbeats 800000 in
theorem rsend_ok {w : World} {R : Nat → Prop} {g : Nat} {room : Int} {q : Bool → Value} {sent bytes : Int} {vs : Bool → List Value} {ms : Bool → List (List Int)} (h : RN w R g room q false sent bytes vs ms) (t : Bool) (b : Value) (bs : List Int)
    (hb : Src w 1 b (nums bs)) (hbl : bs.length ≤ 60000) (hn : ((ms t).length : Int) < room) (hr1 : room ≤ 1000) (hs0 : 0 ≤ sent) (hs1 : sent ≤ 1000000000) (hy0 : 0 ≤ bytes) (hy1 : bytes ≤ 1000000000) :
    Calls Try.prog 30 #[.pointer (some ⟨g, 0, none⟩), .int .i64 (endI (!t)), b] w fun e w' => e = .returned (.int .i64 0) ∧
      (∃ q' vs', RN w' (ext R w w') g room q' false (sent + 1) (bytes + bs.length) vs' (upd ms t (ms t ++ [bs]))) ∧ Keep (· ≠ g) w w' := by
  have H := hid (rend_in (!t) w)
  have H2 := hid (rput_ok_rn h (endI t) t rfl b bs hb hbl hn hr1)
  have hcut : w.cell? ⟨g, 3, none⟩ = some (.bool false) := (blkCell h.net 3).trans rfl
  have hone := oneLess t
  obtain ⟨bA, bn, bc, rfl, hbn, _⟩ := id hb
  obtain rfl : bn = bs.length := hb.len
  have hw1 : IntKind.i64.wrap (sent + 1) = sent + 1 := IntWalk.i64_in _ (by omega)
  have hw2 : IntKind.i64.wrap (bytes + bs.length) = bytes + bs.length := IntWalk.i64_in _ (by omega)
  clear h hb hbl hn hbn
  go_enter Try.func30, Try.ntmps30
  go_wp2_with (go_at_call 47; refine H.out.mono ?_; rintro e w' ⟨rfl, rfl⟩)
  go_at_call 48
  refine H2.out.mono ?_
  rintro e w1 ⟨rfl, ⟨q', vs', h1⟩, hk1⟩
  have c4 : w1.cell? ⟨g, 4, none⟩ = some (.int .i64 sent) := (blkCell h1.net 4).trans rfl
  have f4 := h1.free 4
  have h2 := h1.setNet 4 (.int .i64 (sent + 1)) (netCells_sent _ _ _ _ _ _)
  rw [← ext_set R w w1 ⟨g, 4, none⟩ (.int .i64 (sent + 1))] at h2
  have c5 : (w1.setCell ⟨g, 4, none⟩ (.int .i64 (sent + 1))).cell? ⟨g, 5, none⟩ = some (.int .i64 bytes) := (blkCell h2.net 5).trans rfl
  have f5 := h2.free 5
  have h3 := h2.setNet 5 (.int .i64 (bytes + bs.length)) (netCells_bytes _ _ _ _ _ _)
  rw [← ext_set R w _ ⟨g, 5, none⟩ (.int .i64 (bytes + bs.length))] at h3
  have hk3 := (hk1.setCell (p := ⟨g, 4, none⟩) (.inl (by simp)) (.int .i64 (sent + 1))).setCell (p := ⟨g, 5, none⟩) (.inl (by simp)) (.int .i64 (bytes + bs.length))
  clear h1 h2 hk1
  have H3 := hid h3
  clear h3
  go_wp2_with fail
  go_ret
  exact ⟨rfl, ⟨_, _, H3.out⟩, hk3⟩

set_option maxHeartbeats 400000 in
theorem rforge_off (g : Nat) (i : Int) (b : Value) (w : World) (hi : offEnd i) :
    Calls Try.prog 36 #[.pointer (some ⟨g, 0, none⟩), .int .i64 i, b] w fun e w' => e = .returned (.int .i64 1) ∧ w = w' := by
  have H := hid (rend_off i w hi)
  clear hi
  go_enter Try.func36, Try.ntmps36
  go_wp2_with (go_at_call 47; refine H.out.mono ?_; rintro e w' ⟨rfl, rfl⟩)
  go_ret
  exact ⟨rfl, rfl⟩

set_option maxHeartbeats 400000 in
theorem rforge_cut (g : Nat) (t : Bool) (b : Value) (w : World) (hcut : w.cell? ⟨g, 3, none⟩ = some (.bool true)) :
    Calls Try.prog 36 #[.pointer (some ⟨g, 0, none⟩), .int .i64 (endI t), b] w fun e w' => e = .returned (.int .i64 15) ∧ w = w' := by
  have H := hid (rend_in t w)
  go_enter Try.func36, Try.ntmps36
  go_wp2_with (go_at_call 47; refine H.out.mono ?_; rintro e w' ⟨rfl, rfl⟩)
  go_ret
  exact ⟨rfl, rfl⟩

set_option maxHeartbeats 400000 in
theorem rforge_of (g : Nat) (t : Bool) (b : Value) (w : World) {r : Ending → World → Prop} {v : Value} (hcut : w.cell? ⟨g, 3, none⟩ = some (.bool false))
    (h : Calls Try.prog 48 #[.pointer (some ⟨g, 0, none⟩), .int .i64 (endI t), b] w fun e w' => e = .returned v ∧ r e w') :
    Calls Try.prog 36 #[.pointer (some ⟨g, 0, none⟩), .int .i64 (endI t), b] w fun e w' => e = .returned v ∧ r e w' := by
  have H := hid (rend_in t w)
  have H2 := hid h
  clear h
  go_enter Try.func36, Try.ntmps36
  go_wp2_with (go_at_call 47; refine H.out.mono ?_; rintro e w' ⟨rfl, rfl⟩)
  go_at_call 48
  refine H2.out.mono ?_
  rintro e w' ⟨rfl, hr⟩
  go_wp2_with fail
  go_ret
  exact ⟨rfl, hr⟩

end Go.Proofs.Ytodbnmigdnmjnaa
