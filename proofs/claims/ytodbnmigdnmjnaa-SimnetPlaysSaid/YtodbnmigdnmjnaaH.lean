/- Send, Recv, Cut, New: what each makes of a net -/
import Derived.Test.YtodbnmigdnmjnaaG
namespace Go.Proofs.Ytodbnmigdnmjnaa
open Go.RowKit

def endI (t : Bool) : Int := if t then 1 else 0
def netCells (room : Int) (q : Bool → Value) (cut : Bool) (sent bytes : Int) : Array Value := #[.int .i64 room, q false, q true, .bool cut, .int .i64 sent, .int .i64 bytes]
theorem netCells_q (room : Int) (q : Bool → Value) (cut : Bool) (sent bytes : Int) (t : Bool) : (netCells room q cut sent bytes)[1 + (endI t).toNat]? = some (q t) := by cases t <;> rfl
theorem netCells_set (room : Int) (q : Bool → Value) (cut : Bool) (sent bytes : Int) (t : Bool) (x : Value) : (netCells room q cut sent bytes).setIfInBounds (1 + (endI t).toNat) x = netCells room (upd q t x) cut sent bytes := by
  cases t <;> simp [netCells, upd, endI]
theorem netCells_sent (room : Int) (q : Bool → Value) (cut : Bool) (sent bytes x : Int) : (netCells room q cut sent bytes).setIfInBounds 4 (.int .i64 x) = netCells room q cut x bytes := by simp [netCells]
theorem netCells_bytes (room : Int) (q : Bool → Value) (cut : Bool) (sent bytes x : Int) : (netCells room q cut sent bytes).setIfInBounds 5 (.int .i64 x) = netCells room q cut sent x := by simp [netCells]
theorem endI_range (t : Bool) : 0 ≤ endI t ∧ endI t < 2 := by cases t <;> simp [endI]

structure PN (w : World) (R : Nat → Prop) (g : Nat) (room : Int) (q : Bool → Value) (cut : Bool) (sent bytes : Int) (vs : Bool → List Value) (ms : Bool → List (List Int)) : Prop where
  net : w.heap[g]? = some (.cells (netCells room q cut sent bytes) 59 (0, 0))
  gR : ¬ R g
  Rlt : ∀ k, R k → k < w.heap.size
  core : Core w R q vs ms

set_option maxHeartbeats 800000 in
theorem send_ok {w : World} {R : Nat → Prop} {g : Nat} {room : Int} {q : Bool → Value} {sent bytes : Int} {vs : Bool → List Value} {ms : Bool → List (List Int)} (h : PN w R g room q false sent bytes vs ms) (t : Bool) (b : Value) (bs : List Int)
    (hb : Src w 1 b (nums bs)) (hbl : bs.length ≤ 60000) (hn : ((ms t).length : Int) < room) (hr1 : room ≤ 1000) (hs0 : 0 ≤ sent) (hs1 : sent ≤ 1000000000) (hy0 : 0 ≤ bytes) (hy1 : bytes ≤ 1000000000) :
    Calls Try.prog 8 #[.pointer (some ⟨g, 0, none⟩), .int .i64 (endI (!t)), b] w fun e w' => e = .returned (.int .i64 0) ∧
      ∃ q' vs', PN w' R g room q' false (sent + 1) (bytes + bs.length) vs' (upd ms t (ms t ++ [bs])) ∧ Keep R w w' := by
  obtain ⟨hnet, hgR, hRlt, hcore⟩ := h
  obtain ⟨A, n, c, hqt, hlv, _⟩ := id (hcore.row t)
  have hlm := hcore.len t
  obtain rfl : n = (ms t).length := by omega
  have hne := (hcore.row t).ne hnet (by decide)
  obtain ⟨bA, bn, bc, rfl, hbn, _⟩ := id hb
  obtain rfl : bn = bs.length := by have := nums_length bs; omega
  have ⟨e0, e1⟩ := endI_range t
  have HP := (put_ok g (endI t) room A (ms t).length c (vs t) (.slice bA bs.length bc) bs w e0 e1 ((blkCell hnet 0).trans rfl) ((blkCell hnet _).trans ((netCells_q _ _ _ _ _ t).trans (by rw [hqt]))) ((blkCell hnet 3).trans rfl) (blkFree hnet _)
    (hqt ▸ hcore.row t) (hqt ▸ Ne.symm hne) hb hbl hn hr1)
  have Hq := hid hqt
  have K1 : ∀ (v q' : Value) (w2 : World), Row w2 5 1 v (nums bs) → Row w2 28 1 q' (vs t ++ [v]) → w.grownBy w2 (Value.slice A (ms t).length c).ownBlock → (∀ k, v.ownBlock = some k → w.heap.size ≤ k) →
      (q'.ownBlock = (Value.slice A (ms t).length c).ownBlock ∨ ∃ k, q'.ownBlock = some k ∧ w.heap.size ≤ k) →
      (w2.setCell ⟨g, 1 + (endI t).toNat, none⟩ q').heap[g]? = some (.cells (netCells room (upd q t q') false sent bytes) 59 (0, 0)) ∧ Core (w2.setCell ⟨g, 1 + (endI t).toNat, none⟩ q') R (upd q t q') (upd vs t (vs t ++ [v])) (upd ms t (ms t ++ [bs])) ∧
      Keep R w (w2.setCell ⟨g, 1 + (endI t).toNat, none⟩ q') := by
    intro v q' w2 h1 h2 h3 h4 h5
    have hg2 : w2.heap[g]? = some (.cells (netCells room q false sent bytes) 59 (0, 0)) := (h3.block g (blkLt hnet) (by rw [← hqt]; exact Ne.symm hne)).trans hnet
    refine ⟨?_, ?_, ?_⟩
    · have := blkSet hg2 (1 + (endI t).toNat) q'
      rw [netCells_set] at this; exact this
    · exact (hcore.push hRlt t h1 h2 (hqt ▸ h3) h4 (hqt ▸ h5)).set hg2 (by decide) (by decide) _ _
    · exact ((Keep.refl R w).grown h3 (fun k hk => .inl (hcore.qR t k (by rw [hqt]; exact hk)))).setCell (p := ⟨g, _, none⟩) (.inl hgR) _
  clear hqt hlv hlm hne hbn hcore hnet hb
  have hw1 : -9223372036854775808 ≤ sent + 1 := by omega
  have hw2 : sent + 1 ≤ 9223372036854775807 := by omega
  have hw3 : -9223372036854775808 ≤ bytes + bs.length := by omega
  have hw4 : bytes + bs.length ≤ 9223372036854775807 := by omega
  cases t
  all_goals
    simp only [show endI false = 0 from rfl, show endI true = 1 from rfl, show (1 : Nat) + (0 : Int).toNat = 1 from rfl, show (1 : Nat) + (1 : Int).toNat = 2 from rfl, Bool.not_false, Bool.not_true] at HP K1 ⊢
    have HP1 := hid HP
    have HK1 := hid K1
    clear HP K1
    go_enter Try.func8, Try.ntmps8
    go_wp2_with fail
    refine HP1.out.mono ?_
    rintro e w' ⟨rfl, v, q', w2, rfl, h1, h2, h3, h4, h5⟩
    obtain ⟨hg2, hc2, hk2⟩ := HK1.out v q' w2 h1 h2 h3 h4 h5
    clear h1 h2 h3 h4 h5
    go_wp2_with fail
    refine (add_any g 4 sent 1 _ ((blkCell hg2 4).trans rfl) (blkFree hg2 4) hw1 hw2).mono ?_
    rintro e w' ⟨rfl, rfl⟩
    have hg3 := blkSet hg2 4 (.int .i64 (sent + 1))
    rw [netCells_sent] at hg3
    have hc3 := hc2.set hg2 (by decide) (by decide) 4 (.int .i64 (sent + 1))
    have hk3 := hk2.setCell (p := ⟨g, 4, none⟩) (.inl hgR) (.int .i64 (sent + 1))
    clear hg2 hc2 hk2
    go_wp2_with fail
    refine (add_any g 5 bytes bs.length _ ((blkCell hg3 5).trans rfl) (blkFree hg3 5) hw3 hw4).mono ?_
    rintro e w' ⟨rfl, rfl⟩
    have hg4 := blkSet hg3 5 (.int .i64 (bytes + bs.length))
    rw [netCells_bytes] at hg4
    have hc4 := hc3.set hg3 (by decide) (by decide) 5 (.int .i64 (bytes + bs.length))
    have hk4 := hk3.setCell (p := ⟨g, 5, none⟩) (.inl hgR) (.int .i64 (bytes + bs.length))
    clear hg3 hc3 hk3
    go_wp2_with fail
    go_ret
    exact ⟨rfl, _, _, ⟨hg4, hgR, fun k hk => Nat.lt_of_lt_of_le (hRlt k hk) hk4.size, hc4⟩, hk4⟩

theorem offEnd_neg : offEnd (-1) := .inl (by decide)

set_option maxHeartbeats 400000 in
theorem send_off (g : Nat) (i : Int) (b : Value) (w : World) (hi : ¬ (0 ≤ i ∧ i < 2)) :
    Calls Try.prog 8 #[.pointer (some ⟨g, 0, none⟩), .int .i64 i, b] w fun e w' => e = .returned (.int .i64 1) ∧ w = w' := by
  have h0 : (i != 0) = true := by rw [bne_iff_ne]; omega
  have h1 : (i != 1) = true := by rw [bne_iff_ne]; omega
  clear hi
  go_enter Try.func8, Try.ntmps8
  go_wp2_with fail
  refine (put_off _ _ _ _ offEnd_neg).mono ?_
  rintro e w' ⟨rfl, rfl⟩
  go_wp2_with fail
  go_ret
  exact ⟨rfl, rfl⟩

set_option maxHeartbeats 400000 in
theorem send_cut (g : Nat) (t : Bool) (b : Value) (w : World) (hcut : w.cell? ⟨g, 3, none⟩ = some (.bool true)) :
    Calls Try.prog 8 #[.pointer (some ⟨g, 0, none⟩), .int .i64 (endI t), b] w fun e w' => e = .returned (.int .i64 15) ∧ w = w' := by
  cases t
  all_goals
    simp only [show endI false = 0 from rfl, show endI true = 1 from rfl]
    go_enter Try.func8, Try.ntmps8
    go_wp2_with fail
    refine (put_cut _ _ _ _ (by decide) (by decide) hcut).mono ?_
    rintro e w' ⟨rfl, rfl⟩
    go_wp2_with fail
    go_ret
    exact ⟨rfl, rfl⟩

theorem recv_ok {w : World} {R : Nat → Prop} {g : Nat} {room : Int} {q : Bool → Value} {cut : Bool} {sent bytes : Int} {vs : Bool → List Value} {ms : Bool → List (List Int)} (h : PN w R g room q cut sent bytes vs ms) (t : Bool) (m : List Int) (r : List (List Int))
    (hm : ms t = m :: r) :
    Calls Try.prog 12 #[.pointer (some ⟨g, 0, none⟩), .int .i64 (endI t)] w fun e w' => ∃ vA vn vc, e = .returned (.tuple #[.slice vA vn vc, .bool true]) ∧ Row w' 5 1 (.slice vA vn vc) (nums m) ∧ (∀ k, (Value.slice vA vn vc).ownBlock = some k → ¬ R k) ∧
      ∃ q' vs', PN w' R g room q' cut sent bytes vs' (upd ms t r) ∧ Keep R w w' ∧ ∀ (e : Bool) (i : Nat) (v : Value) (k : Nat), (vs' e)[i]? = some v → v.ownBlock = some k → (Value.slice vA vn vc).ownBlock ≠ some k := by
  obtain ⟨hnet, hgR, hRlt, hcore⟩ := h
  obtain ⟨A, n, c, hqt, hlv, hnc, hcm, hA⟩ := id (hcore.row t)
  have hlm := hcore.len t
  have hn1 : 1 ≤ n := by rw [hm] at hlm; simp at hlm; omega
  rcases hA with ⟨rfl, hc0⟩ | ⟨qb, off, cs, rfl, hb, hs, htk⟩
  · omega
  obtain ⟨v0, hv0⟩ : ∃ v0, (vs t)[0]? = some v0 := ⟨(vs t)[0]'(by omega), by simp⟩
  have hr0 := hcore.msg t 0 v0 m hv0 (by rw [hm]; rfl)
  obtain ⟨vA, vn, vc, rfl, _⟩ := id hr0
  have hsrc := (hcore.row t).src
  rw [hqt] at hsrc
  obtain ⟨_, _, _, hv, _, _, _, hcell⟩ := hsrc
  cases hv
  obtain ⟨a, ha, hc⟩ := hcell 0 _ hv0
  cases ha
  have hc' : w.cell? ⟨qb, off, none⟩ = some (.slice vA vn vc) := by simpa [Addr.add] using hc
  have ⟨e0, e1⟩ := endI_range t
  refine (recv_some g qb off n c 59 (endI t) vA vn vc (netCells room q cut sent bytes) w e0 e1 hnet ((netCells_q _ _ _ _ _ t).trans (by rw [hqt])) hn1 hnc hc' (by simp only [maxLen] at hcm; omega)).mono ?_
  rintro e w' ⟨rfl, hg', hk⟩
  rw [netCells_set] at hg'
  have hcore1 : Core w' R q vs ms := hcore.keep fun k hk1 hk2 hk3 => hk.block k hk1 (by
    rintro rfl
    obtain ⟨cs', h' | h'⟩ := hk3 <;> (rw [hnet] at h'; cases h'))
  have htl := Row.tailOf (w := w') (b := qb) (off := off) (n := n) (c := c) (e := 28) (xs := vs t) (by rw [← hqt]; exact hcore1.row t) hn1
  have hcore2 := hcore1.pop t htl.1 (by rw [htl.2, hqt]; rfl)
  have hkR : Keep R w w' := hk.mono fun k _ hr => by rintro rfl; exact hgR hr
  refine ⟨vA, vn, vc, rfl, hcore1.msg t 0 _ m hv0 (by rw [hm]; rfl), fun k hk => hcore1.mR t 0 _ k hv0 hk, _, upd vs t (vs t).tail, ⟨hg', hgR, fun k hr => Nat.lt_of_lt_of_le (hRlt k hr) hk.size, ?_⟩, hkR, ?_⟩
  · rw [hm] at hcore2; exact hcore2
  · intro e i v k hv hvk hk0
    by_cases he : e = t
    · subst he
      rw [upd_same, List.getElem?_tail] at hv
      have := (hcore1.mm e 0 _ e (i + 1) v k hv0 hv hk0 hvk).2
      omega
    · rw [upd_other _ _ _ _ he] at hv
      exact he (hcore1.mm t 0 _ e i v k hv0 hv hk0 hvk).1.symm

set_option maxHeartbeats 400000 in
theorem recv_empty (g : Nat) (i : Int) (A : Option Addr) (c : Nat) (w : World) (h0 : 0 ≤ i) (h1 : i < 2) (hq : w.cell? ⟨g, 1 + i.toNat, none⟩ = some (.slice A 0 c)) :
    Calls Try.prog 12 #[.pointer (some ⟨g, 0, none⟩), .int .i64 i] w fun e w' => e = .returned (.tuple #[.slice none 0 0, .bool false]) ∧ w.alloc (.cells #[.slice none 0 0] 28 (0, 0)) = w' := by
  have hmf := mkf
  have HH := hid (do_none g i 0 A 0 c (.func (.func 29) #[] #[.pointer (some ⟨w.heap.size, 0, none⟩)]) (w.alloc (.cells #[.slice none 0 0] 28 (0, 0))) h0 h1 (cellA hq _) (by omega))
  clear hq
  go_enter Try.func12, Try.ntmps12
  go_wp2_with (go_at_call 28; refine HH.out.mono ?_; rintro e w' ⟨rfl, rfl⟩)
  exact bodyPost_ret (v := .tuple #[.slice none 0 0, .bool false]) (by simp [results, Try.results12, go_sem]) rfl ⟨rfl, rfl⟩

set_option maxHeartbeats 400000 in
theorem cut_true {w : World} {R : Nat → Prop} {g : Nat} {room : Int} {q : Bool → Value} {cut : Bool} {sent bytes : Int} {vs : Bool → List Value} {ms : Bool → List (List Int)} (h : PN w R g room q cut sent bytes vs ms) :
    Calls Try.prog 11 #[.pointer (some ⟨g, 0, none⟩), .bool true] w fun e w' => e = .returned (.tuple #[]) ∧ PN w' R g room (fun _ => .slice none 0 0) true sent bytes (fun _ => []) (fun _ => []) ∧ Keep R w w' := by
  obtain ⟨hnet, hgR, hRlt, hcore⟩ := h
  have c3 : w.cell? ⟨g, 3, none⟩ = some (.bool cut) := (blkCell hnet 3).trans rfl
  have c1 : w.cell? ⟨g, 1, none⟩ = some (q false) := (blkCell hnet 1).trans rfl
  have c2 : w.cell? ⟨g, 2, none⟩ = some (q true) := (blkCell hnet 2).trans rfl
  have f3 := blkFree hnet 3
  have f1 := blkFree hnet 1
  have f2 := blkFree hnet 2
  have hn := hid hnet
  clear hnet
  go_enter Try.func11, Try.ntmps11
  go_wp2
  go_end0
  have h1 := blkSet hn.out 3 (.bool true)
  have h2 := blkSet h1 1 (.slice none 0 0)
  have h3 := blkSet h2 2 (.slice none 0 0)
  have hk := (((Keep.refl R w).setCell (p := ⟨g, 3, none⟩) (.inl hgR) (.bool true)).setCell (p := ⟨g, 1, none⟩) (.inl hgR) (.slice none 0 0)).setCell (p := ⟨g, 2, none⟩) (.inl hgR) (.slice none 0 0)
  refine ⟨rfl, ⟨?_, hgR, fun k hk' => Nat.lt_of_lt_of_le (hRlt k hk') hk.size, ?_⟩, hk⟩
  · rw [h3]; simp [netCells]
  · exact ⟨fun _ => Row.nil _ _ _, fun _ k hk => by simp [Value.ownBlock] at hk, fun k hk => by simp [Value.ownBlock] at hk, fun _ => rfl, fun _ _ _ _ hv => by simp at hv, fun _ _ _ _ hv => by simp at hv, fun _ _ _ _ _ _ _ hv => by simp at hv⟩

end Go.Proofs.Ytodbnmigdnmjnaa
