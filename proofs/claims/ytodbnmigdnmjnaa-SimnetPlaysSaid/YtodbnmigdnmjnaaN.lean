/- the other methods of a net that is there: what can't be laid; a queue made anew; a message turned -/
import Derived.Test.YtodbnmigdnmjnaaM
namespace Go.Proofs.Ytodbnmigdnmjnaa
open Go.RowKit

set_option maxRecDepth 100000 in
set_option maxHeartbeats 1600000 in
theorem put_too (g : Nat) (i room : Int) (A : Option Addr) (n c : Nat) (bA : Option Addr) (bn bc : Nat) (w : World)
    (h0 : 0 ≤ i) (h1 : i < 2) (hroom : w.cell? ⟨g, 0, none⟩ = some (.int .i64 room)) (hq : w.cell? ⟨g, 1 + i.toNat, none⟩ = some (.slice A n c)) (hcut : w.cell? ⟨g, 3, none⟩ = some (.bool false))
    (hbad : 60000 < bn ∨ room ≤ n) :
    Calls Try.prog 24 #[.pointer (some ⟨g, 0, none⟩), .int .i64 i, .slice bA bn bc] w fun e w' => e = .returned (.int .i64 2) ∧ ∃ n, w.drewN n = w' := by
  by_cases hb : 60000 < bn
  · have g1 : decide ((bn : Int) > 60000) = true := by simp; omega
    clear hbad
    go_enter Try.func24, Try.ntmps24
    go_wp2_with (go_at_call 27; refine (at_in _ _ _ h0 h1).mono ?_; rintro e w' ⟨rfl, rfl⟩)
    go_quiet (fail)
    go_wp2_with fail
    go_ret
    exact ⟨rfl, _, rfl⟩
  · have g1 : decide ((bn : Int) > 60000) = false := by simp; omega
    have g2 : decide ((n : Int) ≥ room) = true := by simp; omega
    clear hbad
    go_enter Try.func24, Try.ntmps24
    go_wp2_with (go_at_call 27; refine (at_in _ _ _ h0 h1).mono ?_; rintro e w' ⟨rfl, rfl⟩)
    go_quiet (fail)
    go_wp2_with fail
    go_ret
    exact ⟨rfl, _, rfl⟩

theorem PN.drewN {w : World} {R : Nat → Prop} {g : Nat} {room : Int} {q : Bool → Value} {cut : Bool} {sent bytes : Int} {vs : Bool → List Value} {ms : Bool → List (List Int)} (h : PN w R g room q cut sent bytes vs ms) (n : Nat) : PN (w.drewN n) R g room q cut sent bytes vs ms :=
  ⟨h.net, h.gR, h.Rlt, h.core.keep fun _ _ _ _ => rfl⟩

/-- how many wait at an end, as put reads it -/
theorem PN.q_at {w : World} {R : Nat → Prop} {g : Nat} {room : Int} {q : Bool → Value} {cut : Bool} {sent bytes : Int} {vs : Bool → List Value} {ms : Bool → List (List Int)} (h : PN w R g room q cut sent bytes vs ms) (t : Bool) :
    ∃ A c, q t = .slice A (ms t).length c ∧ w.cell? ⟨g, 1 + (endI t).toNat, none⟩ = some (.slice A (ms t).length c) := by
  obtain ⟨A, n, c, hqt, hlv, _⟩ := id (h.core.row t)
  have hlm := h.core.len t
  obtain rfl : n = (ms t).length := by omega
  exact ⟨A, c, hqt, (blkCell h.net _).trans ((netCells_q _ _ _ _ _ t).trans (by rw [hqt]))⟩

theorem put_ok_pn {w : World} {R : Nat → Prop} {g : Nat} {room : Int} {q : Bool → Value} {sent bytes : Int} {vs : Bool → List Value} {ms : Bool → List (List Int)} (h : PN w R g room q false sent bytes vs ms) (i : Int) (t : Bool) (hi : i = endI t) (b : Value) (bs : List Int)
    (hb : Src w 1 b (nums bs)) (hbl : bs.length ≤ 60000) (hn : ((ms t).length : Int) < room) (hr1 : room ≤ 1000) :
    Calls Try.prog 24 #[.pointer (some ⟨g, 0, none⟩), .int .i64 i, b] w fun e w' => e = .returned (.int .i64 0) ∧
      ∃ q' vs', PN w' R g room q' false sent bytes vs' (upd ms t (ms t ++ [bs])) ∧ Keep R w w' := by
  subst hi
  obtain ⟨A, c, hqt, hcell⟩ := h.q_at t
  obtain ⟨hnet, hgR, hRlt, hcore⟩ := h
  have hne := (hcore.row t).ne hnet (by decide)
  have ⟨e0, e1⟩ := endI_range t
  refine (put_ok g (endI t) room A (ms t).length c (vs t) b bs w e0 e1 ((blkCell hnet 0).trans rfl) hcell ((blkCell hnet 3).trans rfl) (blkFree hnet _)
    (hqt ▸ hcore.row t) (hqt ▸ Ne.symm hne) hb hbl hn hr1).mono ?_
  rintro e w' ⟨he, v, q', w2, rfl, h1, h2, h3, h4, h5⟩
  have hg2 : w2.heap[g]? = some (.cells (netCells room q false sent bytes) 59 (0, 0)) := (h3.block g (blkLt hnet) (by rw [← hqt]; exact Ne.symm hne)).trans hnet
  have hk : Keep R w (w2.setCell ⟨g, 1 + (endI t).toNat, none⟩ q') := ((Keep.refl R w).grown h3 (fun k hk => .inl (hcore.qR t k (by rw [hqt]; exact hk)))).setCell (p := ⟨g, _, none⟩) (.inl hgR) _
  refine ⟨he, upd q t q', upd vs t (vs t ++ [v]), ⟨?_, hgR, fun k hk' => Nat.lt_of_lt_of_le (hRlt k hk') hk.size, ?_⟩, hk⟩
  · have := blkSet hg2 (1 + (endI t).toNat) q'
    rw [netCells_set] at this; exact this
  · exact (hcore.push hRlt t h1 h2 (hqt ▸ h3) h4 (hqt ▸ h5)).set hg2 (by decide) (by decide) _ _

theorem put_too_pn {w : World} {R : Nat → Prop} {g : Nat} {room : Int} {q : Bool → Value} {sent bytes : Int} {vs : Bool → List Value} {ms : Bool → List (List Int)} (h : PN w R g room q false sent bytes vs ms) (i : Int) (t : Bool) (hi : i = endI t) (b : Value) (bs : List Int)
    (hb : Src w 1 b (nums bs)) (hbad : 60000 < bs.length ∨ room ≤ (ms t).length) :
    Calls Try.prog 24 #[.pointer (some ⟨g, 0, none⟩), .int .i64 i, b] w fun e w' => e = .returned (.int .i64 2) ∧ ∃ n, w.drewN n = w' := by
  subst hi
  obtain ⟨A, c, hqt, hcell⟩ := h.q_at t
  obtain ⟨bA, bn, bc, rfl, _⟩ := id hb
  obtain rfl := hb.len
  have ⟨e0, e1⟩ := endI_range t
  exact put_too g (endI t) room A (ms t).length c bA bs.length bc w e0 e1 ((blkCell h.net 0).trans rfl) hcell ((blkCell h.net 3).trans rfl) hbad

set_option maxHeartbeats 400000 in
theorem send_too {w : World} {R : Nat → Prop} {g : Nat} {room : Int} {q : Bool → Value} {sent bytes : Int} {vs : Bool → List Value} {ms : Bool → List (List Int)} (h : PN w R g room q false sent bytes vs ms) (t : Bool) (b : Value) (bs : List Int)
    (hb : Src w 1 b (nums bs)) (hbad : 60000 < bs.length ∨ room ≤ (ms t).length) :
    Calls Try.prog 8 #[.pointer (some ⟨g, 0, none⟩), .int .i64 (endI (!t)), b] w fun e w' => e = .returned (.int .i64 2) ∧ ∃ n, w.drewN n = w' := by
  cases t
  · have HP := hid (put_too_pn h 0 false rfl b bs hb hbad)
    clear h hb hbad
    simp only [show endI (!false) = 1 from rfl]
    go_enter Try.func8, Try.ntmps8
    go_wp2_with fail
    refine HP.out.mono ?_
    rintro e w' ⟨rfl, n, rfl⟩
    go_wp2_with fail
    go_ret
    exact ⟨rfl, _, rfl⟩
  · have HP := hid (put_too_pn h 1 true rfl b bs hb hbad)
    clear h hb hbad
    simp only [show endI (!true) = 0 from rfl]
    go_enter Try.func8, Try.ntmps8
    go_wp2_with fail
    refine HP.out.mono ?_
    rintro e w' ⟨rfl, n, rfl⟩
    go_wp2_with fail
    go_ret
    exact ⟨rfl, _, rfl⟩

/-- Forge is put -/
theorem forge_of {w : World} {a b c : Value} {r : Ending → World → Prop} {v : Value} (h : Calls Try.prog 24 #[a, b, c] w fun e w' => e = .returned v ∧ r e w') : Calls Try.prog 19 #[a, b, c] w fun e w' => e = .returned v ∧ r e w' := by
  have H := hid h
  clear h
  go_enter Try.func19, Try.ntmps19
  go_wp2_with fail
  refine H.out.mono ?_
  rintro e w' ⟨rfl, hr⟩
  go_wp2_with fail
  go_ret
  exact ⟨rfl, hr⟩

set_option maxHeartbeats 400000 in
theorem cut_false {w : World} {R : Nat → Prop} {g : Nat} {room : Int} {q : Bool → Value} {cut : Bool} {sent bytes : Int} {vs : Bool → List Value} {ms : Bool → List (List Int)} (h : PN w R g room q cut sent bytes vs ms) :
    Calls Try.prog 11 #[.pointer (some ⟨g, 0, none⟩), .bool false] w fun e w' => e = .returned (.tuple #[]) ∧ PN w' R g room q false sent bytes vs ms ∧ Keep R w w' := by
  obtain ⟨hnet, hgR, hRlt, hcore⟩ := h
  have c3 : w.cell? ⟨g, 3, none⟩ = some (.bool cut) := (blkCell hnet 3).trans rfl
  have f3 := blkFree hnet 3
  have hn := hid hnet
  clear hnet
  go_enter Try.func11, Try.ntmps11
  go_wp2
  first | go_end0 | refine bodyPost_ret (results_none rfl _ _ _) rfl ?_
  have h1 := blkSet hn.out 3 (.bool false)
  have hk := (Keep.refl R w).setCell (p := ⟨g, 3, none⟩) (.inl hgR) (.bool false)
  refine ⟨rfl, ⟨?_, hgR, fun k hk' => Nat.lt_of_lt_of_le (hRlt k hk') hk.size, hcore.set hn.out (by decide) (by decide) _ _⟩, hk⟩
  rw [h1]; simp [netCells]

/-- a queue is made anew out of its own messages -/
theorem Core.re {w w2 : World} {R : Nat → Prop} {q : Bool → Value} {vs : Bool → List Value} {ms : Bool → List (List Int)} (h : Core w R q vs ms) (hRlt : ∀ k, R k → k < w.heap.size) (t : Bool) {q' : Value} {vs' : List Value} {ms' : List (List Int)} (f : Nat → Nat)
    (hv : ∀ (i : Nat) (v : Value), vs'[i]? = some v → (vs t)[f i]? = some v) (hm : ∀ (i : Nat) (m : List Int), ms'[i]? = some m → (ms t)[f i]? = some m) (hl : vs'.length = ms'.length) (hf : ∀ i j, i < vs'.length → j < vs'.length → f i = f j → i = j)
    (hq' : Row w2 28 1 q' vs') (hg : w.grownBy w2 (q t).ownBlock) (hat : q'.ownBlock = (q t).ownBlock ∨ ∃ k, q'.ownBlock = some k ∧ w.heap.size ≤ k) : Core w2 R (upd q t q') (upd vs t vs') (upd ms t ms') := by
  have hoth : ∀ e, e ≠ t → Row w2 28 1 (q e) (vs e) := fun e he => (h.row e).keep fun k hk => hg.block k ((h.row e).lt k hk) (fun e' => by
    cases e <;> cases t <;> first | exact he rfl | exact h.qq k hk e'.symm | exact h.qq k e'.symm hk)
  have hmsg : ∀ (e : Bool) (i : Nat) (x : Value) (m : List Int), (vs e)[i]? = some x → (ms e)[i]? = some m → Row w2 5 1 x (nums m) := fun e i x m hx hm => by
    have hr := h.msg e i x m hx hm
    exact hr.keep fun k hk => hg.block k (hr.lt k hk) (fun e' => hr.neRow (h.row t) (by decide) hk e'.symm)
  have back : ∀ (e : Bool) (i : Nat) (x : Value), (upd vs t vs' e)[i]? = some x → (vs e)[if e = t then f i else i]? = some x := by
    intro e i x hx
    by_cases he : e = t
    · subst he; rw [upd_same] at hx; simpa using hv i x hx
    · rw [upd_other _ _ _ _ he] at hx; simpa [he] using hx
  have backm : ∀ (e : Bool) (i : Nat) (x : List Int), (upd ms t ms' e)[i]? = some x → (ms e)[if e = t then f i else i]? = some x := by
    intro e i x hx
    by_cases he : e = t
    · subst he; rw [upd_same] at hx; simpa using hm i x hx
    · rw [upd_other _ _ _ _ he] at hx; simpa [he] using hx
  refine ⟨fun e => ?_, fun e k hk => ?_, fun k hk hk' => ?_, fun e => ?_, fun e i x m hx hm => hmsg e _ x m (back e i x hx) (backm e i m hm), fun e i x k hx hk => h.mR e _ x k (back e i x hx) hk, fun e i x e' i' x' k hx hx' hk hk' => ?_⟩
  · by_cases he : e = t
    · subst he; rw [upd_same, upd_same]; exact hq'
    · rw [upd_other _ _ _ _ he, upd_other _ _ _ _ he]; exact hoth e he
  · by_cases he : e = t
    · subst he; rw [upd_same] at hk
      rcases hat with ha | ⟨k', ha, hl⟩
      · exact h.qR e k (ha ▸ hk)
      · rw [ha] at hk; cases hk
        intro hR; have := hRlt _ hR; omega
    · rw [upd_other _ _ _ _ he] at hk; exact h.qR e k hk
  · have hlt : ∀ e, (q e).ownBlock = some k → k < w.heap.size := fun e he => (h.row e).lt k he
    cases t
    · simp only [upd_same] at hk
      rw [upd_other _ _ _ _ (by decide)] at hk'
      rcases hat with ha | ⟨k', ha, hl⟩
      · exact h.qq k (ha ▸ hk) hk'
      · rw [ha] at hk; cases hk; have := hlt true hk'; omega
    · simp only [upd_same] at hk'
      rw [upd_other _ _ _ _ (by decide)] at hk
      rcases hat with ha | ⟨k', ha, hl⟩
      · exact h.qq k hk (ha ▸ hk')
      · rw [ha] at hk'; cases hk'; have := hlt false hk; omega
  · by_cases he : e = t
    · subst he; rw [upd_same, upd_same]; exact hl
    · rw [upd_other _ _ _ _ he, upd_other _ _ _ _ he]; exact h.len e
  · obtain ⟨he, hi⟩ := h.mm e _ x e' _ x' k (back e i x hx) (back e' i' x' hx') hk hk'
    subst he
    refine ⟨rfl, ?_⟩
    by_cases he : e = t
    · subst he
      rw [upd_same] at hx hx'
      rw [if_pos rfl, if_pos rfl] at hi
      exact hf i i' (List.getElem?_eq_some_iff.1 hx).1 (List.getElem?_eq_some_iff.1 hx').1 hi
    · simpa [he] using hi

/-- a byte of a message is written -/
theorem Core.turn {w : World} {R : Nat → Prop} {q : Bool → Value} {vs : Bool → List Value} {ms : Bool → List (List Int)} (h : Core w R q vs ms) (t : Bool) {i at_ : Nat} {b off n c : Nat} {m : List Int} (y : Int)
    (hv : (vs t)[i]? = some (.slice (some ⟨b, off, none⟩) n c)) (hm : (ms t)[i]? = some m) (hat : at_ < n) :
    Core (w.setCell ⟨b, off + at_, none⟩ (.int .u8 y)) R q vs (upd ms t ((ms t).set i (m.set at_ y))) := by
  have hrow := h.msg t i _ m hv hm
  obtain ⟨_, _, _, hvv, _, _, _, hh⟩ := id hrow
  cases hvv
  rcases hh with ⟨hh, _⟩ | ⟨b', off', cs, hh, hb, hs, ht⟩
  · cases hh
  cases hh
  have hi : i < (ms t).length := (List.getElem?_eq_some_iff.1 hm).1
  refine ⟨fun e => (h.row e).keep fun k hk => Below.heap_setCell _ _ _ _ (by
      rintro rfl
      exact (h.row e).ne hb (by decide) hk), h.qR, h.qq, fun e => ?_, fun e i' x m' hx hm' => ?_, h.mR, h.mm⟩
  · by_cases he : e = t
    · subst he; rw [upd_same]; simpa using h.len e
    · rw [upd_other _ _ _ _ he]; exact h.len e
  · by_cases he : e = t ∧ i' = i
    · obtain ⟨rfl, rfl⟩ := he
      rw [hv] at hx; cases hx
      rw [upd_same, List.getElem?_set, if_pos rfl, if_pos hi] at hm'
      cases hm'
      exact hrow.setByte y hat
    · have hold : (ms e)[i']? = some m' := by
        by_cases he' : e = t
        · subst he'
          rw [upd_same, List.getElem?_set, if_neg (fun hh => he ⟨rfl, hh.symm⟩)] at hm'
          exact hm'
        · rw [upd_other _ _ _ _ he'] at hm'; exact hm'
      refine (h.msg e i' x m' hx hold).keep fun k hk => Below.heap_setCell _ _ _ _ ?_
      rintro rfl
      obtain ⟨h1, h2⟩ := h.mm e i' x t i _ _ hx hv hk rfl
      exact he ⟨h1, h2⟩

end Go.Proofs.Ytodbnmigdnmjnaa
