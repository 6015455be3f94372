/- Step: both nets answer alike, and hold alike -/
import Derived.Test.YtodbnmigdnmjnaaAB
namespace Go.Proofs.Ytodbnmigdnmjnaa
open Go.RowKit

structure BB (w0 w : World) (R : Nat → Prop) (g g' : Nat) (room : Int) (s s' : St) : Prop where
  p : PP w R g room s
  r : RR w R g' room s'
  low : ∀ k, k < w0.heap.size → R k
  hg : w0.heap.size ≤ g'
  keep : Keep (· < w0.heap.size) w0 w

theorem BB.size {w0 w : World} {R : Nat → Prop} {g g' : Nat} {room : Int} {s s' : St} (h : BB w0 w R g g' room s s') : w0.heap.size ≤ w.heap.size := h.keep.size
theorem BB.more {w0 w w' : World} {R R' : Nat → Prop} {g g' : Nat} {room : Int} {s s' : St} (h : BB w0 w R g g' room s s') (hb : Below w.heap.size w w') (hR : ∀ k, R k → R' k) (hR' : ∀ k, R' k → k < w'.heap.size ∧ (R k ∨ w.heap.size ≤ k)) : BB w0 w' R' g g' room s s' := by
  have hp := h.p.more hb hR'
  obtain ⟨_, ⟨q, vs, hr⟩, hl, hg, hk⟩ := h
  exact ⟨hp, ⟨q, vs, hr.keepR (Keep.ofBelow hb fun k hk _ => hk) hR⟩, fun k hk => hR k (hl k hk), hg, hk.below hb fun k _ hk' => Nat.lt_of_lt_of_le hk' hk.size⟩
theorem BB.drawn {w0 w : World} {R : Nat → Prop} {g g' : Nat} {room : Int} {s s' : St} (h : BB w0 w R g g' room s s') (n : Nat) : BB w0 (w.drewN n) R g g' room s s' :=
  h.more ⟨rfl, rfl, rfl, Nat.le_refl _, fun _ _ => rfl⟩ (fun _ hk => hk) fun k hk => ⟨h.p.lt k hk, .inl hk⟩
def withB (R : Nat → Prop) (B : Nat) : Nat → Prop := fun k => R k ∨ k = B
theorem BB.box {w0 w : World} {R : Nat → Prop} {g g' : Nat} {room : Int} {s s' : St} (h : BB w0 w R g g' room s s') (k e i j n y : Int) (b : Value) : BB w0 (boxed w k e i j n y b) (withB R w.heap.size) g g' room s s' := by
  refine h.more ((Below.refl _ _).alloc (Nat.le_refl _) _) (fun _ hk => .inl hk) fun k hk => ?_
  rcases hk with hk | rfl
  · have := h.p.lt k hk
    exact ⟨by simp [boxed]; omega, .inl hk⟩
  · exact ⟨by simp [boxed], .inr (Nat.le_refl _)⟩
theorem BB.prog {w0 W W' : World} {R : Nat → Prop} {g g' : Nat} {room : Int} {s s' s1 : St} (h : BB w0 W R g g' room s s') (hp : PP W' R g room s1) (hk : Keep R W W') : BB w0 W' R g g' room s1 s' := by
  obtain ⟨_, ⟨q, vs, hr⟩, hl, hg, hkk⟩ := h
  exact ⟨hp, ⟨q, vs, hr.keepR hk fun _ hk => hk⟩, hl, hg, hkk.trans (hk.mono fun k _ hk => hl k hk)⟩
theorem BB.ref {w0 W W' : World} {R : Nat → Prop} {g g' : Nat} {room : Int} {s s' s1 : St} (h : BB w0 W R g g' room s s') (hr : RR W' (ext R W W') g' room s1) (hk : Keep (· ≠ g') W W') : BB w0 W' (ext R W W') g g' room s s1 := by
  obtain ⟨⟨q, vs, hp⟩, ⟨q', vs', hr'⟩, hl, hg, hkk⟩ := h
  have hgg : g ≠ g' := by
    rintro rfl
    have := hp.net
    rw [hr'.net] at this
    simp at this
  have hc : Core W' R q vs s.ms := hp.core.keep fun k hk1 hk2 _ => hk.block k hk1 (by rintro rfl; exact hk2 hr'.gR)
  refine ⟨⟨q, vs, (hk.block g (blkLt hp.net) hgg).trans hp.net, ?_, ?_, ⟨hc.row, fun e k hk' hr => ?_, hc.qq, hc.len, hc.msg, fun e i v k hv hk' hr => ?_, hc.mm⟩⟩, hr, fun k hk => .inl (hl k hk), hg, hkk.trans (hk.mono fun k _ hk => by omega)⟩
  · rintro (h' | h')
    · exact hp.gR h'
    · have := blkLt hp.net; omega
  · rintro k (h' | h')
    · exact Nat.lt_of_lt_of_le (hp.Rlt k h') hk.size
    · exact h'.2
  · rcases hr with h' | h'
    · exact hc.qR e k hk' h'
    · have := (hp.core.row e).lt k hk'; omega
  · rcases hr with h' | h'
    · exact hc.mR e i v k hv hk' h'
    · obtain ⟨m, hm, hrow⟩ := hp.core.some_msg hv
      have := hrow.lt k hk'; omega

/-- a message that was there ahead of all -/
structure Low (w0 : World) (b : Value) (bs : List Int) : Prop where
  src : Src w0 1 b (nums bs)
theorem Low.at {w0 w : World} {b : Value} {bs : List Int} {R : Nat → Prop} {g g' : Nat} {room : Int} {s s' : St} (h : Low w0 b bs) (hb : BB w0 w R g g' room s s') : Src w 1 b (nums bs) :=
  h.src.keep fun k _ hk' => hb.keep.block k hk' hk'

def XX (w0 w : World) (R : Nat → Prop) (g g' : Nat) (room : Int) (s s' : St) (c : Array Value) (w' : World) : Prop := BB w0 w' (withB R w.heap.size) g g' room s' s ∧ w'.heap[w.heap.size]? = some (.cells c 44 (0, 0))
def YY (w0 w : World) (g g' : Nat) (room : Int) (s' : St) (c : Array Value) (w' : World) : Prop := (∃ R', BB w0 w' R' g g' room s' s') ∧ w'.heap[w.heap.size]? = some (.cells c 44 (0, 0))

theorem two_calls {w0 w : World} {R : Nat → Prop} {g g' : Nat} {room : Int} {s s' : St} (h : BB w0 w R g g' room s s) {b : Value} {bs : List Int} (hb : Low w0 b bs) (k e i j n y : Int) {f1 f2 : Nat} {a1 a2 : Array Value} {v : Value} (b' : Value)
    (h1 : ProgDoes f1 a1 b bs g room s s' v) (h2 : RefDoes f2 a2 b bs g' room s s' v) (nd : Nat) :
    Calls Try.prog f1 a1 ((boxed w k e i j n y b').drewN nd) (fun e' w' => e' = .returned v ∧ XX w0 w R g g' room s s' (opCells k e i j n y b') w') ∧
    ∀ w', XX w0 w R g g' room s s' (opCells k e i j n y b') w' → Calls Try.prog f2 a2 w' fun e' w'' => e' = .returned v ∧ YY w0 w g g' room s' (opCells k e i j n y b') w'' := by
  have hbox := (h.box k e i j n y b').drawn nd
  have hB : ((boxed w k e i j n y b').drewN nd).heap[w.heap.size]? = some (.cells (opCells k e i j n y b') 44 (0, 0)) := heap_alloc_new w _
  have hg'w : g' < w.heap.size := by
    obtain ⟨_, ⟨q, vs, hr⟩, _⟩ := h
    exact blkLt hr.net
  refine ⟨?_, ?_⟩
  · refine (h1 _ _ hbox.p (hb.at hbox)).mono ?_
    rintro e' w' ⟨rfl, hp, hk⟩
    exact ⟨rfl, hbox.prog hp hk, (hk.block _ (blkLt hB) (.inr rfl)).trans hB⟩
  · rintro w' ⟨hbb, hbl⟩
    refine (h2 _ _ hbb.r (hb.at hbb)).mono ?_
    rintro e' w'' ⟨rfl, hr, hk⟩
    exact ⟨rfl, ⟨_, hbb.ref hr hk⟩, (hk.block _ (blkLt hbl) (by omega)).trans hbl⟩

theorem recv_calls {w0 w : World} {R : Nat → Prop} {g g' : Nat} {room : Int} {s s' : St} (h : BB w0 w R g g' room s s) (k e i j n y : Int) (b' : Value) {m : List Int} {ok : Bool}
    (h1 : ProgRecvs e g room s s' m ok) (h2 : RefRecvs e g' room s s' m ok) :
    Calls Try.prog 12 #[.pointer (some ⟨g, 0, none⟩), .int .i64 e] (boxed w k e i j n y b') (fun e' w' => ∃ A n' c, e' = .returned (.tuple #[.slice A n' c, .bool ok]) ∧ XX w0 w R g g' room s s' (opCells k e i j n y b') w' ∧ Row w' 5 1 (.slice A n' c) (nums m)) ∧
    ∀ v w', (XX w0 w R g g' room s s' (opCells k e i j n y b') w' ∧ Row w' 5 1 v (nums m)) → Calls Try.prog 31 #[.pointer (some ⟨g', 0, none⟩), .int .i64 e] w' fun e' w'' => ∃ A n' c, e' = .returned (.tuple #[.slice A n' c, .bool ok]) ∧ YY w0 w g g' room s' (opCells k e i j n y b') w'' ∧ Src w'' 1 v (nums m) ∧ Src w'' 1 (.slice A n' c) (nums m) := by
  have hbox := h.box k e i j n y b'
  have hB : (boxed w k e i j n y b').heap[w.heap.size]? = some (.cells (opCells k e i j n y b') 44 (0, 0)) := heap_alloc_new w _
  have hg'w : g' < w.heap.size := by
    obtain ⟨_, ⟨q, vs, hr⟩, _⟩ := h
    exact blkLt hr.net
  refine ⟨?_, ?_⟩
  · refine (h1 _ _ hbox.p).mono ?_
    rintro e' w' ⟨A, n', c, rfl, hrow, hp, hk⟩
    exact ⟨A, n', c, rfl, ⟨hbox.prog hp hk, (hk.block _ (blkLt hB) (.inr rfl)).trans hB⟩, hrow⟩
  · rintro v w' ⟨⟨hbb, hbl⟩, hrv⟩
    have hbb' := hbb
    refine (h2 _ _ hbb.r).mono ?_
    rintro e' w'' ⟨A, n', c, rfl, hrow, hr, hk⟩
    refine ⟨A, n', c, rfl, ⟨⟨_, hbb.ref hr hk⟩, (hk.block _ (blkLt hbl) (by omega)).trans hbl⟩, ?_, hrow.src⟩
    obtain ⟨_, ⟨q, vs, hr'⟩, _⟩ := hbb'
    exact (hrv.keep fun k hk' => hk.block k (hrv.lt k hk') (by rintro rfl; exact hrv.ne hr'.net (by decide) hk')).src

def StepOK (w0 : World) (g g' : Nat) (room : Int) (n : Nat) (s : St) (k e : Int) (e' : Ending) (w' : World) : Prop :=
  e' = .returned (.bool true) ∧ ∃ R' s', BB w0 w' R' g g' room s' s' ∧ Inv room (n + 1) s' ∧ (k = 1 → ∀ t, e = endI t → s'.ms = upd s.ms t (s.ms t).tail)

theorem step_ok {w0 w : World} {R : Nat → Prop} {g g' : Nat} {room : Int} {s : St} {N : Nat} (h : BB w0 w R g g' room s s) (hi : Inv room N s) (hN : N ≤ 10000) {b : Value} {bs : List Int} (hb : Low w0 b bs) (k e i j n y : Int) :
    Calls Try.prog 17 #[.pointer (some ⟨g, 0, none⟩), .pointer (some ⟨g', 0, none⟩), .agg #[.int .i64 k, .int .i64 e, .int .i64 i, .int .i64 j, .int .i64 n, .int .u8 y, b]] w (StepOK w0 g g' room N s k e) := by
  have fin : ∀ {s' : St} {k : Int} {c : Array Value} {w' : World}, Inv room (N + 1) s' → k ≠ 1 → YY w0 w g g' room s' c w' → ∃ R' s', BB w0 w' R' g g' room s' s' ∧ Inv room (N + 1) s' ∧ (k = 1 → ∀ t, e = endI t → s'.ms = upd s.ms t (s.ms t).tail) :=
    fun hinv hk hy => by obtain ⟨⟨R', hbb⟩, _⟩ := hy; exact ⟨R', _, hbb, hinv, fun hh => absurd hh hk⟩
  by_cases k0 : k = 0
  · subst k0
    obtain ⟨v, s', hinv, h1, h2⟩ := op_send hi hN g g' e b bs
    obtain ⟨c1, c2⟩ := two_calls h hb 0 e i j n y b h1 h2 1
    refine (step_send g g' e i j n y b w v _ _ (hid fun w' hx => Boxed.of hx.2) (hid fun w' hy => Boxed.of hy.2) (hid c1) (hid c2)).mono ?_
    rintro e' w' ⟨rfl, hy⟩
    exact ⟨rfl, fin hinv (by decide) hy⟩
  by_cases k1 : k = 1
  · subst k1
    obtain ⟨m, ok, s', hinv, hm, hms, _, h1, h2⟩ := op_recv hi g g' e
    obtain ⟨c1, c2⟩ := recv_calls h 1 e i j n y b h1 h2
    refine (step_recv g g' e i j n y b w m hm ok (fun v w' => XX w0 w R g g' room s s' (opCells 1 e i j n y b) w' ∧ Row w' 5 1 v (nums m)) (fun _ w' => YY w0 w g g' room s' (opCells 1 e i j n y b) w') (hid fun v w' hx => Boxed.of hx.1.2) (hid c1) (hid c2)).mono ?_
    rintro e' w' ⟨rfl, v, w2, nd, ⟨⟨R', hbb⟩, _⟩, rfl⟩
    exact ⟨rfl, R', s', hbb.drawn nd, hinv, fun _ => hms⟩
  by_cases k2 : k = 2
  · subst k2
    obtain ⟨v, s', hinv, h1, h2⟩ := op_drop hi g g' e i b bs
    obtain ⟨c1, c2⟩ := two_calls h hb 2 e i j n y b h1 h2 1
    refine (step_drop g g' e i j n y b w v _ _ (hid fun w' hx => Boxed.of hx.2) (hid fun w' hy => Boxed.of hy.2) (hid c1) (hid c2)).mono ?_
    rintro e' w' ⟨rfl, hy⟩
    exact ⟨rfl, fin hinv (by decide) hy⟩
  by_cases k3 : k = 3
  · subst k3
    obtain ⟨v, s', hinv, h1, h2⟩ := op_again hi g g' e i b bs
    obtain ⟨c1, c2⟩ := two_calls h hb 3 e i j n y b h1 h2 1
    refine (step_again g g' e i j n y b w v _ _ (hid fun w' hx => Boxed.of hx.2) (hid fun w' hy => Boxed.of hy.2) (hid c1) (hid c2)).mono ?_
    rintro e' w' ⟨rfl, hy⟩
    exact ⟨rfl, fin hinv (by decide) hy⟩
  by_cases k4 : k = 4
  · subst k4
    obtain ⟨v, s', hinv, h1, h2⟩ := op_swap hi g g' e i j b bs
    obtain ⟨c1, c2⟩ := two_calls h hb 4 e i j n y b h1 h2 1
    refine (step_swap g g' e i j n y b w v _ _ (hid fun w' hx => Boxed.of hx.2) (hid fun w' hy => Boxed.of hy.2) (hid c1) (hid c2)).mono ?_
    rintro e' w' ⟨rfl, hy⟩
    exact ⟨rfl, fin hinv (by decide) hy⟩
  by_cases k5 : k = 5
  · subst k5
    obtain ⟨v, s', hinv, h1, h2⟩ := op_turn hi g g' e i j y b bs
    obtain ⟨c1, c2⟩ := two_calls h hb 5 e i j n y b h1 h2 1
    refine (step_turn g g' e i j n y b w v _ _ (hid fun w' hx => Boxed.of hx.2) (hid fun w' hy => Boxed.of hy.2) (hid c1) (hid c2)).mono ?_
    rintro e' w' ⟨rfl, hy⟩
    exact ⟨rfl, fin hinv (by decide) hy⟩
  by_cases k6 : k = 6
  · subst k6
    obtain ⟨v, s', hinv, h1, h2⟩ := op_forge hi g g' e b bs
    obtain ⟨c1, c2⟩ := two_calls h hb 6 e i j n y b h1 h2 1
    refine (step_forge g g' e i j n y b w v _ _ (hid fun w' hx => Boxed.of hx.2) (hid fun w' hy => Boxed.of hy.2) (hid c1) (hid c2)).mono ?_
    rintro e' w' ⟨rfl, hy⟩
    exact ⟨rfl, fin hinv (by decide) hy⟩
  by_cases k7 : k = 7
  · subst k7
    obtain ⟨s', hinv, h1, h2⟩ := op_cut hi g g' (n == 1) b bs
    obtain ⟨c1, c2⟩ := two_calls h hb 7 e i j n y b h1 h2 0
    refine (step_cut g g' e i j n y b w (n == 1) rfl _ _ (hid fun w' hx => Boxed.of hx.2) (hid c1) (hid c2)).mono ?_
    rintro e' w' ⟨rfl, hy⟩
    exact ⟨rfl, fin hinv (by decide) hy⟩
  · refine (step_none _ _ k e i j n y b w (by simpa using k0) (by simpa using k1) (by simpa using k2) (by simpa using k3) (by simpa using k4) (by simpa using k5) (by simpa using k6) (by simpa using k7)).mono ?_
    rintro e' w' ⟨rfl, rfl⟩
    exact ⟨rfl, _, s, h.box k e i j n y b, hi.more, fun hh => absurd hh k1⟩

end Go.Proofs.Ytodbnmigdnmjnaa
