/- what each call of a script answers, and leaves: of the package's net, of the reference's -/
import Derived.Test.YtodbnmigdnmjnaaY5
namespace Go.Proofs.Ytodbnmigdnmjnaa
open Go.RowKit

/-- what a net holds -/
structure St where
  cut : Bool
  sent : Int
  bytes : Int
  ms : Bool → List (List Int)

def PP (w : World) (R : Nat → Prop) (g : Nat) (room : Int) (s : St) : Prop := ∃ q vs, PN w R g room q s.cut s.sent s.bytes vs s.ms
def RR (w : World) (R : Nat → Prop) (g : Nat) (room : Int) (s : St) : Prop := ∃ q vs, RN w R g room q s.cut s.sent s.bytes vs s.ms

structure Inv (room : Int) (n : Nat) (s : St) : Prop where
  r0 : 1 ≤ room
  r1 : room ≤ 1000
  cut : s.cut = true → s.ms = fun _ => []
  long : ∀ e, ∀ m ∈ s.ms e, m.length ≤ 60000
  few : ∀ e, ((s.ms e).length : Int) ≤ room
  s0 : 0 ≤ s.sent
  s1 : s.sent ≤ n
  b0 : 0 ≤ s.bytes
  b1 : s.bytes ≤ 60000 * n

def ProgDoes (f : Nat) (args : Array Value) (b : Value) (bs : List Int) (g : Nat) (room : Int) (s s' : St) (v : Value) : Prop :=
  ∀ W R, PP W R g room s → Src W 1 b (nums bs) → Calls Try.prog f args W fun e w' => e = .returned v ∧ PP w' R g room s' ∧ Keep R W w'
def RefDoes (f : Nat) (args : Array Value) (b : Value) (bs : List Int) (g : Nat) (room : Int) (s s' : St) (v : Value) : Prop :=
  ∀ W R, RR W R g room s → Src W 1 b (nums bs) → Calls Try.prog f args W fun e w' => e = .returned v ∧ RR w' (ext R W w') g room s' ∧ Keep (· ≠ g) W w'

theorem end_cases (e : Int) : offEnd e ∨ ∃ t, e = endI t := by
  by_cases h0 : e < 0
  · exact .inl (.inl (decide_eq_true h0))
  · by_cases h2 : e ≥ 2
    · exact .inl (.inr ⟨decide_eq_false h0, decide_eq_true h2⟩)
    · rcases (show e = 0 ∨ e = 1 by omega) with rfl | rfl
      · exact .inr ⟨false, rfl⟩
      · exact .inr ⟨true, rfl⟩
theorem offEnd_out {e : Int} (h : offEnd e) : ¬ (0 ≤ e ∧ e < 2) := by
  rcases h with h | ⟨h, h2⟩ <;> simp at * <;> omega

section
variable {w w' : World} {R : Nat → Prop} {g : Nat} {room : Int} {s : St}
theorem PP.same (h : PP w R g room s) (e : w = w') : PP w' R g room s ∧ Keep R w w' := by subst e; exact ⟨h, Keep.refl _ _⟩
theorem PP.drawn (h : PP w R g room s) (e : ∃ n, w.drewN n = w') : PP w' R g room s ∧ Keep R w w' := by
  obtain ⟨n, rfl⟩ := e
  obtain ⟨q, vs, h⟩ := h
  exact ⟨⟨q, vs, h.drewN n⟩, (Keep.refl _ _).drewN n⟩
theorem PP.laid {o : Obj} (h : PP w R g room s) (e : w.alloc o = w') : PP w' R g room s ∧ Keep R w w' := by
  subst e
  obtain ⟨q, vs, h⟩ := h
  exact ⟨⟨q, vs, h.alloc o⟩, (Keep.refl _ _).alloc o⟩
theorem PP.lt (h : PP w R g room s) : ∀ k, R k → k < w.heap.size := by
  obtain ⟨q, vs, h⟩ := h; exact h.Rlt
theorem RR.same (h : RR w R g room s) (e : w = w') : RR w' (ext R w w') g room s ∧ Keep (· ≠ g) w w' := by
  subst e
  obtain ⟨q, vs, h⟩ := h
  exact ⟨⟨q, vs, h.keepR (Keep.refl _ _) fun _ hk => .inl hk⟩, Keep.refl _ _⟩
theorem RR.drawn (h : RR w R g room s) (e : ∃ n, w.drewN n = w') : RR w' (ext R w w') g room s ∧ Keep (· ≠ g) w w' := by
  obtain ⟨n, rfl⟩ := e
  obtain ⟨q, vs, h⟩ := h
  exact ⟨⟨q, vs, h.keepR ((Keep.refl _ _).drewN n) fun _ hk => .inl hk⟩, (Keep.refl _ _).drewN n⟩
end

theorem Inv.more {room : Int} {n : Nat} {s : St} (h : Inv room n s) : Inv room (n + 1) s :=
  ⟨h.r0, h.r1, h.cut, h.long, h.few, h.s0, by have := h.s1; omega, h.b0, by have := h.b1; omega⟩
theorem Inv.queue {room : Int} {n : Nat} {s : St} (h : Inv room n s) (t : Bool) (l : List (List Int)) (hc : s.cut = false) (hl : ∀ m ∈ l, m.length ≤ 60000) (hf : (l.length : Int) ≤ room) {sent bytes : Int} (hs : 0 ≤ sent ∧ sent ≤ n + 1) (hb : 0 ≤ bytes ∧ bytes ≤ 60000 * (n + 1)) :
    Inv room (n + 1) ⟨s.cut, sent, bytes, upd s.ms t l⟩ := by
  refine ⟨h.r0, h.r1, fun hh => ?_, fun e => ?_, fun e => ?_, hs.1, by simpa using hs.2, hb.1, by simpa using hb.2⟩
  · simp only at hh; rw [hc] at hh; cases hh
  · by_cases he : e = t
    · subst he; simp only [upd_same]; exact hl
    · simp only [upd_other _ _ _ _ he]; exact h.long e
  · by_cases he : e = t
    · subst he; simp only [upd_same]; exact hf
    · simp only [upd_other _ _ _ _ he]; exact h.few e
theorem Inv.same {room : Int} {n : Nat} {s : St} (h : Inv room n s) (t : Bool) (l : List (List Int)) (hne : s.ms t ≠ []) (hl : ∀ m ∈ l, m.length ≤ 60000) (hf : (l.length : Int) ≤ room) :
    Inv room (n + 1) { s with ms := upd s.ms t l } := by
  have hc : s.cut = false := by
    cases hc : s.cut with
    | false => rfl
    | true => rw [h.cut hc] at hne; exact absurd rfl hne
  exact h.queue t l hc hl hf ⟨h.s0, by have := h.s1; omega⟩ ⟨h.b0, by have := h.b1; omega⟩

theorem op_send {room : Int} {n : Nat} {s : St} (h : Inv room n s) (hn : n ≤ 10000) (g g' : Nat) (e : Int) (b : Value) (bs : List Int) :
    ∃ v s', Inv room (n + 1) s' ∧ ProgDoes 8 #[.pointer (some ⟨g, 0, none⟩), .int .i64 e, b] b bs g room s s' (.int .i64 v) ∧ RefDoes 30 #[.pointer (some ⟨g', 0, none⟩), .int .i64 e, b] b bs g' room s s' (.int .i64 v) := by
  have hs0 := h.s0
  have hs1 := h.s1
  have hb0 := h.b0
  have hb1 := h.b1
  rcases end_cases e with he | ⟨u, rfl⟩
  · refine ⟨1, s, h.more, fun W R hp hb => ?_, fun W R hp hb => ?_⟩
    · refine (send_off g e b W (offEnd_out he)).mono ?_
      rintro e w' ⟨rfl, hw⟩
      exact ⟨rfl, hp.same hw⟩
    · refine (rsend_off g' e b W he).mono ?_
      rintro e w' ⟨rfl, hw⟩
      exact ⟨rfl, hp.same hw⟩
  · obtain ⟨t, rfl⟩ : ∃ t, u = !t := ⟨!u, by simp⟩
    obtain ⟨cut, sent, bytes, ms⟩ := s
    cases cut with
    | true =>
      refine ⟨15, _, h.more, fun W R hp hb => ?_, fun W R hp hb => ?_⟩
      · refine (send_cut g (!t) b W ?_).mono ?_
        · obtain ⟨q, vs, hp⟩ := hp
          exact (blkCell hp.net 3).trans rfl
        · rintro e w' ⟨rfl, hw⟩
          exact ⟨rfl, hp.same hw⟩
      · refine (rsend_cut g' (!t) b W ?_).mono ?_
        · obtain ⟨q, vs, hp⟩ := hp
          exact (blkCell hp.net 3).trans rfl
        · rintro e w' ⟨rfl, hw⟩
          exact ⟨rfl, hp.same hw⟩
    | false =>
      by_cases hbad : 60000 < bs.length ∨ room ≤ (ms t).length
      · refine ⟨2, _, h.more, fun W R hp hb => ?_, fun W R hp hb => ?_⟩
        · obtain ⟨q, vs, hp'⟩ := id hp
          refine (send_too hp' t b bs hb hbad).mono ?_
          rintro e w' ⟨rfl, hw⟩
          exact ⟨rfl, hp.drawn hw⟩
        · obtain ⟨q, vs, hp'⟩ := id hp
          refine (rsend_too hp' t b bs hb hbad).mono ?_
          rintro e w' ⟨rfl, hw⟩
          exact ⟨rfl, hp.drawn hw⟩
      · have hbl : bs.length ≤ 60000 := by omega
        have hlt : ((ms t).length : Int) < room := by omega
        simp only at hs0 hs1 hb0 hb1
        refine ⟨0, ⟨false, sent + 1, bytes + bs.length, upd ms t (ms t ++ [bs])⟩, h.queue t (ms t ++ [bs]) rfl ?_ (by simp; omega) ⟨by omega, by omega⟩ ⟨by omega, by omega⟩, fun W R hp hb => ?_, fun W R hp hb => ?_⟩
        · intro m hm
          rcases List.mem_append.1 hm with hm | hm
          · exact h.long t m hm
          · simp at hm; subst hm; exact hbl
        · obtain ⟨q, vs, hp'⟩ := hp
          refine (send_ok hp' t b bs hb hbl hlt h.r1 hs0 (by simp only; omega) hb0 (by simp only; omega)).mono ?_
          rintro e w' ⟨rfl, q', vs', h1, h2⟩
          exact ⟨rfl, ⟨q', vs', h1⟩, h2⟩
        · obtain ⟨q, vs, hp'⟩ := hp
          refine (rsend_ok hp' t b bs hb hbl hlt h.r1 hs0 (by simp only; omega) hb0 (by simp only; omega)).mono ?_
          rintro e w' ⟨rfl, h1, h2⟩
          exact ⟨rfl, h1, h2⟩

end Go.Proofs.Ytodbnmigdnmjnaa
