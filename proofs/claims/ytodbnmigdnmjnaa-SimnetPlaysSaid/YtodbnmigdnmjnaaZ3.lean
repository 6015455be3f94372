/- Swap, Turn, Cut, Recv of a script -/
import Derived.Test.YtodbnmigdnmjnaaZ2
namespace Go.Proofs.Ytodbnmigdnmjnaa
open Go.RowKit

theorem op_swap {room : Int} {n : Nat} {s : St} (h : Inv room n s) (g g' : Nat) (e i j : Int) (b : Value) (bs : List Int) :
    ∃ v s', Inv room (n + 1) s' ∧ ProgDoes 22 #[.pointer (some ⟨g, 0, none⟩), .int .i64 e, .int .i64 i, .int .i64 j] b bs g room s s' (.bool v) ∧ RefDoes 34 #[.pointer (some ⟨g', 0, none⟩), .int .i64 e, .int .i64 i, .int .i64 j] b bs g' room s s' (.bool v) := by
  by_cases hX : ∃ t, e = endI t ∧ (0 ≤ i ∧ i < (s.ms t).length) ∧ (0 ≤ j ∧ j < (s.ms t).length)
  · obtain ⟨t, rfl, ⟨hi0, hi1⟩, ⟨hj0, hj1⟩⟩ := hX
    obtain ⟨k, rfl⟩ : ∃ k : Nat, i = k := ⟨i.toNat, by omega⟩
    obtain ⟨l, rfl⟩ : ∃ k : Nat, j = k := ⟨j.toNat, by omega⟩
    have hk : k < (s.ms t).length := by omega
    have hl : l < (s.ms t).length := by omega
    have hf := h.few t
    have hr := h.r1
    refine ⟨true, { s with ms := upd s.ms t (swapped (s.ms t) k l hk hl) }, h.same t _ (by intro hh; rw [hh] at hk; simp at hk) (fun m hm => ?_) (by simp [swapped]; exact hf), fun W R hp hb => ?_, fun W R hp hb => ?_⟩
    · obtain ⟨a, ha, rfl⟩ := List.getElem_of_mem hm
      have := swapped_get (List.getElem?_eq_getElem ha)
      exact h.long t _ (List.mem_of_getElem? this)
    · obtain ⟨q, vs, hp⟩ := hp
      refine (swap_yes hp (endI t) t rfl k l hk hl).mono ?_
      rintro e w' ⟨rfl, h1, h2⟩
      exact ⟨rfl, h1, h2⟩
    · obtain ⟨q, vs, hp⟩ := hp
      refine (rswap_yes hp (endI t) t rfl k l hk hl (by omega)).mono ?_
      rintro e w' ⟨rfl, h1, h2⟩
      exact ⟨rfl, h1, h2⟩
  · have hno : offEnd e ∨ ∃ t, e = endI t ∧ (¬ (0 ≤ i ∧ i < (s.ms t).length) ∨ ¬ (0 ≤ j ∧ j < (s.ms t).length)) := by
      rcases end_cases e with he | ⟨t, rfl⟩
      · exact .inl he
      · refine .inr ⟨t, rfl, ?_⟩
        by_cases h1 : 0 ≤ i ∧ i < (s.ms t).length
        · exact .inr fun h2 => hX ⟨t, rfl, h1, h2⟩
        · exact .inl h1
    refine ⟨false, s, h.more, fun W R hp hb => ?_, fun W R hp hb => ?_⟩
    · obtain ⟨q, vs, hp⟩ := hp
      refine (swap_no hp e i j hno).mono ?_
      rintro e w' ⟨rfl, h1, h2⟩
      exact ⟨rfl, ⟨q, vs, h1⟩, h2⟩
    · obtain ⟨q, vs, hp'⟩ := id hp
      refine (rswap_no hp' e i j hno).mono ?_
      rintro e w' ⟨rfl, hw⟩
      exact ⟨rfl, hp.same hw⟩

theorem op_turn {room : Int} {n : Nat} {s : St} (h : Inv room n s) (g g' : Nat) (e i a y : Int) (b : Value) (bs : List Int) :
    ∃ v s', Inv room (n + 1) s' ∧ ProgDoes 23 #[.pointer (some ⟨g, 0, none⟩), .int .i64 e, .int .i64 i, .int .i64 a, .int .u8 y] b bs g room s s' (.bool v) ∧ RefDoes 35 #[.pointer (some ⟨g', 0, none⟩), .int .i64 e, .int .i64 i, .int .i64 a, .int .u8 y] b bs g' room s s' (.bool v) := by
  by_cases hX : ∃ t, e = endI t ∧ ∃ k : Nat, i = k ∧ ∃ hk : k < (s.ms t).length, 0 ≤ a ∧ a < (s.ms t)[k].length
  · obtain ⟨t, rfl, k, rfl, hk, ha0, ha1⟩ := hX
    obtain ⟨l, rfl⟩ : ∃ k : Nat, a = k := ⟨a.toNat, by omega⟩
    have hl : l < (s.ms t)[k].length := by omega
    have hf := h.few t
    have hr := h.r1
    have hlong := h.long t _ (List.getElem_mem hk)
    refine ⟨true, { s with ms := upd s.ms t ((s.ms t).set k ((s.ms t)[k].set l (bits .xor .u8 (s.ms t)[k][l] y))) }, h.same t _ (by intro hh; rw [hh] at hk; simp at hk) (fun m hm => ?_) (by simp; exact hf), fun W R hp hb => ?_, fun W R hp hb => ?_⟩
    · rcases List.mem_or_eq_of_mem_set hm with hm | rfl
      · exact h.long t m hm
      · simpa using hlong
    · obtain ⟨q, vs, hp⟩ := hp
      refine (turn_yes hp (endI t) t rfl k l y hk hl).mono ?_
      rintro e w' ⟨rfl, h1, h2⟩
      exact ⟨rfl, h1, h2⟩
    · obtain ⟨q, vs, hp⟩ := hp
      refine (rturn_yes hp (endI t) t rfl k l y hk hl (by omega) hlong).mono ?_
      rintro e w' ⟨rfl, h1, h2⟩
      exact ⟨rfl, h1, h2⟩
  · have hno : offEnd e ∨ ∃ t, e = endI t ∧ ∀ k : Nat, i = k → ∀ hk : k < (s.ms t).length, ¬ (0 ≤ a ∧ a < (s.ms t)[k].length) := by
      rcases end_cases e with he | ⟨t, rfl⟩
      · exact .inl he
      · exact .inr ⟨t, rfl, fun k hk hk2 hh => hX ⟨t, rfl, k, hk, hk2, hh⟩⟩
    refine ⟨false, s, h.more, fun W R hp hb => ?_, fun W R hp hb => ?_⟩
    · obtain ⟨q, vs, hp⟩ := hp
      refine (turn_no hp e i a y hno).mono ?_
      rintro e w' ⟨rfl, h1, h2⟩
      exact ⟨rfl, ⟨q, vs, h1⟩, h2⟩
    · obtain ⟨q, vs, hp'⟩ := id hp
      refine (rturn_no hp' e i a y hno).mono ?_
      rintro e w' ⟨rfl, hw⟩
      exact ⟨rfl, hp.same hw⟩

theorem op_cut {room : Int} {n : Nat} {s : St} (h : Inv room n s) (g g' : Nat) (c : Bool) (b : Value) (bs : List Int) :
    ∃ s', Inv room (n + 1) s' ∧ ProgDoes 11 #[.pointer (some ⟨g, 0, none⟩), .bool c] b bs g room s s' (.tuple #[]) ∧ RefDoes 37 #[.pointer (some ⟨g', 0, none⟩), .bool c] b bs g' room s s' (.tuple #[]) := by
  have hs0 := h.s0
  have hs1 := h.s1
  have hb0 := h.b0
  have hb1 := h.b1
  have hr := h.r0
  cases c with
  | true =>
    refine ⟨⟨true, s.sent, s.bytes, fun _ => []⟩, ⟨h.r0, h.r1, fun _ => rfl, fun _ m hm => by simp at hm, fun _ => by simp; omega, hs0, by simp only; omega, hb0, by simp only; omega⟩, fun W R hp hb => ?_, fun W R hp hb => ?_⟩
    · obtain ⟨q, vs, hp⟩ := hp
      refine (cut_true hp).mono ?_
      rintro e w' ⟨rfl, h1, h2⟩
      exact ⟨rfl, ⟨_, _, h1⟩, h2⟩
    · obtain ⟨q, vs, hp⟩ := hp
      refine (rcut_true hp).mono ?_
      rintro e w' ⟨rfl, h1, h2⟩
      exact ⟨rfl, ⟨_, _, h1⟩, h2⟩
  | false =>
    refine ⟨{ s with cut := false }, ⟨h.r0, h.r1, fun hh => by simp at hh, h.long, h.few, hs0, by simp only; omega, hb0, by simp only; omega⟩, fun W R hp hb => ?_, fun W R hp hb => ?_⟩
    · obtain ⟨q, vs, hp⟩ := hp
      refine (cut_false hp).mono ?_
      rintro e w' ⟨rfl, h1, h2⟩
      exact ⟨rfl, ⟨_, _, h1⟩, h2⟩
    · obtain ⟨q, vs, hp⟩ := hp
      refine (rcut_false hp).mono ?_
      rintro e w' ⟨rfl, h1, h2⟩
      exact ⟨rfl, ⟨_, _, h1⟩, h2⟩

def ProgRecvs (e : Int) (g : Nat) (room : Int) (s s' : St) (m : List Int) (ok : Bool) : Prop :=
  ∀ W R, PP W R g room s → Calls Try.prog 12 #[.pointer (some ⟨g, 0, none⟩), .int .i64 e] W fun e w' => ∃ A n c, e = .returned (.tuple #[.slice A n c, .bool ok]) ∧ Row w' 5 1 (.slice A n c) (nums m) ∧ PP w' R g room s' ∧ Keep R W w'
def RefRecvs (e : Int) (g : Nat) (room : Int) (s s' : St) (m : List Int) (ok : Bool) : Prop :=
  ∀ W R, RR W R g room s → Calls Try.prog 31 #[.pointer (some ⟨g, 0, none⟩), .int .i64 e] W fun e w' => ∃ A n c, e = .returned (.tuple #[.slice A n c, .bool ok]) ∧ Row w' 5 1 (.slice A n c) (nums m) ∧ RR w' (ext R W w') g room s' ∧ Keep (· ≠ g) W w'

theorem op_recv {room : Int} {n : Nat} {s : St} (h : Inv room n s) (g g' : Nat) (e : Int) :
    ∃ (m : List Int) (ok : Bool) (s' : St), Inv room (n + 1) s' ∧ m.length ≤ 60000 ∧ (∀ t, e = endI t → s'.ms = upd s.ms t (s.ms t).tail) ∧ (s.cut = s'.cut) ∧ ProgRecvs e g room s s' m ok ∧ RefRecvs e g' room s s' m ok := by
  by_cases hX : ∃ t m r, e = endI t ∧ s.ms t = m :: r
  · obtain ⟨t, m, r, rfl, hm⟩ := hX
    have hf := h.few t
    rw [hm] at hf
    refine ⟨m, true, { s with ms := upd s.ms t r }, h.same t _ (by rw [hm]; simp) (fun a ha => h.long t a (by rw [hm]; exact List.mem_cons_of_mem _ ha)) (by simp at hf; omega), h.long t _ (by rw [hm]; simp), fun t' ht => ?_, rfl, fun W R hp => ?_, fun W R hp => ?_⟩
    · have : t = t' := by cases t <;> cases t' <;> simp_all [endI]
      subst this; rw [hm]; rfl
    · obtain ⟨q, vs, hp⟩ := hp
      refine (recv_ok hp t m r hm).mono ?_
      rintro e w' ⟨vA, vn, vc, rfl, h1, _, q', vs', h2, h3, _⟩
      exact ⟨_, _, _, rfl, h1, ⟨q', vs', h2⟩, h3⟩
    · obtain ⟨q, vs, hp⟩ := hp
      refine (rrecv_ok hp t m r hm).mono ?_
      rintro e w' ⟨vA, vn, vc, rfl, h1, _, h2, h3⟩
      exact ⟨_, _, _, rfl, h1, h2, h3⟩
  · have hno : offEnd e ∨ ∃ t, e = endI t ∧ s.ms t = [] := by
      rcases end_cases e with he | ⟨t, rfl⟩
      · exact .inl he
      · refine .inr ⟨t, rfl, ?_⟩
        cases hm : s.ms t with
        | nil => rfl
        | cons m r => exact absurd ⟨t, m, r, rfl, hm⟩ hX
    refine ⟨[], false, s, h.more, by simp, fun t ht => ?_, rfl, fun W R hp => ?_, fun W R hp => ?_⟩
    · have hnil : s.ms t = [] := by
        rcases hno with h' | ⟨t', ht', h'⟩
        · subst ht; exact absurd h' (by cases t <;> simp [offEnd, endI])
        · have : t = t' := by subst ht; cases t <;> cases t' <;> simp_all [endI]
          subst this; exact h'
      rw [hnil, List.tail_nil, ← hnil, upd_self]
    · obtain ⟨q, vs, hp'⟩ := id hp
      refine (recv_none hp' e hno).mono ?_
      rintro e w' ⟨rfl, hw⟩
      exact ⟨_, _, _, rfl, Row.nil _ _ _, hp.laid hw⟩
    · obtain ⟨q, vs, hp'⟩ := id hp
      refine (rrecv_none hp' e hno).mono ?_
      rintro e w' ⟨rfl, hw⟩
      exact ⟨_, _, _, rfl, Row.nil _ _ _, hp.same hw⟩

end Go.Proofs.Ytodbnmigdnmjnaa
