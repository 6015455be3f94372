/- the other calls of a script -/
import Derived.Test.YtodbnmigdnmjnaaZ1
namespace Go.Proofs.Ytodbnmigdnmjnaa
open Go.RowKit

theorem op_put {room : Int} {n : Nat} {s : St} (h : Inv room n s) (g g' : Nat) (t : Bool) (b : Value) (bs : List Int) (hc : s.cut = false) :
    ∃ v s', Inv room (n + 1) s' ∧ ProgDoes 24 #[.pointer (some ⟨g, 0, none⟩), .int .i64 (endI t), b] b bs g room s s' (.int .i64 v) ∧ RefDoes 48 #[.pointer (some ⟨g', 0, none⟩), .int .i64 (endI t), b] b bs g' room s s' (.int .i64 v) := by
  have hs0 := h.s0
  have hs1 := h.s1
  have hb0 := h.b0
  have hb1 := h.b1
  obtain ⟨cut, sent, bytes, ms⟩ := s
  simp only at hc
  subst hc
  by_cases hbad : 60000 < bs.length ∨ room ≤ (ms t).length
  · refine ⟨2, _, h.more, fun W R hp hb => ?_, fun W R hp hb => ?_⟩
    · obtain ⟨q, vs, hp'⟩ := id hp
      refine (put_too_pn hp' _ t rfl b bs hb hbad).mono ?_
      rintro e w' ⟨rfl, hw⟩
      exact ⟨rfl, hp.drawn hw⟩
    · obtain ⟨q, vs, hp'⟩ := id hp
      refine (rput_too_rn hp' _ t rfl b bs hb hbad).mono ?_
      rintro e w' ⟨rfl, hw⟩
      exact ⟨rfl, hp.drawn hw⟩
  · have hbl : bs.length ≤ 60000 := by omega
    have hlt : ((ms t).length : Int) < room := by omega
    simp only at hs0 hs1 hb0 hb1
    refine ⟨0, ⟨false, sent, bytes, upd ms t (ms t ++ [bs])⟩, h.queue t (ms t ++ [bs]) rfl ?_ (by simp; omega) ⟨by omega, by omega⟩ ⟨by omega, by omega⟩, fun W R hp hb => ?_, fun W R hp hb => ?_⟩
    · intro m hm
      rcases List.mem_append.1 hm with hm | hm
      · exact h.long t m hm
      · simp at hm; subst hm; exact hbl
    · obtain ⟨q, vs, hp'⟩ := hp
      refine (put_ok_pn hp' _ t rfl b bs hb hbl hlt h.r1).mono ?_
      rintro e w' ⟨rfl, q', vs', h1, h2⟩
      exact ⟨rfl, ⟨q', vs', h1⟩, h2⟩
    · obtain ⟨q, vs, hp'⟩ := hp
      refine (rput_ok_rn hp' _ t rfl b bs hb hbl hlt h.r1).mono ?_
      rintro e w' ⟨rfl, h1, h2⟩
      exact ⟨rfl, h1, h2⟩

theorem op_forge {room : Int} {n : Nat} {s : St} (h : Inv room n s) (g g' : Nat) (e : Int) (b : Value) (bs : List Int) :
    ∃ v s', Inv room (n + 1) s' ∧ ProgDoes 19 #[.pointer (some ⟨g, 0, none⟩), .int .i64 e, b] b bs g room s s' (.int .i64 v) ∧ RefDoes 36 #[.pointer (some ⟨g', 0, none⟩), .int .i64 e, b] b bs g' room s s' (.int .i64 v) := by
  rcases end_cases e with he | ⟨t, rfl⟩
  · refine ⟨1, s, h.more, fun W R hp hb => ?_, fun W R hp hb => ?_⟩
    · refine (forge_of (put_off ⟨g, 0, none⟩ e b W he)).mono ?_
      rintro e w' ⟨rfl, hw⟩
      exact ⟨rfl, hp.same hw⟩
    · refine (rforge_off g' e b W he).mono ?_
      rintro e w' ⟨rfl, hw⟩
      exact ⟨rfl, hp.same hw⟩
  · cases hc : s.cut with
    | true =>
      refine ⟨15, s, h.more, fun W R hp hb => ?_, fun W R hp hb => ?_⟩
      · obtain ⟨q, vs, hp'⟩ := id hp
        have ⟨e0, e1⟩ := endI_range t
        refine (forge_of (put_cut g (endI t) b W e0 e1 (by rw [← hc]; exact (blkCell hp'.net 3).trans rfl))).mono ?_
        rintro e w' ⟨rfl, hw⟩
        exact ⟨rfl, hp.same hw⟩
      · obtain ⟨q, vs, hp'⟩ := id hp
        refine (rforge_cut g' t b W (by rw [← hc]; exact (blkCell hp'.net 3).trans rfl)).mono ?_
        rintro e w' ⟨rfl, hw⟩
        exact ⟨rfl, hp.same hw⟩
    | false =>
      obtain ⟨v, s', h1, h2, h3⟩ := op_put h g g' t b bs hc
      refine ⟨v, s', h1, fun W R hp hb => forge_of (h2 W R hp hb), fun W R hp hb => ?_⟩
      obtain ⟨q, vs, hp'⟩ := id hp
      exact rforge_of g' t b W (by rw [← hc]; exact (blkCell hp'.net 3).trans rfl) (h3 W R hp hb)

theorem op_drop {room : Int} {n : Nat} {s : St} (h : Inv room n s) (g g' : Nat) (e i : Int) (b : Value) (bs : List Int) :
    ∃ v s', Inv room (n + 1) s' ∧ ProgDoes 20 #[.pointer (some ⟨g, 0, none⟩), .int .i64 e, .int .i64 i] b bs g room s s' (.bool v) ∧ RefDoes 32 #[.pointer (some ⟨g', 0, none⟩), .int .i64 e, .int .i64 i] b bs g' room s s' (.bool v) := by
  by_cases hX : ∃ t, e = endI t ∧ 0 ≤ i ∧ i < (s.ms t).length
  · obtain ⟨t, rfl, hi0, hi1⟩ := hX
    obtain ⟨k, rfl⟩ : ∃ k : Nat, i = k := ⟨i.toNat, by omega⟩
    have hk : k < (s.ms t).length := by omega
    have hf := h.few t
    have hr := h.r1
    refine ⟨true, { s with ms := upd s.ms t ((s.ms t).eraseIdx k) }, h.same t _ (by intro hh; rw [hh] at hk; simp at hk) (fun m hm => h.long t m (List.mem_of_mem_eraseIdx hm)) (by have := List.length_eraseIdx_le (s.ms t) k; omega), fun W R hp hb => ?_, fun W R hp hb => ?_⟩
    · obtain ⟨q, vs, hp⟩ := hp
      refine (drop_yes hp (endI t) t rfl k hk (by omega)).mono ?_
      rintro e w' ⟨rfl, h1, h2⟩
      exact ⟨rfl, h1, h2⟩
    · obtain ⟨q, vs, hp⟩ := hp
      refine (rdrop_yes hp (endI t) t rfl k hk (by omega)).mono ?_
      rintro e w' ⟨rfl, h1, h2⟩
      exact ⟨rfl, h1, h2⟩
  · have hno : offEnd e ∨ ∃ t, e = endI t ∧ ¬ (0 ≤ i ∧ i < (s.ms t).length) := by
      rcases end_cases e with he | ⟨t, rfl⟩
      · exact .inl he
      · exact .inr ⟨t, rfl, fun hh => hX ⟨t, rfl, hh⟩⟩
    refine ⟨false, s, h.more, fun W R hp hb => ?_, fun W R hp hb => ?_⟩
    · have hlt := hp.lt
      obtain ⟨q, vs, hp⟩ := hp
      refine (drop_no hp e i hno).mono ?_
      rintro e w' ⟨rfl, h1, h2⟩
      exact ⟨rfl, ⟨q, vs, h1⟩, Keep.ofBelow h2 fun k hk _ => hk⟩
    · obtain ⟨q, vs, hp'⟩ := id hp
      refine (rdrop_no hp' e i hno).mono ?_
      rintro e w' ⟨rfl, hw⟩
      exact ⟨rfl, hp.same hw⟩

theorem PP.more {w w' : World} {R R' : Nat → Prop} {g : Nat} {room : Int} {s : St} (h : PP w R g room s) (hb : Below w.heap.size w w') (hR : ∀ k, R' k → k < w'.heap.size ∧ (R k ∨ w.heap.size ≤ k)) : PP w' R' g room s := by
  obtain ⟨q, vs, h⟩ := h
  refine ⟨q, vs, (hb.block _ (blkLt h.net)).trans h.net, fun hr => ?_, fun k hk => (hR k hk).1, h.core.more hb fun k hk => (hR k hk).2⟩
  rcases (hR g hr).2 with h' | h'
  · exact h.gR h'
  · have := blkLt h.net; omega

theorem op_again {room : Int} {n : Nat} {s : St} (h : Inv room n s) (g g' : Nat) (e i : Int) (b : Value) (bs : List Int) :
    ∃ v s', Inv room (n + 1) s' ∧ ProgDoes 21 #[.pointer (some ⟨g, 0, none⟩), .int .i64 e, .int .i64 i] b bs g room s s' (.bool v) ∧ RefDoes 33 #[.pointer (some ⟨g', 0, none⟩), .int .i64 e, .int .i64 i] b bs g' room s s' (.bool v) := by
  by_cases hX : ∃ t, e = endI t ∧ 0 ≤ i ∧ i < (s.ms t).length
  · obtain ⟨t, rfl, hi0, hi1⟩ := hX
    obtain ⟨k, rfl⟩ : ∃ k : Nat, i = k := ⟨i.toNat, by omega⟩
    have hk : k < (s.ms t).length := by omega
    have hc : s.cut = false := by
      cases hc : s.cut with
      | false => rfl
      | true => rw [h.cut hc] at hk; simp at hk
    obtain ⟨v, s', h1, h2⟩ : ∃ v s', Inv room (n + 1) s' ∧ ∀ b, ProgDoes 24 #[.pointer (some ⟨g, 0, none⟩), .int .i64 (endI t), b] b (s.ms t)[k] g room s s' (.int .i64 v) ∧ RefDoes 48 #[.pointer (some ⟨g', 0, none⟩), .int .i64 (endI t), b] b (s.ms t)[k] g' room s s' (.int .i64 v) := by
      have hs0 := h.s0
      have hs1 := h.s1
      have hb0 := h.b0
      have hb1 := h.b1
      have hlong := h.long t _ (List.getElem_mem hk)
      by_cases hroom : room ≤ (s.ms t).length
      · refine ⟨2, s, h.more, fun b => ⟨fun W R hp hb => ?_, fun W R hp hb => ?_⟩⟩
        · obtain ⟨q, vs, hp'⟩ := id hp
          rw [hc] at hp'
          refine (put_too_pn hp' _ t rfl b _ hb (.inr hroom)).mono ?_
          rintro e w' ⟨rfl, hw⟩
          exact ⟨rfl, hp.drawn hw⟩
        · obtain ⟨q, vs, hp'⟩ := id hp
          refine (rput_too_rn hp' _ t rfl b _ hb (.inr hroom)).mono ?_
          rintro e w' ⟨rfl, hw⟩
          exact ⟨rfl, hp.drawn hw⟩
      · refine ⟨0, { s with ms := upd s.ms t (s.ms t ++ [(s.ms t)[k]]) }, h.queue t _ hc ?_ (by simp; omega) ⟨by omega, by omega⟩ ⟨by omega, by omega⟩, fun b => ⟨fun W R hp hb => ?_, fun W R hp hb => ?_⟩⟩
        · intro m hm
          rcases List.mem_append.1 hm with hm | hm
          · exact h.long t m hm
          · simp at hm; subst hm; exact hlong
        · obtain ⟨q, vs, hp'⟩ := hp
          rw [hc] at hp'
          refine (put_ok_pn hp' _ t rfl b _ hb hlong (by omega) h.r1).mono ?_
          rintro e w' ⟨rfl, q', vs', h1, h2⟩
          exact ⟨rfl, ⟨q', vs', by simp only [hc]; exact h1⟩, h2⟩
        · obtain ⟨q, vs, hp'⟩ := hp
          refine (rput_ok_rn hp' _ t rfl b _ hb hlong (by omega) h.r1).mono ?_
          rintro e w' ⟨rfl, h1, h2⟩
          exact ⟨rfl, h1, h2⟩
    refine ⟨v == 0, s', h1, fun W R hp hb => ?_, fun W R hp hb => ?_⟩
    · obtain ⟨q, vs, hp'⟩ := id hp
      refine again_run hp' (endI t) t rfl k hk v (fun w' => PP w' R g room s' ∧ Keep R W w') fun W2 b2 hp2 hk2 hb2 => ?_
      refine ((h2 b2).1 W2 R ⟨q, vs, hp2⟩ hb2).mono ?_
      rintro e w' ⟨rfl, h3, h4⟩
      exact ⟨rfl, h3, hk2.trans h4⟩
    · obtain ⟨q, vs, hp'⟩ := id hp
      exact ragain_run hp' (endI t) t rfl k hk v (fun w' => RR w' (ext R W w') g' room s' ∧ Keep (· ≠ g') W w') fun b2 hb2 => (h2 b2).2 W R ⟨q, vs, hp'⟩ hb2
  · have hno : offEnd e ∨ ∃ t, e = endI t ∧ ¬ (0 ≤ i ∧ i < (s.ms t).length) := by
      rcases end_cases e with he | ⟨t, rfl⟩
      · exact .inl he
      · exact .inr ⟨t, rfl, fun hh => hX ⟨t, rfl, hh⟩⟩
    refine ⟨false, s, h.more, fun W R hp hb => ?_, fun W R hp hb => ?_⟩
    · have hlt := hp.lt
      obtain ⟨q, vs, hp⟩ := hp
      refine (again_no hp e i hno).mono ?_
      rintro e w' ⟨rfl, h1, h2⟩
      exact ⟨rfl, ⟨q, vs, h1⟩, Keep.ofBelow h2 fun k hk _ => hk⟩
    · obtain ⟨q, vs, hp'⟩ := id hp
      refine (ragain_no hp' e i hno).mono ?_
      rintro e w' ⟨rfl, hw⟩
      exact ⟨rfl, hp.same hw⟩

end Go.Proofs.Ytodbnmigdnmjnaa
