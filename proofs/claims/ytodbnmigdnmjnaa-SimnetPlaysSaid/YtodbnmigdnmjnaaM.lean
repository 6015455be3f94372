/- a slice of slices of bytes that came in -/
import Derived.Test.YtodbnmigdnmjnaaL
import Derived.Deep.Matrix
import Derived.ProofKit
import Derived.OpenShut
namespace Go.Proofs.Ytodbnmigdnmjnaa
open Go.RowKit Go.Deep

theorem open_rows2 {H : Type} {enc : TypeId × Value → H} {W : World} {base : Nat} {held : Bool} {fuel : Nat} {a : Option Addr} {len cap : Nat} {x : DataW H × List MemPlace}
    (h : DataW.trod enc Try.prog W base (fun _ => true) held fuel 22 [.slice a len cap] = some x) : ∃ zs, Rows2 W (.slice a len cap) zs := by
  rcases open_int_rows (k := .u8) Try.underlying22 Try.underlying28 Try.underlying5 (by kernel_rfl) (by kernel_rfl) h with ⟨hcs, _⟩ | ⟨b, l, c, A, L, C, Z, hcs, _, hl, hm, _, hr⟩
  · simp only [List.cons.injEq, Value.slice.injEq, and_true] at hcs
    obtain ⟨rfl, rfl, rfl⟩ := hcs
    exact ⟨[], [], ⟨none, 0, 0, rfl, rfl, Nat.le_refl _, fun _ => rfl, by simp⟩, rfl, by simp⟩
  · simp only [List.cons.injEq, Value.slice.injEq, and_true] at hcs
    obtain ⟨rfl, rfl, rfl⟩ := hcs
    refine ⟨(List.range len).map fun r => (Z r).take (L r), (List.range len).map fun r => .slice (A r) (L r) (C r), ⟨some b, len, cap, rfl, by simp, hl, by simp, ?_⟩, by simp, ?_⟩
    · intro j u hj
      simp only [List.getElem?_map, Option.map_eq_some_iff] at hj
      obtain ⟨r, hr1, rfl⟩ := hj
      obtain ⟨hlt, rfl⟩ := List.getElem?_eq_some_iff.1 hr1
      simp only [List.length_range] at hlt
      refine ⟨b, rfl, ?_⟩
      simp only [List.getElem_range]
      exact (hr j (by omega)).1
    · intro i u z hu hz
      simp only [List.getElem?_map, Option.map_eq_some_iff] at hu hz
      obtain ⟨r, hr1, rfl⟩ := hu
      obtain ⟨r', hr2, rfl⟩ := hz
      rw [hr1] at hr2
      cases hr2
      obtain ⟨hlt, rfl⟩ := List.getElem?_eq_some_iff.1 hr1
      simp only [List.length_range] at hlt
      simp only [List.getElem_range]
      obtain ⟨_, h2, h3, h4, _, h6, h7⟩ := hr i (by omega)
      have hlen : ((Z i).take (L i)).length = L i := by rw [List.length_take]; omega
      refine ⟨A i, L i, C i, rfl, by rw [nums_length, hlen]; omega, h2, h6, fun j u hj => ?_⟩
      have hjl : j < L i := by
        have := (List.getElem?_eq_some_iff.1 hj).1
        rw [nums_length, hlen] at this; exact this
      cases hA : A i with
      | none => have := h6 hA; omega
      | some a' =>
        refine ⟨a', rfl, ?_⟩
        rw [(h7 a' hA).2 j (by omega)]
        simp only [nums, List.getElem?_map, Option.map_eq_some_iff] at hj
        obtain ⟨p, hp, rfl⟩ := hj
        rw [List.getElem?_take, if_pos hjl] at hp
        simp [List.getD, hp]

theorem once_row (e1 : Int) (LA : Option Addr) (ln lc : Nat) (zs : List (List Int)) (cut : Bool) (w : World) (w0 : (Lit.int .i64 e1).wf = true) (hl : Rows2 w (.slice LA ln lc) zs) :
    Calls Try.prog 3 #[.int .i64 e1, .slice LA ln lc, .bool cut] w fun e w' => e = .returned (.bool true) ∧ Below w.heap.size w w' := by
  have ⟨b1, b2⟩ := bounds_i64 w0
  exact once_walk LA ln lc zs cut w hl e1 b1 b2

end Go.Proofs.Ytodbnmigdnmjnaa
