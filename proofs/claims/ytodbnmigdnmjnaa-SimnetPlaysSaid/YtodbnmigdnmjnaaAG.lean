/- a script that came in; the row -/
import Derived.Test.YtodbnmigdnmjnaaAF
import Derived.Deep.Slices
import Derived.ProofKit
import Derived.OpenShut
namespace Go.Proofs.Ytodbnmigdnmjnaa
open Go.RowKit Go.Deep Go.ChangeShapes Go.WideShapes Go.ChangeAt
set_option linter.unusedSimpArgs false

instance : Inhabited OpR := ⟨⟨0, 0, 0, 0, 0, 0, undef, []⟩⟩

theorem open_bytes {H : Type} {enc : TypeId × Value → H} {W : World} {base : Nat} {held : Bool} {fuel : Nat} {cs : List Value} {x : DataW H × List MemPlace} (h : DataW.trod enc Try.prog W base (fun _ => true) held fuel 28 cs = some x) :
    ∃ v bs, cs = [v] ∧ Src W 1 v (nums bs) := by
  rcases open_ints Try.underlying28 Try.underlying5 (by kernel_rfl) h with ⟨rfl, _⟩ | ⟨a, len, cap, zs, rfl, _, hl, hm, hz, _, hc, _⟩
  · exact ⟨_, [], rfl, (Row.nil W 5 1).src⟩
  · simp only [if_true] at hz
    have hlen : (zs.take len).length = len := by rw [List.length_take]; omega
    refine ⟨_, zs.take len, rfl, some a, len, cap, rfl, by rw [nums_length, hlen]; omega, hl, by simp, fun j u hj => ⟨a, rfl, ?_⟩⟩
    have hjl : j < len := by
      have := (List.getElem?_eq_some_iff.1 hj).1
      rw [nums_length, hlen] at this; exact this
    rw [hc j (by omega)]
    simp only [nums, List.getElem?_map, Option.map_eq_some_iff] at hj
    obtain ⟨p, hp, rfl⟩ := hj
    rw [List.getElem?_take, if_pos hjl] at hp
    simp [List.getD, hp]

theorem open_op {H : Type} {enc : TypeId × Value → H} {W : World} {base : Nat} {held : Bool} {fuel : Nat} {cs : List Value} {x : DataW H × List MemPlace} (h : DataW.trod enc Try.prog W base (fun _ => true) held fuel 44 cs = some x) :
    ∃ r : OpR, cs = r.cells.toList ∧ Src W 1 r.b (nums r.bs) := by
  obtain ⟨xs, n, _, _, hl, hlen, hf⟩ := DataW.trod_struct Try.underlying44 h
  have hc : Try.prog.cellsOf 44 = 7 := by kernel_rfl
  have h3 : Try.prog.cellsOf 3 = 1 := by kernel_rfl
  have h5 : Try.prog.cellsOf 5 = 1 := by kernel_rfl
  have h28 : Try.prog.cellsOf 28 = 1 := by kernel_rfl
  rw [hc] at hl
  match cs, hl, xs, hlen with
  | [v0, v1, v2, v3, v4, v5, v6], _, [y0, y1, y2, y3, y4, y5, y6], _ =>
    have f0 := hf 0 _ rfl
    have f1 := hf 1 _ rfl
    have f2 := hf 2 _ rfl
    have f3 := hf 3 _ rfl
    have f4 := hf 4 _ rfl
    have f5 := hf 5 _ rfl
    have f6 := hf 6 _ rfl
    simp only [h3, h5, h28, List.drop_zero, List.drop_succ_cons, List.take_succ_cons, List.take_zero, List.getElem?_cons_zero, List.getElem?_cons_succ] at f0 f1 f2 f3 f4 f5 f6
    obtain ⟨n0, e0, _⟩ := DataW.trod_int Try.underlying3 f0
    obtain ⟨n1, e1, _⟩ := DataW.trod_int Try.underlying3 f1
    obtain ⟨n2, e2, _⟩ := DataW.trod_int Try.underlying3 f2
    obtain ⟨n3, e3, _⟩ := DataW.trod_int Try.underlying3 f3
    obtain ⟨n4, e4, _⟩ := DataW.trod_int Try.underlying3 f4
    obtain ⟨n5, e5, _⟩ := DataW.trod_int Try.underlying5 f5
    obtain ⟨v, bs, e6, hs⟩ := open_bytes f6
    cases e0; cases e1; cases e2; cases e3; cases e4; cases e5; cases e6
    exact ⟨⟨n0, n1, n2, n3, n4, n5, v6, bs⟩, rfl, hs⟩

theorem open_ops {H : Type} {enc : TypeId × Value → H} {W : World} {base : Nat} {held : Bool} {fuel : Nat} {a : Option Addr} {len cap : Nat} {x : DataW H × List MemPlace}
    (h : DataW.trod enc Try.prog W base (fun _ => true) held fuel 37 [.slice a len cap] = some x) : ∃ l, Ops W (.slice a len cap) l := by
  rcases open_slice Try.underlying37 h with ⟨hcs, _⟩ | ⟨b, l, c, m, n, D, Pl, hcs, _, hl, _, hm, _, hx⟩
  · simp only [List.cons.injEq, Value.slice.injEq, and_true] at hcs
    obtain ⟨rfl, rfl, rfl⟩ := hcs
    exact ⟨[], none, 0, 0, rfl, rfl, fun i r hr => by simp at hr⟩
  · simp only [List.cons.injEq, Value.slice.injEq, and_true] at hcs
    obtain ⟨rfl, rfl, rfl⟩ := hcs
    simp only [if_true] at hm
    have hc : Try.prog.cellsOf 44 = 7 := by kernel_rfl
    obtain ⟨f, hf⟩ := choose_lt (n := len) (p := fun i (r : OpR) => (∀ j u, r.cells[j]? = some u → W.cell? ((b.add (i * 7)).add j) = some u) ∧ Src W 1 r.b (nums r.bs)) fun i hi => by
      obtain ⟨cs', h1, h2⟩ := hx i (by omega)
      rw [hc] at h1
      obtain ⟨r, rfl, hs⟩ := open_op h2
      obtain ⟨_, hlen, hcell⟩ := World.cells?_some h1
      refine ⟨r, fun j u hj => ?_, hs⟩
      have hj7 : j < 7 := by
        have := (Array.getElem?_eq_some_iff.1 hj).1
        rw [Array.length_toList] at hlen; omega
      rw [hcell j hj7]
      simpa using hj
    refine ⟨(List.range len).map f, some b, len, cap, rfl, by simp, fun i r hr => ⟨b, rfl, ?_⟩⟩
    simp only [List.getElem?_map, Option.map_eq_some_iff] at hr
    obtain ⟨i', hi', rfl⟩ := hr
    obtain ⟨hlt, rfl⟩ := List.getElem?_eq_some_iff.1 hi'
    simp only [List.length_range] at hlt
    simp only [List.getElem_range]
    exact hf i hlt

theorem plays_row (room : Int) (LA : Option Addr) (ln lc : Nat) (l : List OpR) (w : World) (_w0 : (Lit.int .i64 room).wf = true) (hl : Ops w (.slice LA ln lc) l) :
    Calls Try.prog 4 #[.int .i64 room, .slice LA ln lc] w fun e w' => e = .returned (.bool true) ∧ Below w.heap.size w w' := by
  have hL := light_any LA ln lc l w hl
  cases hx : light l with
  | false =>
    rw [hx] at hL
    exact plays_heavy room LA ln lc w (hid hL)
  | true =>
    rw [hx] at hL
    have h50 : l.length ≤ 50 := by
      simp only [light, Bool.and_eq_true, decide_eq_true_eq] at hx
      exact hx.1
    by_cases h1 : room < 1
    · exact plays_bad room LA ln lc w (hid hL) (hid (.inl (decide_eq_true h1)))
    · by_cases h2 : room > 1000
      · exact plays_bad room LA ln lc w (hid hL) (hid (.inr ⟨decide_eq_false h1, decide_eq_true h2⟩))
      · exact plays_good room LA ln lc l w hl h50 (hid hL) (by omega) (by omega)

end Go.Proofs.Ytodbnmigdnmjnaa
