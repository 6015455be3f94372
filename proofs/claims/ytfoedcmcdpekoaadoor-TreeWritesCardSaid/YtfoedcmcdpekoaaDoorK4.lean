/- (Tree).own -/
import Derived.Test.YtfoedcmcdpekoaaDoorK3
namespace Go.Proofs.YtfoedcmcdpekoaaDoor
open Go.RowKit

theorem Good.set {w : World} {x : Itm} (h : Good w x) {p : Addr} (hp : ∀ k, (Value.slice x.dA x.bs.length x.dc).ownBlock = some k → k ≠ p.block) (u : Value) : Good (w.setCell p u) x :=
  ⟨h.size, h.len, h.src.keep fun k hk _ => Below.heap_setCell _ _ _ _ (hp k hk), h.rng⟩
theorem Src.ltn {w : World} {A : Option Addr} {n c : Nat} {xs : List Value} (h : Src w 1 (.slice A n c) xs) (hn : 0 < n) : ∀ k, (Value.slice A n c).ownBlock = some k → k < w.heap.size := by
  obtain ⟨_, _, _, hv, hl, _, _, hh⟩ := h
  cases hv
  intro k hk
  have hx : 0 < xs.length := by omega
  obtain ⟨a, rfl, hc⟩ := hh 0 xs[0] (List.getElem?_eq_getElem hx)
  have := World.block_lt_of_cell? w _ hc
  simp only [Value.ownBlock, Option.some.injEq] at hk
  subst hk
  have hb : (a.add 0).block = a.block := by unfold Addr.add; split <;> rfl
  omega
/-- bytes that are there do not hang on a block that came later; no bytes hang on none -/
theorem Good.setOld {w w' : World} {x : Itm} (h : Good w x) (hb : Below w.heap.size w w') {p : Addr} (hp : w.heap.size ≤ p.block) (u : Value) : Good (w'.setCell p u) x := by
  refine ⟨h.size, h.len, ?_, h.rng⟩
  by_cases hn : x.bs.length = 0
  · obtain ⟨_, _, _, hv, hl, hnc, h0, _⟩ := h.src
    cases hv
    exact ⟨_, _, _, rfl, hl, hnc, h0, fun j u hj => by have : x.bs = [] := List.eq_nil_of_length_eq_zero hn; rw [this] at hj; simp [nums] at hj⟩
  · refine (h.src.below hb).keep fun k hk _ => Below.heap_setCell _ _ _ _ ?_
    have := h.src.ltn (by omega) k hk
    omega

set_option maxRecDepth 100000 in
set_option maxHeartbeats 4000000 in
theorem own_walk (A : Option Addr) (c : Nat) (l : List Itm) (w : World) (h : Tr w A c l) :
    Calls Tryd.prog 42 #[.slice A l.length c] w fun e w' => (∃ (B : Option Addr) (d : Nat) (l' : List Itm), e = .returned (.slice B l'.length d) ∧ Row w' 30 3 (.slice B l'.length d) (l'.flatMap Itm.cells) ∧ (∀ k, (Value.slice B l'.length d).ownBlock = some k → w.heap.size ≤ k) ∧
      l'.map Itm.abs = l.map Itm.abs ∧ (∀ x ∈ l', Good w' x ∧ ∀ k, (Value.slice x.dA x.bs.length x.dc).ownBlock = some k → w.heap.size ≤ k ∧ (Value.slice B l'.length d).ownBlock ≠ some k)) ∧ Below w.heap.size w w' := by
  have hm := h.max
  have HT := hid h
  have HC := hid (slclone A c l w h)
  clear h
  go_enter Tryd.func42, Tryd.ntmps42
  go_wp2_with fail
  refine HC.out.mono ?_
  rintro e w1 ⟨⟨B, d, rfl, hrow, hf⟩, hb1⟩
  have HR := hid hrow
  clear hrow HC
  go_wp2_with fail
  go_loopg [9] l.length (fun k i wr => ∃ (j : Nat) (M : List Itm), j ≤ l.length ∧ k = l.length - j ∧ i = .int .i64 j ∧ M.length = j ∧ Row wr 30 3 (.slice B l.length d) ((M ++ l.drop j).flatMap Itm.cells) ∧ Below w.heap.size w wr ∧ w1.heap.size ≤ wr.heap.size ∧ M.map Itm.abs = (l.take j).map Itm.abs ∧
    (∀ x ∈ M, Good wr x ∧ ∀ k, (Value.slice x.dA x.bs.length x.dc).ownBlock = some k → w1.heap.size ≤ k))
  case atStart => exact ⟨0, [], Nat.zero_le _, rfl, rfl, rfl, by simpa using HR.out, hb1, Nat.le_refl _, by simp, by simp⟩
  case round =>
    obtain ⟨j, M, hj, rfl, rfl, hM, hrow, hb, hsz, hma, hgm⟩ := hrel
    replace hM := hid hM
    replace hma := hid hma
    replace hgm := hid hgm
    by_cases hlt : j < l.length
    · have i0 : (0 : Int) ≤ (j : Int) := by omega
      have i1 : (j : Int) < (l.length : Int) := by omega
      have hjM : j < (M ++ l.drop j).length := by rw [List.length_append, List.length_drop, hM.out]; omega
      have hge : (M ++ l.drop j)[j] = l[j] := by
        rw [List.getElem_append_right (by rw [hM.out]; exact Nat.le_refl _)]
        simp [hM.out]
      obtain ⟨b, off, hB, c0, c1, c2, hfr⟩ := hrow.at3 hjM
      rw [hge] at c0 c1 c2
      have hgl := (HT.out.good l[j] (List.getElem_mem hlt)).below hb
      have HCL := hid (clone_any _ l[j].bs wr hgl.src (by have := hgl.len; omega))
      have hbf : w.heap.size ≤ b := hf b (by rw [hB]; rfl)
      have HJ := hid hjM
      have HGE := hid hge
      clear hge
      subst hB
      go_wp2_with fail
      refine HCL.out.mono ?_
      rintro e w2 ⟨vA, vn, vc, rfl, hrv, hb2, hfv⟩
      obtain rfl : vn = l[j].bs.length := by
        obtain ⟨_, _, _, hv, hl, _⟩ := id hrv
        cases hv
        have := nums_length l[j].bs
        omega
      have hrow2 := hrow.below hb2
      have hset := hrow2.set (j * 3 + 2) (.slice vA l[j].bs.length vc)
      have hcs := cells_set HJ.out vA vc
      simp only [HGE.out] at hcs
      rw [hcs] at hset
      have hblt := hrow.lt b rfl
      have hblt1 : b < w1.heap.size := by
        have := HR.out.lt b rfl
        exact this
      have d2 := cellB hb2 c2
      have f2 := (hb2.frozen (p := ⟨b, off + j * 3 + 2, none⟩) hblt).trans (hfr _)
      have hb3 := thenB hb hb2
      have hset := hid hset
      have hgl' := hid hgl
      have hrv' := hid hrv
      clear hcs hrow2 hgl hrow hrv
      have hsz2 := hb2.size
      go_wp2_with fail
      go_roundg (l.length - (j + 1))
      case measure => omega
      case rel =>
        refine ⟨j + 1, M ++ [⟨l[j].p, l[j].d, vA, vc, l[j].bs⟩], by omega, rfl, by go_num, by simp [hM.out], ?_, hb3.setCell (by exact hbf) _, by simp [World.setCell]; omega, ?_, ?_⟩
        · have e : M ++ [⟨l[j].p, l[j].d, vA, vc, l[j].bs⟩] ++ l.drop (j + 1) = (M ++ l.drop j).set j ⟨l[j].p, l[j].d, vA, vc, l[j].bs⟩ := by
            rw [List.set_append_right _ _ (by rw [hM.out]; exact Nat.le_refl _), hM.out, Nat.sub_self, List.drop_eq_getElem_cons hlt, List.set_cons_zero]
            simp
          rw [e, show off + j * 3 + 2 = off + (j * 3 + 2) by omega]
          exact hset.out
        · rw [List.map_append, hma.out, List.take_add_one, List.map_append]
          simp [hlt, Itm.abs]
        · intro x hx
          rcases List.mem_append.1 hx with hx | hx
          · obtain ⟨h1, h2⟩ := hgm.out x hx
            exact ⟨(h1.below hb2).set (fun k hk => by have := h2 k hk; show k ≠ b; omega) _, h2⟩
          · rw [List.mem_singleton.1 hx]
            have hg2 : Good w2 ⟨l[j].p, l[j].d, vA, vc, l[j].bs⟩ := ⟨hgl'.out.size, hgl'.out.len, hrv'.out.src, hgl'.out.rng⟩
            exact ⟨hg2.set (fun k hk => by have := hfv k hk; show k ≠ b; omega) _, fun k hk => by have := hfv k hk; omega⟩
    · obtain rfl : j = l.length := by omega
      have hrow' := hrow
      rw [List.drop_length, List.append_nil] at hrow'
      have HRR := hid hrow'
      clear hrow hrow'
      go_wp2_with fail
      go_ret
      have hma' := hma.out
      rw [List.take_length] at hma'
      refine ⟨⟨B, d, M, by rw [hM.out]; rfl, by rw [hM.out]; exact HRR.out, by rw [hM.out]; exact hf, hma', fun x hx => ⟨(hgm.out x hx).1, fun k hk => by have h1 := (hgm.out x hx).2 k hk; have h2 := hb1.size; exact ⟨by omega, fun e => by have := HR.out.lt k (by rw [hM.out] at e; exact e); omega⟩⟩⟩, hb⟩

end Go.Proofs.YtfoedcmcdpekoaaDoor
