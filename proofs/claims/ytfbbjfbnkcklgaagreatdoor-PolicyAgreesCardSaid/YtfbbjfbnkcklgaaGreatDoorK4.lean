/- rows of items that are written; slices.Clone; (Tree).own -/
import Derived.Test.YtfbbjfbnkcklgaaGreatDoorK2
namespace Go.Proofs.YtfbbjfbnkcklgaaGreatDoor
open Go.RowKit

theorem Row.at3 {w : World} {e : TypeId} {A : Option Addr} {n c : Nat} {l : List Itm} (h : Row w e 3 (.slice A n c) (l.flatMap Itm.cells)) {i : Nat} (hi : i < l.length) :
    ∃ b off, A = some ⟨b, off, none⟩ ∧ w.cell? ⟨b, off + i * 3, none⟩ = some (.string l[i].p) ∧ w.cell? ⟨b, off + i * 3 + 1, none⟩ = some (.bool l[i].d) ∧ w.cell? ⟨b, off + i * 3 + 2, none⟩ = some (.slice l[i].dA l[i].bs.length l[i].dc) ∧
      (∀ j, w.frozen? ⟨b, j, none⟩ = false) := by
  obtain ⟨A', n', c', hv, hl, hn, hc, hh⟩ := h
  cases hv
  rw [cells_len] at hl
  rcases hh with ⟨_, rfl⟩ | ⟨b, off, cs, rfl, hb, hs, ht⟩
  · omega
  · have key : ∀ k u, k < 3 → l[i].cells[k]? = some u → w.cell? ⟨b, off + (i * 3 + k), none⟩ = some u := by
      intro k u hk hu
      rw [blkCell hb, ← hu, ← cells_get l i l[i] k (List.getElem?_eq_getElem hi) hk, ← ht, List.getElem?_take, if_pos (by omega), List.getElem?_drop]
      simp
    exact ⟨b, off, rfl, key 0 _ (by omega) rfl, key 1 _ (by omega) rfl, key 2 _ (by omega) rfl, fun j => blkFree hb j⟩

theorem take_set {xs : List Value} {a k : Nat} {u : Value} : (xs.set k u).take a = (xs.take a).set k u := by
  rw [List.take_set]

/-- one cell of a row is written -/
theorem Row.set {w : World} {e : TypeId} {sz b off n c : Nat} {xs : List Value} (h : Row w e sz (.slice (some ⟨b, off, none⟩) n c) xs) (k : Nat) (u : Value) :
    Row (w.setCell ⟨b, off + k, none⟩ u) e sz (.slice (some ⟨b, off, none⟩) n c) (xs.set k u) := by
  obtain ⟨A', n', c', hv, hl, hn, hc, hh⟩ := h
  cases hv
  rcases hh with ⟨h, _⟩ | ⟨b', off', cs, h, hb, hs, ht⟩
  · cases h
  · cases h
    refine ⟨_, n, c, rfl, by rw [List.length_set]; exact hl, hn, hc, .inr ⟨b, off, _, rfl, blkSet hb (off + k) u, by simpa using hs, ?_⟩⟩
    rw [← ht, Array.toList_setIfInBounds, List.drop_set, if_neg (by omega), List.take_set, show off + k - off = k by omega]

/-- the bytes of an item get another place -/
theorem cells_set {l : List Itm} {i : Nat} (hi : i < l.length) (B : Option Addr) (d : Nat) : (l.flatMap Itm.cells).set (i * 3 + 2) (.slice B l[i].bs.length d) = (l.set i ⟨l[i].p, l[i].d, B, d, l[i].bs⟩).flatMap Itm.cells := by
  induction l generalizing i with
  | nil => simp at hi
  | cons x r ih =>
    cases i with
    | zero => simp [Itm.cells]
    | succ i =>
      have h1 := ih (i := i) (by simpa using hi)
      simp only [List.flatMap_cons, List.set_cons_succ, List.getElem_cons_succ]
      rw [List.set_append_right _ _ (by simp [Itm.cells]; omega), show (i + 1) * 3 + 2 - x.cells.length = i * 3 + 2 by simp [Itm.cells]; omega, h1]

@[go_sem] theorem eqlTree (a : Option Addr) (n c : Nat) (w : World) : (binOp .eql 25 (.slice a n c) (.slice none 0 0)).run Tryz.prog w = .ok (.bool a.isNone) w := Lib.run_eql_slice_nil w 25 42 a n c 0 0 Tryz.underlying25

set_option maxHeartbeats 400000 in
theorem slclone (A : Option Addr) (c : Nat) (l : List Itm) (w : World) (h : Tr w A c l) :
    Calls Tryz.prog 89 #[.slice A l.length c] w fun e w' => (∃ B d, e = .returned (.slice B l.length d) ∧ Row w' 42 3 (.slice B l.length d) (l.flatMap Itm.cells) ∧ (∀ k, (Value.slice B l.length d).ownBlock = some k → w.heap.size ≤ k)) ∧ Below w.heap.size w w' := by
  obtain ⟨i0, hi0, hz0, hz1, hz2⟩ := info_parts infoItem
  have hm := h.max
  cases A with
  | none =>
    have hc := h.nil rfl
    subst hc
    have hl : l.length = 0 := by have := h.cap; omega
    obtain rfl : l = [] := List.eq_nil_of_length_eq_zero hl
    go_enter Tryz.func89, Tryz.ntmps89
    go_wp2_with fail
    go_ret
    exact ⟨⟨none, 0, rfl, Row.nil _ _ _, by simp [Value.ownBlock]⟩, Below.refl _ _⟩
  | some a =>
    have hsrc := h.src.below ((Below.refl w.heap.size w).alloc (Nat.le_refl _) (.cells #[] 42 (0, 0)))
    have hrow : Row (w.alloc (.cells #[] 42 (0, 0))) 42 3 (.slice (some ⟨w.heap.size, 0, none⟩) 0 0) [] := Row.ofBlock (n := 0) (heap_alloc_new w _) (by simp) (by simp)
    have h1 := cells_one l
    have hlen := cells_len l
    have hc1 : ([] : List Value).length + (l.flatMap Itm.cells).length ≤ maxLen := by rw [hlen]; simp only [List.length_nil, maxLen]; omega
    have hc2 : (([] : List Value).length + (l.flatMap Itm.cells).length) * 48 ≤ 140737488355328 := by rw [hlen]; simp only [List.length_nil]; omega
    clear h hlen
    go_enter Tryz.func89, Tryz.ntmps89
    go_wp2_with (at_builtin; refine wpList_append_row _ rfl _ _ 25 rfl 42 i0 (.agg #[.string ByteArray.empty, .bool false, .slice none 0 0]) 3 48 Tryz.underlying25 hi0 hz0 hz1 hz2 rfl (by decide) (.slice (some ⟨w.heap.size, 0, none⟩) 0 0) [] rfl hrow (.slice (some a) l.length c) (l.flatMap Itm.cells) rfl hsrc h1 hc1 hc2 ?_; intro vA vn vc w' hr hg ha)
    go_ret
    rw [List.nil_append] at hr
    obtain rfl : vn = l.length := by
      obtain ⟨_, _, _, hv, hl, _⟩ := id hr
      cases hv
      rw [cells_len] at hl
      omega
    refine ⟨⟨vA, vc, rfl, hr, ?_⟩, ((Below.refl w.heap.size w).alloc (Nat.le_refl _) _).grown hg (by simp) (by simp [Value.ownBlock])⟩
    intro k hk
    rcases ha with ha | ha
    · rw [ha] at hk; simp [Value.ownBlock] at hk; omega
    · rw [ha] at hk; simp at hk; omega

end Go.Proofs.YtfbbjfbnkcklgaaGreatDoor

/- (Tree).own -/
namespace Go.Proofs.YtfbbjfbnkcklgaaGreatDoor
open Go.RowKit

theorem Good.set {w : World} {x : Itm} (h : Good w x) {p : Addr} (hp : ∀ k, (Value.slice x.dA x.bs.length x.dc).ownBlock = some k → k ≠ p.block) (u : Value) : Good (w.setCell p u) x :=
  ⟨h.size, h.len, h.src.keep fun k hk _ => Below.heap_setCell _ _ _ _ (hp k hk), h.rng⟩
theorem Src.ltn {w : World} {A : Option Addr} {n c : Nat} {xs : List Value} (h : Src w 1 (.slice A n c) xs) (hn : 0 < n) : ∀ k, (Value.slice A n c).ownBlock = some k → k < w.heap.size := by
  obtain ⟨_, _, _, hv, hl, _, _, hh⟩ := h
  cases hv
  intro k hk
  have hx : 0 < xs.length := by omega
  obtain ⟨a, rfl, hc⟩ := hh 0 xs[0] (List.getElem?_eq_getElem hx)
  have := World.block_lt_of_cell? w _ hc
  simp only [Value.ownBlock, Option.some.injEq] at hk
  subst hk
  have hb : (a.add 0).block = a.block := by unfold Addr.add; split <;> rfl
  omega
/-- bytes that are there do not hang on a block that came later; no bytes hang on none -/
theorem Good.setOld {w w' : World} {x : Itm} (h : Good w x) (hb : Below w.heap.size w w') {p : Addr} (hp : w.heap.size ≤ p.block) (u : Value) : Good (w'.setCell p u) x := by
  refine ⟨h.size, h.len, ?_, h.rng⟩
  by_cases hn : x.bs.length = 0
  · obtain ⟨_, _, _, hv, hl, hnc, h0, _⟩ := h.src
    cases hv
    exact ⟨_, _, _, rfl, hl, hnc, h0, fun j u hj => by have : x.bs = [] := List.eq_nil_of_length_eq_zero hn; rw [this] at hj; simp [nums] at hj⟩
  · refine (h.src.below hb).keep fun k hk _ => Below.heap_setCell _ _ _ _ ?_
    have := h.src.ltn (by omega) k hk
    omega

set_option maxRecDepth 100000 in
set_option maxHeartbeats 4000000 in
theorem own_walk (A : Option Addr) (c : Nat) (l : List Itm) (w : World) (h : Tr w A c l) :
    Calls Tryz.prog 57 #[.slice A l.length c] w fun e w' => (∃ (B : Option Addr) (d : Nat) (l' : List Itm), e = .returned (.slice B l'.length d) ∧ Row w' 42 3 (.slice B l'.length d) (l'.flatMap Itm.cells) ∧ (∀ k, (Value.slice B l'.length d).ownBlock = some k → w.heap.size ≤ k) ∧
      l'.map Itm.abs = l.map Itm.abs ∧ (∀ x ∈ l', Good w' x ∧ ∀ k, (Value.slice x.dA x.bs.length x.dc).ownBlock = some k → w.heap.size ≤ k ∧ (Value.slice B l'.length d).ownBlock ≠ some k)) ∧ Below w.heap.size w w' := by
  have hm := h.max
  have HT := hid h
  have HC := hid (slclone A c l w h)
  clear h
  go_enter Tryz.func57, Tryz.ntmps57
  go_wp2_with fail
  refine HC.out.mono ?_
  rintro e w1 ⟨⟨B, d, rfl, hrow, hf⟩, hb1⟩
  have HR := hid hrow
  clear hrow HC
  go_wp2_with fail
  go_loopg [9] l.length (fun k i wr => ∃ (j : Nat) (M : List Itm), j ≤ l.length ∧ k = l.length - j ∧ i = .int .i64 j ∧ M.length = j ∧ Row wr 42 3 (.slice B l.length d) ((M ++ l.drop j).flatMap Itm.cells) ∧ Below w.heap.size w wr ∧ w1.heap.size ≤ wr.heap.size ∧ M.map Itm.abs = (l.take j).map Itm.abs ∧
    (∀ x ∈ M, Good wr x ∧ ∀ k, (Value.slice x.dA x.bs.length x.dc).ownBlock = some k → w1.heap.size ≤ k))
  case atStart => exact ⟨0, [], Nat.zero_le _, rfl, rfl, rfl, by simpa using HR.out, hb1, Nat.le_refl _, by simp, by simp⟩
  case round =>
    obtain ⟨j, M, hj, rfl, rfl, hM, hrow, hb, hsz, hma, hgm⟩ := hrel
    replace hM := hid hM
    replace hma := hid hma
    replace hgm := hid hgm
    by_cases hlt : j < l.length
    · have i0 : (0 : Int) ≤ (j : Int) := by omega
      have i1 : (j : Int) < (l.length : Int) := by omega
      have hjM : j < (M ++ l.drop j).length := by rw [List.length_append, List.length_drop, hM.out]; omega
      have hge : (M ++ l.drop j)[j] = l[j] := by
        rw [List.getElem_append_right (by rw [hM.out]; exact Nat.le_refl _)]
        simp [hM.out]
      obtain ⟨b, off, hB, c0, c1, c2, hfr⟩ := hrow.at3 hjM
      rw [hge] at c0 c1 c2
      have hgl := (HT.out.good l[j] (List.getElem_mem hlt)).below hb
      have HCL := hid (clone_any _ l[j].bs wr hgl.src (by have := hgl.len; omega))
      have hbf : w.heap.size ≤ b := hf b (by rw [hB]; rfl)
      have HJ := hid hjM
      have HGE := hid hge
      clear hge
      subst hB
      go_wp2_with fail
      refine HCL.out.mono ?_
      rintro e w2 ⟨vA, vn, vc, rfl, hrv, hb2, hfv⟩
      obtain rfl : vn = l[j].bs.length := by
        obtain ⟨_, _, _, hv, hl, _⟩ := id hrv
        cases hv
        have := nums_length l[j].bs
        omega
      have hrow2 := hrow.below hb2
      have hset := hrow2.set (j * 3 + 2) (.slice vA l[j].bs.length vc)
      have hcs := cells_set HJ.out vA vc
      simp only [HGE.out] at hcs
      rw [hcs] at hset
      have hblt := hrow.lt b rfl
      have hblt1 : b < w1.heap.size := by
        have := HR.out.lt b rfl
        exact this
      have d2 := cellB hb2 c2
      have f2 := (hb2.frozen (p := ⟨b, off + j * 3 + 2, none⟩) hblt).trans (hfr _)
      have hb3 := thenB hb hb2
      have hset := hid hset
      have hgl' := hid hgl
      have hrv' := hid hrv
      clear hcs hrow2 hgl hrow hrv
      have hsz2 := hb2.size
      go_wp2_with fail
      go_roundg (l.length - (j + 1))
      case measure => omega
      case rel =>
        refine ⟨j + 1, M ++ [⟨l[j].p, l[j].d, vA, vc, l[j].bs⟩], by omega, rfl, by go_num, by simp [hM.out], ?_, hb3.setCell (by exact hbf) _, by simp [World.setCell]; omega, ?_, ?_⟩
        · have e : M ++ [⟨l[j].p, l[j].d, vA, vc, l[j].bs⟩] ++ l.drop (j + 1) = (M ++ l.drop j).set j ⟨l[j].p, l[j].d, vA, vc, l[j].bs⟩ := by
            rw [List.set_append_right _ _ (by rw [hM.out]; exact Nat.le_refl _), hM.out, Nat.sub_self, List.drop_eq_getElem_cons hlt, List.set_cons_zero]
            simp
          rw [e, show off + j * 3 + 2 = off + (j * 3 + 2) by omega]
          exact hset.out
        · rw [List.map_append, hma.out, List.take_add_one, List.map_append]
          simp [hlt, Itm.abs]
        · intro x hx
          rcases List.mem_append.1 hx with hx | hx
          · obtain ⟨h1, h2⟩ := hgm.out x hx
            exact ⟨(h1.below hb2).set (fun k hk => by have := h2 k hk; show k ≠ b; omega) _, h2⟩
          · rw [List.mem_singleton.1 hx]
            have hg2 : Good w2 ⟨l[j].p, l[j].d, vA, vc, l[j].bs⟩ := ⟨hgl'.out.size, hgl'.out.len, hrv'.out.src, hgl'.out.rng⟩
            exact ⟨hg2.set (fun k hk => by have := hfv k hk; show k ≠ b; omega) _, fun k hk => by have := hfv k hk; omega⟩
    · obtain rfl : j = l.length := by omega
      have hrow' := hrow
      rw [List.drop_length, List.append_nil] at hrow'
      have HRR := hid hrow'
      clear hrow hrow'
      go_wp2_with fail
      go_ret
      have hma' := hma.out
      rw [List.take_length] at hma'
      refine ⟨⟨B, d, M, by rw [hM.out]; rfl, by rw [hM.out]; exact HRR.out, by rw [hM.out]; exact hf, hma', fun x hx => ⟨(hgm.out x hx).1, fun k hk => by have h1 := (hgm.out x hx).2 k hk; have h2 := hb1.size; exact ⟨by omega, fun e => by have := HR.out.lt k (by rw [hM.out] at e; exact e); omega⟩⟩⟩, hb⟩

end Go.Proofs.YtfbbjfbnkcklgaaGreatDoor
