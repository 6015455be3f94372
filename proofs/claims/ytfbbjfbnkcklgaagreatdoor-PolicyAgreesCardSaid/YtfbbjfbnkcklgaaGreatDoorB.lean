/- Rows of cells in memory, wherever they begin in their block; append onto them; what a call keeps. -/
import Derived.WalkKit
import Derived.WalkSpells
import Derived.WalkLawsBesides
import Derived.BigQuiet
import Derived.Deep.QuietTactic
import Derived.Maps.AppendAt
import Derived.Deep.AppendLies
import Derived.Deep.RegionLaw
import Derived.BigRegion
namespace Go.Proofs.YtfbbjfbnkcklgaaGreatDoor
open Go.RowKit

theorem drewN_two (w : World) (n m : Nat) : w.drewN (n + m) = (w.drewN n).drewN m := by simp [World.drewN, Nat.add_assoc]
/-- a fact that the walk does not look into -/
structure HidP (p : Prop) : Prop where
  out : p
theorem hid {p : Prop} (h : p) : HidP p := ⟨h⟩

/-- a row: the slice value v holds the cells xs (sz cells an element) in a block of element type e -/
def Row (w : World) (e : TypeId) (sz : Nat) (v : Value) (xs : List Value) : Prop :=
  ∃ A n c, v = .slice A n c ∧ xs.length = n * sz ∧ n ≤ c ∧ c ≤ maxLen ∧
    ((A = none ∧ c = 0) ∨ ∃ b off cs, A = some ⟨b, off, none⟩ ∧ w.heap[b]? = some (.cells cs e (0, 0)) ∧ off + c * sz ≤ cs.size ∧ (cs.toList.drop off).take (n * sz) = xs)

/-- a slice value whose elements read as xs -/
def Src (w : World) (sz : Nat) (v : Value) (xs : List Value) : Prop :=
  ∃ A n c, v = .slice A n c ∧ xs.length = n * sz ∧ n ≤ c ∧ (A = none → c = 0) ∧ ∀ j u, xs[j]? = some u → ∃ a, A = some a ∧ w.cell? (a.add j) = some u

theorem add_lit' (b off j : Nat) : (⟨b, off, none⟩ : Addr).add j = ⟨b, off + j, none⟩ := by unfold Addr.add; split <;> simp_all

theorem Row.src {w : World} {e : TypeId} {sz : Nat} {v : Value} {xs : List Value} (h : Row w e sz v xs) : Src w sz v xs := by
  obtain ⟨A, n, c, rfl, hl, hn, hc, h⟩ := h
  refine ⟨A, n, c, rfl, hl, hn, (by rintro rfl; rcases h with ⟨_, h⟩ | ⟨_, _, _, h, _⟩; exact h; cases h), fun j u hj => ?_⟩
  rcases h with ⟨rfl, rfl⟩ | ⟨b, off, cs, rfl, hb, hs, ht⟩
  · have : xs = [] := List.eq_nil_of_length_eq_zero (by rw [hl]; have : n = 0 := by omega
                                                        subst this; simp)
    subst this; simp at hj
  · refine ⟨_, rfl, ?_⟩
    rw [add_lit', cell_of_row w b _ cs e (0, 0) hb]
    have hjl : j < xs.length := (List.getElem?_eq_some_iff.1 hj).1
    rw [← ht, List.getElem?_take, if_pos (by omega), List.getElem?_drop] at hj
    simpa using hj

theorem Row.lt {w : World} {e : TypeId} {sz : Nat} {v : Value} {xs : List Value} (h : Row w e sz v xs) : ∀ k, v.ownBlock = some k → k < w.heap.size := by
  obtain ⟨A, n, c, rfl, hl, hn, hc, h⟩ := h
  intro k hk
  rcases h with ⟨rfl, rfl⟩ | ⟨b, off, cs, rfl, hb, hs, ht⟩
  · simp [Value.ownBlock] at hk
  · simp only [Value.ownBlock, Option.some.injEq] at hk; subst hk
    exact (Array.getElem?_eq_some_iff.1 hb).1

theorem Row.keep {w w' : World} {e : TypeId} {sz : Nat} {v : Value} {xs : List Value} (h : Row w e sz v xs) (hk : ∀ k, v.ownBlock = some k → w'.heap[k]? = w.heap[k]?) : Row w' e sz v xs := by
  obtain ⟨A, n, c, rfl, hl, hn, hc, h⟩ := h
  refine ⟨A, n, c, rfl, hl, hn, hc, ?_⟩
  rcases h with ⟨rfl, rfl⟩ | ⟨b, off, cs, rfl, hb, hs, ht⟩
  · exact .inl ⟨rfl, rfl⟩
  · exact .inr ⟨b, off, cs, rfl, (hk b rfl).trans hb, hs, ht⟩

theorem Row.nil (w : World) (e : TypeId) (sz : Nat) : Row w e sz (.slice none 0 0) [] := ⟨none, 0, 0, rfl, by simp, Nat.le_refl _, Nat.zero_le _, .inl ⟨rfl, rfl⟩⟩

/-- a block known whole is a row -/
theorem Row.ofBlock {w : World} {e : TypeId} {sz b n : Nat} {cs : Array Value} (hb : w.heap[b]? = some (.cells cs e (0, 0))) (hn : cs.size = n * sz) (hm : n ≤ maxLen) :
    Row w e sz (.slice (some ⟨b, 0, none⟩) n n) cs.toList :=
  ⟨_, n, n, rfl, by simpa using hn, Nat.le_refl _, hm, .inr ⟨b, 0, cs, rfl, hb, by omega, by rw [List.drop_zero]; exact List.take_of_length_le (by simp [hn])⟩⟩

theorem Row.ofOwn {w : World} {e : TypeId} {base sz n : Nat} {v : Value} {xs : List Value} (h : w.ownsRow base e sz v n xs) : Row w e sz v xs := by
  obtain ⟨hl, ⟨rfl, rfl⟩ | ⟨g, cap, cur, rfl, hbg, hg, hnc, hcm, hcs, htake⟩⟩ := h
  · exact ⟨none, 0, 0, rfl, hl, Nat.le_refl _, Nat.zero_le _, .inl ⟨rfl, rfl⟩⟩
  · exact ⟨_, n, cap, rfl, hl, hnc, hcm, .inr ⟨g, 0, cur, rfl, hg, by omega, by simpa using htake⟩⟩

section
variable {P : Program} (w : World)

theorem run_append_row (t ty e : TypeId) (i : TypeInfo) (z : Value) (sz bytes : Nat) (ht : P.underlying t = some (.slice e)) (hi : P.info? e = some i) (hz : i.zero = some z)
    (hsize : i.size = sz) (hby : i.bytes = bytes) (hzs : z.cells.size = sz) (hsz : 0 < sz)
    (v : Value) (xs : List Value) (hown : Row w e sz v xs) (x : Value) (news : List Value) (hx : Src w sz x news) (h1 : ∀ u ∈ news, u.oneCell' = true)
    (h63 : xs.length + news.length ≤ maxLen) (hbytes : (xs.length + news.length) * bytes ≤ 140737488355328) :
    ∃ A' n' c' w', (Builtin.append_ #[t, t] ty #[v, x]).run P w = .ok (.slice A' n' c') w' ∧ Row w' e sz (.slice A' n' c') (xs ++ news) ∧ w.grownBy w' v.ownBlock ∧
      ((Value.slice A' n' c').ownBlock = v.ownBlock ∨ (Value.slice A' n' c').ownBlock = some w.heap.size) := by
  suffices key : ∃ v' w', (Builtin.append_ #[t, t] ty #[v, x]).run P w = .ok v' w' ∧ Row w' e sz v' (xs ++ news) ∧ w.grownBy w' v.ownBlock ∧
      (v'.ownBlock = v.ownBlock ∨ v'.ownBlock = some w.heap.size) by
    obtain ⟨v', w', h1, h2, h3, h4⟩ := key
    obtain ⟨A', n', c', rfl, _⟩ := id h2
    exact ⟨A', n', c', w', h1, h2, h3, h4⟩
  subst hsize
  subst hby
  obtain ⟨A, n, c, rfl, hl, hnc, hcm, hA⟩ := hown
  obtain ⟨B, m, d, rfl, hlm, hmd, _, hB⟩ := hx
  have hnl : n ≤ xs.length := by rw [hl]; exact Nat.le_mul_of_pos_right _ hsz
  have hml : m ≤ news.length := by rw [hlm]; exact Nat.le_mul_of_pos_right _ hsz
  have h63' : n + m ≤ maxLen := by omega
  have hsmall : n + m ≤ 9223372036854775807 := by simp only [maxLen] at h63'; omega
  have hbytes' : (n + m) * i.bytes ≤ 140737488355328 := Nat.le_trans (Nat.mul_le_mul_right _ (by omega)) hbytes
  have hlen : (xs ++ news).length = (n + m) * i.size := by rw [List.length_append, hl, hlm, Nat.add_mul]
  have hself : ∀ row, w.grownBy w row := fun _ => ⟨rfl, rfl, rfl, Nat.le_refl _, fun _ _ _ => rfl⟩
  cases B with
  | none =>
    have hnn : news = [] := by
      cases news with
      | nil => rfl
      | cons u r => obtain ⟨a, ha, _⟩ := hB 0 u rfl; cases ha
    subst hnn
    have hm0 : m = 0 := by
      rcases Nat.eq_zero_or_pos m with h | h
      · exact h
      · have := Nat.mul_pos h hsz; simp at hlm; omega
    subst hm0
    refine ⟨.slice A n c, w, ?_, ⟨A, n, c, rfl, by simpa using hl, hnc, hcm, by simpa using hA⟩, hself _, .inl rfl⟩
    rcases hA with ⟨rfl, rfl⟩ | ⟨b, off, cs, rfl, hb, hs, htk⟩
    · have : n = 0 := by omega
      subst this
      simp [Builtin.append_, run_underlying ht, sizeOf, typeInfo, hi, Builtin.lenOf, Builtin.firstCells]
    · simp [Builtin.append_, run_underlying ht, sizeOf, typeInfo, hi, Builtin.lenOf, Builtin.firstCells, hnc, storeCells]
  | some a =>
    have hnews : ∀ j u, news[j]? = some u → w.cell? (a.add j) = some u := fun j u hj => by
      obtain ⟨a', ha', hc⟩ := hB j u hj; cases ha'; exact hc
    have grown : ∀ (old : Nat), old < n + m → ∀ (row : Option Nat),
        Row (w.drew.alloc (.cells (xs.toArray ++ news.toArray ++ Builtin.zeroCells z.cells (grownCap w (n + m) old e - (n + m))) e)) e i.size
          (.slice (some ⟨w.heap.size, 0, none⟩) (n + m) (grownCap w (n + m) old e)) (xs ++ news) ∧
        w.grownBy (w.drew.alloc (.cells (xs.toArray ++ news.toArray ++ Builtin.zeroCells z.cells (grownCap w (n + m) old e - (n + m))) e)) row := by
      intro old ho row
      have hge := grownCap_ge w (n + m) old e
      have hcm' : grownCap w (n + m) old e ≤ maxLen := grownCap_le_maxLen w (n + m) old e h63'
      refine ⟨⟨_, n + m, _, rfl, hlen, hge, hcm', .inr ⟨w.heap.size, 0, _, rfl, heap_alloc_new w.drew _, ?_, ?_⟩⟩, ⟨rfl, rfl, rfl, by simp, fun k hk _ => heap_alloc_old w.drew _ hk⟩⟩
      · simp only [Array.size_append, List.size_toArray, size_zeroCells, hzs, hl, hlm, ← Nat.add_mul]
        rw [Nat.zero_add]
        apply Nat.le_of_eq
        congr 1
        omega
      · simp only [List.drop_zero, Array.toList_append, List.append_assoc]
        rw [← List.append_assoc, ← hlen]
        exact List.take_left
    rcases hA with ⟨rfl, rfl⟩ | ⟨b, off, cs, rfl, hb, hs, htk⟩
    · have hn0 : n = 0 := by omega
      subst hn0
      have hxx : xs = [] := List.eq_nil_of_length_eq_zero (by simpa using hl)
      subst hxx
      by_cases hm : m = 0
      · subst hm
        have hn : news = [] := List.eq_nil_of_length_eq_zero (by simpa using hlm)
        subst hn
        refine ⟨.slice none 0 0, w, ?_, Row.nil w e i.size, hself _, Or.inl rfl⟩
        simp [Builtin.append_, run_underlying ht, sizeOf, typeInfo, hi, Builtin.lenOf, Builtin.firstCells, loadCells, loadCellsFrom]
      · have hr := run_append_nil (P := P) w t ty e i z ht hi hz a m d news hlm hnews (by omega) (by omega) (by have hb := hbytes'; simp only [Nat.zero_add] at hb; omega)
        have hgr := grown 0 (by omega) (Value.ownBlock (.slice none 0 0))
        simp only [Nat.zero_add, List.nil_append, Array.empty_append] at hgr ⊢
        exact ⟨_, _, hr, hgr.1, hgr.2, Or.inr rfl⟩
    · by_cases hroom : n + m ≤ c
      · have hf := run_firstCells_some (P := P) w i.size m a m d news hlm hnews
        have hmul : n * i.size + m * i.size ≤ c * i.size := by rw [← Nat.add_mul]; exact Nat.mul_le_mul_right _ hroom
        have hfit : off + n * i.size + news.length ≤ cs.size := by rw [hlm]; omega
        have hst := run_storeCells_at P b (off + n * i.size) e news 0 cs w hb (by simpa using hfit) h1
        simp only [Nat.add_zero] at hst
        refine ⟨.slice (some ⟨b, off, none⟩) (n + m) c, w.setRow b (List.take (off + n * i.size) cs.toList ++ news ++ List.drop (off + n * i.size + news.length) cs.toList).toArray, ?_, ⟨_, n + m, c, rfl, hlen, hroom, hcm, .inr ⟨b, off, _, rfl, setRow_heap w b cs _ e _ hb, ?_, ?_⟩⟩, ⟨rfl, rfl, rfl, by simp, fun k _ hk => setRow_other w b k _ (fun e => hk (by simp [Value.ownBlock, e]))⟩, Or.inl rfl⟩
        · simp [Builtin.append_, run_underlying ht, sizeOf, typeInfo, hi, Builtin.lenOf, hroom, hf, add_lit', hst]
        · simp only [List.size_toArray, List.length_append, List.length_take, List.length_drop, Array.length_toList]
          omega
        · have hxl : xs.length = n * i.size := hl
          have e1 : cs.toList.take (off + n * i.size) = cs.toList.take off ++ xs := by
            rw [List.take_add, htk]
          have e2 : (cs.toList.take off).length = off := by simp; omega
          simp only [e1, List.append_assoc]
          rw [List.drop_append, e2, Nat.sub_self, List.drop_zero, List.drop_of_length_le (by omega), List.nil_append, ← List.append_assoc, ← hlen]
          exact List.take_left
      · have holds : ∀ j u, xs[j]? = some u → w.cell? ((⟨b, off, none⟩ : Addr).add j) = some u := by
          have hsrc := Row.src (w := w) (e := e) (sz := i.size) (v := .slice (some ⟨b, off, none⟩) n c) (xs := xs) ⟨_, n, c, rfl, hl, hnc, hcm, .inr ⟨b, off, cs, rfl, hb, hs, htk⟩⟩
          obtain ⟨A', n', c', hv, _, _, _, hh⟩ := hsrc
          cases hv
          intro j u hj
          obtain ⟨a', ha', hc⟩ := hh j u hj
          cases ha'; exact hc
        have hr := run_append_grow (P := P) w t ty e i z ht hi hz ⟨b, off, none⟩ n c xs hl holds a m d news hlm hnews (by omega) (by omega) (growslice_fits (by omega) hbytes')
        have hgr := grown c (by omega) (Value.ownBlock (.slice (some ⟨b, off, none⟩) n c))
        exact ⟨_, _, hr, hgr.1, hgr.2, Or.inr rfl⟩

theorem wp_append_row {o : Oper} {a : Act} {K : Act → World → Prop} {Q : Exit → Act → World → Prop} (s x : Operand) (t : TypeId)
    (ho : o.op = .call { callee := .builtin .append, args := #[s, x], argTypes := #[t, t] })
    (e : TypeId) (i : TypeInfo) (z : Value) (sz bytes : Nat) (ht : P.underlying t = some (.slice e)) (hi : P.info? e = some i) (hz : i.zero = some z)
    (hsize : i.size = sz) (hby : i.bytes = bytes) (hzs : z.cells.size = sz) (hsz : 0 < sz)
    (v : Value) (xs : List Value) (hs : a.eval s = v) (hown : Row w e sz v xs) (xv : Value) (news : List Value) (hxv : a.eval x = xv) (hx : Src w sz xv news) (h1 : ∀ u ∈ news, u.oneCell' = true)
    (h63 : xs.length + news.length ≤ maxLen) (hbytes : (xs.length + news.length) * bytes ≤ 140737488355328)
    (h : ∀ A' n' c' w', Row w' e sz (.slice A' n' c') (xs ++ news) → w.grownBy w' v.ownBlock → ((Value.slice A' n' c').ownBlock = v.ownBlock ∨ (Value.slice A' n' c').ownBlock = some w.heap.size) → K (a.put o.dst (.slice A' n' c')) w') : o.wp P a w K Q := by
  obtain ⟨A', n', c', w', hr, h2, h3, h4⟩ := run_append_row (P := P) w t o.type e i z sz bytes ht hi hz hsize hby hzs hsz v xs hown xv news hx h1 h63 hbytes
  unfold Oper.wp execOp
  simp only [ho, resolve, invoke, builtin, Sem.run_bind, Sem.run_pure, Result.andThen_ok, List.map_toArray, List.map_cons, List.map_nil, hs, hxv, hr]
  exact h A' n' c' w' h2 h3 h4

theorem wpList_append_row {ops : Array Oper} {rest : List Oper} {o : Oper} {a : Act} {Q : Exit → Act → World → Prop} (hgd : o.guard = none) (s x : Operand) (t : TypeId)
    (ho : o.op = .call { callee := .builtin .append, args := #[s, x], argTypes := #[t, t] })
    (e : TypeId) (i : TypeInfo) (z : Value) (sz bytes : Nat) (ht : P.underlying t = some (.slice e)) (hi : P.info? e = some i) (hz : i.zero = some z)
    (hsize : i.size = sz) (hby : i.bytes = bytes) (hzs : z.cells.size = sz) (hsz : 0 < sz)
    (v : Value) (xs : List Value) (hs : a.eval s = v) (hown : Row w e sz v xs) (xv : Value) (news : List Value) (hxv : a.eval x = xv) (hx : Src w sz xv news) (h1 : ∀ u ∈ news, u.oneCell' = true)
    (h63 : xs.length + news.length ≤ maxLen) (hbytes : (xs.length + news.length) * bytes ≤ 140737488355328)
    (h : ∀ A' n' c' w', Row w' e sz (.slice A' n' c') (xs ++ news) → w.grownBy w' v.ownBlock → ((Value.slice A' n' c').ownBlock = v.ownBlock ∨ (Value.slice A' n' c').ownBlock = some w.heap.size) → wpList P ops Q rest (a.put o.dst (.slice A' n' c')) w') : wpList P ops Q (o :: rest) a w :=
  wpList_plain hgd fun _ hK => wp_append_row w s x t ho e i z sz bytes ht hi hz hsize hby hzs hsz v xs hs hown xv news hxv hx h1 h63 hbytes fun A' n' c' w' h2 h3 h4 => hK _ _ (h A' n' c' w' h2 h3 h4)

theorem step_append_row {ops : Array Oper} {o : Oper} {a : Act} {K : Act → World → Prop} {Q : Exit → Act → World → Prop} {E : Prop} (hgd : o.guard = none) (s x : Operand) (t : TypeId)
    (ho : o.op = .call { callee := .builtin .append, args := #[s, x], argTypes := #[t, t] })
    (e : TypeId) (i : TypeInfo) (z : Value) (sz bytes : Nat) (ht : P.underlying t = some (.slice e)) (hi : P.info? e = some i) (hz : i.zero = some z)
    (hsize : i.size = sz) (hby : i.bytes = bytes) (hzs : z.cells.size = sz) (hsz : 0 < sz)
    (v : Value) (xs : List Value) (hs : a.eval s = v) (hown : Row w e sz v xs) (xv : Value) (news : List Value) (hxv : a.eval x = xv) (hx : Src w sz xv news) (h1 : ∀ u ∈ news, u.oneCell' = true)
    (h63 : xs.length + news.length ≤ maxLen) (hbytes : (xs.length + news.length) * bytes ≤ 140737488355328)
    (h : ∀ A' n' c' w', Row w' e sz (.slice A' n' c') (xs ++ news) → w.grownBy w' v.ownBlock → ((Value.slice A' n' c').ownBlock = v.ownBlock ∨ (Value.slice A' n' c').ownBlock = some w.heap.size) → K (a.put o.dst (.slice A' n' c')) w') :
    if Region.wanted o (yielded ops a.tmps) = true then Oper.wp P o a w K Q else E := by
  have hw : Region.wanted o (yielded ops a.tmps) = true := by simp [Region.wanted, hgd]
  rw [if_pos hw]
  exact wp_append_row w s x t ho e i z sz bytes ht hi hz hsize hby hzs hsz v xs hs hown xv news hxv hx h1 h63 hbytes h

/-- append where there is room: the value is known -/
theorem run_append_fit (t ty e : TypeId) (i : TypeInfo) (sz : Nat) (ht : P.underlying t = some (.slice e)) (hi : P.info? e = some i) (hsize : i.size = sz)
    (b : Addr) (n c : Nat) (xs : List Value) (hown : Row w e sz (.slice (some b) n c) xs) (y : Addr) (m d : Nat) (news : List Value) (hx : Src w sz (.slice (some y) m d) news) (h1 : ∀ u ∈ news, u.oneCell' = true) (hroom : n + m ≤ c) :
    ∃ w', (Builtin.append_ #[t, t] ty #[.slice (some b) n c, .slice (some y) m d]).run P w = .ok (.slice (some b) (n + m) c) w' ∧ Row w' e sz (.slice (some b) (n + m) c) (xs ++ news) ∧ w.grownBy w' (some b.block) := by
  subst hsize
  obtain ⟨_, _, _, hv, hl, hnc, hcm, hA⟩ := hown
  cases hv
  obtain ⟨_, _, _, hv, hlm, hmd, _, hB⟩ := hx
  cases hv
  have hlen : (xs ++ news).length = (n + m) * i.size := by rw [List.length_append, hl, hlm, Nat.add_mul]
  have hnews : ∀ j u, news[j]? = some u → w.cell? (y.add j) = some u := fun j u hj => by
    obtain ⟨a', ha', hc⟩ := hB j u hj; cases ha'; exact hc
  rcases hA with ⟨h0, _⟩ | ⟨b, off, cs, hbb, hb, hs, htk⟩
  · cases h0
  cases hbb
  have hf := run_firstCells_some (P := P) w i.size m y m d news hlm hnews
  have hmul : n * i.size + m * i.size ≤ c * i.size := by rw [← Nat.add_mul]; exact Nat.mul_le_mul_right _ hroom
  have hfit : off + n * i.size + news.length ≤ cs.size := by rw [hlm]; omega
  have hst := run_storeCells_at P b (off + n * i.size) e news 0 cs w hb (by simpa using hfit) h1
  simp only [Nat.add_zero] at hst
  refine ⟨w.setRow b (List.take (off + n * i.size) cs.toList ++ news ++ List.drop (off + n * i.size + news.length) cs.toList).toArray, ?_, ⟨_, n + m, c, rfl, hlen, hroom, hcm, .inr ⟨b, off, _, rfl, setRow_heap w b cs _ e _ hb, ?_, ?_⟩⟩, ⟨rfl, rfl, rfl, by simp, fun k _ hk => setRow_other w b k _ (fun e => hk (by simp [e]))⟩⟩
  · simp [Builtin.append_, run_underlying ht, sizeOf, typeInfo, hi, Builtin.lenOf, hroom, hf, add_lit', hst]
  · simp only [List.size_toArray, List.length_append, List.length_take, List.length_drop, Array.length_toList]
    omega
  · have e1 : cs.toList.take (off + n * i.size) = cs.toList.take off ++ xs := by
      rw [List.take_add, htk]
    have e2 : (cs.toList.take off).length = off := by simp; omega
    simp only [e1, List.append_assoc]
    rw [List.drop_append, e2, Nat.sub_self, List.drop_zero, List.drop_of_length_le (by omega), List.nil_append, ← List.append_assoc, ← hlen]
    exact List.take_left

theorem step_append_fit {ops : Array Oper} {o : Oper} {a : Act} {K : Act → World → Prop} {Q : Exit → Act → World → Prop} {E : Prop} (hgd : o.guard = none) (s x : Operand) (t : TypeId)
    (ho : o.op = .call { callee := .builtin .append, args := #[s, x], argTypes := #[t, t] })
    (e : TypeId) (i : TypeInfo) (sz : Nat) (ht : P.underlying t = some (.slice e)) (hi : P.info? e = some i) (hsize : i.size = sz)
    (b : Addr) (n c : Nat) (xs : List Value) (hs : a.eval s = .slice (some b) n c) (hown : Row w e sz (.slice (some b) n c) xs) (y : Addr) (m d : Nat) (news : List Value) (hxv : a.eval x = .slice (some y) m d) (hx : Src w sz (.slice (some y) m d) news) (h1 : ∀ u ∈ news, u.oneCell' = true) (hroom : n + m ≤ c)
    (h : ∀ w', Row w' e sz (.slice (some b) (n + m) c) (xs ++ news) → w.grownBy w' (some b.block) → K (a.put o.dst (.slice (some b) (n + m) c)) w') :
    if Region.wanted o (yielded ops a.tmps) = true then Oper.wp P o a w K Q else E := by
  have hw : Region.wanted o (yielded ops a.tmps) = true := by simp [Region.wanted, hgd]
  rw [if_pos hw]
  obtain ⟨w', hr, h2, h3⟩ := run_append_fit (P := P) w t o.type e i sz ht hi hsize b n c xs hown y m d news hx h1 hroom
  unfold Oper.wp execOp
  simp only [ho, resolve, invoke, builtin, Sem.run_bind, Sem.run_pure, Result.andThen_ok, List.map_toArray, List.map_cons, List.map_nil, hs, hxv, hr]
  exact h w' h2 h3
end

/-- what a source's cells hang on -/
theorem Src.keep {w w' : World} {sz : Nat} {v : Value} {xs : List Value} (h : Src w sz v xs) (hk : ∀ k, v.ownBlock = some k → k < w.heap.size → w'.heap[k]? = w.heap[k]?) : Src w' sz v xs := by
  obtain ⟨A, n, c, rfl, hl, hn, h0, h⟩ := h
  refine ⟨A, n, c, rfl, hl, hn, h0, fun j u hj => ?_⟩
  obtain ⟨a, rfl, hc⟩ := h j u hj
  refine ⟨a, rfl, ?_⟩
  have hb : (a.add j).block = a.block := by unfold Addr.add; split <;> rfl
  have hlt := World.block_lt_of_cell? w _ hc
  rw [World.cell?_of_block (w := w) (w' := w') (a := a.add j) (by rw [hb]; exact hk _ rfl (by rw [← hb]; exact hlt))]; exact hc

theorem Src.below {w w' : World} {sz : Nat} {v : Value} {xs : List Value} (h : Src w sz v xs) (hb : Below w.heap.size w w') : Src w' sz v xs := h.keep fun k _ hk => hb.block k hk
theorem Row.below {w w' : World} {e : TypeId} {sz : Nat} {v : Value} {xs : List Value} (h : Row w e sz v xs) (hb : Below w.heap.size w w') : Row w' e sz v xs := h.keep fun k hk => hb.block k (h.lt k hk)

theorem run_callFunc_go {P : Program} {f : FuncId} {fn : Func} (hf : P.funcs[f]? = some fn) (hname : (fn.name == "runtime.NumGoroutine") = false) (hb : fn.body.isNone = false) (args : Array Value) (w : World) :
    (callFunc f args).run P w = .ok (.enter f args) w := by
  simp only [callFunc, Sem.run_bind, program, Sem.run, hf, Result.andThen_ok, hname, hb]
  rfl

theorem cellA {w : World} {a : Addr} {v : Value} (h : w.cell? a = some v) (o : Obj) : (w.alloc o).cell? a = some v := by
  have hlt := World.block_lt_of_cell? w a h
  rw [World.cell?_of_block (w := w) (Below.heap_alloc w o _ hlt)]; exact h
theorem frozenA {w : World} {a : Addr} (hlt : a.block < w.heap.size) (o : Obj) : (w.alloc o).frozen? a = w.frozen? a := World.frozen?_of_block (w := w) (Below.heap_alloc w o _ hlt)

/-- a call of a Go function as a step of a region that draws its order -/
theorem step_call {P : Program} {ops : Array Oper} {o : Oper} {a : Act} {w : World} {K : Act → World → Prop} {Q : Exit → Act → World → Prop} {E : Prop} (hgd : o.guard = none)
    (f : FuncId) (xs : Array Operand) (ats : Array TypeId) (ho : o.op = .call { callee := .value (.func f), args := xs, argTypes := ats }) {fn : Func} (hf : P.funcs[f]? = some fn)
    (hname : (fn.name == "runtime.NumGoroutine") = false) (hb : fn.body.isNone = false) (args : List Value) (ha : xs.toList.map a.eval = args) {R : Ending → World → Prop} (hc : Calls P f args.toArray w R)
    (h : ∀ e w', R e w' → ∃ v, e = .returned v ∧ K (a.put o.dst v) w') :
    if Region.wanted o (yielded ops a.tmps) = true then Oper.wp P o a w K Q else E := by
  have hw : Region.wanted o (yielded ops a.tmps) = true := by simp [Region.wanted, hgd]
  rw [if_pos hw]
  have hex : execOp a.eval o = callFunc f (#[] ++ xs.map a.eval ++ #[]) := by
    obtain ⟨dst, op, ty, pos, after, guard⟩ := o
    subst ho
    rfl
  unfold Oper.wp
  rw [hex, show #[] ++ xs.map a.eval ++ #[] = args.toArray by rw [← ha]; simp [← List.map_toArray], run_callFunc_go hf hname hb]
  refine hc.mono fun e w' hR => ?_
  obtain ⟨v, rfl, hk⟩ := h e w' hR
  exact hk

/-- a call of a function value that stands in a slot -/
theorem step_callv {P : Program} {ops : Array Oper} {o : Oper} {a : Act} {w : World} {K : Act → World → Prop} {Q : Exit → Act → World → Prop} {E : Prop} (hgd : o.guard = none)
    (x : Operand) (xs : Array Operand) (ats : Array TypeId) (ho : o.op = .call { callee := .value x, args := xs, argTypes := ats }) (f : FuncId) (first cap : List Value) (hx : a.eval x = .func (.func f) first.toArray cap.toArray) {fn : Func} (hf : P.funcs[f]? = some fn)
    (hname : (fn.name == "runtime.NumGoroutine") = false) (hb : fn.body.isNone = false) (args : List Value) (ha : first ++ xs.toList.map a.eval ++ cap = args) {R : Ending → World → Prop} (hc : Calls P f args.toArray w R)
    (h : ∀ e w', R e w' → ∃ v, e = .returned v ∧ K (a.put o.dst v) w') :
    if Region.wanted o (yielded ops a.tmps) = true then Oper.wp P o a w K Q else E := by
  have hw : Region.wanted o (yielded ops a.tmps) = true := by simp [Region.wanted, hgd]
  rw [if_pos hw]
  have hex : execOp a.eval o = callFunc f (first.toArray ++ xs.map a.eval ++ cap.toArray) := by
    obtain ⟨dst, op, ty, pos, after, guard⟩ := o
    subst ho
    show (do let d ← Deferred.ofValue (a.eval x) (xs.map a.eval); invoke d.target d.args) = _
    rw [hx]
    rfl
  unfold Oper.wp
  rw [hex, show first.toArray ++ xs.map a.eval ++ cap.toArray = args.toArray by rw [← ha]; simp, run_callFunc_go hf hname hb]
  refine hc.mono fun e w' hR => ?_
  obtain ⟨v, rfl, hk⟩ := h e w' hR
  exact hk

/-- What is kept: the blocks of R, the streams. -/
structure Keep (R : Nat → Prop) (w w' : World) : Prop where
  os : w'.os = w.os
  tape : w'.tape = w.tape
  output : w'.output = w.output
  size : w.heap.size ≤ w'.heap.size
  block : ∀ k, k < w.heap.size → R k → w'.heap[k]? = w.heap[k]?

theorem Keep.refl (R : Nat → Prop) (w : World) : Keep R w w := ⟨rfl, rfl, rfl, Nat.le_refl _, fun _ _ _ => rfl⟩
theorem Keep.trans {R : Nat → Prop} {a b c : World} (h : Keep R a b) (k : Keep R b c) : Keep R a c :=
  ⟨k.os.trans h.os, k.tape.trans h.tape, k.output.trans h.output, Nat.le_trans h.size k.size, fun i hi hr => (k.block i (Nat.lt_of_lt_of_le hi h.size) hr).trans (h.block i hi hr)⟩
theorem Keep.mono {R R' : Nat → Prop} {a b : World} (h : Keep R a b) (hR : ∀ k, k < a.heap.size → R' k → R k) : Keep R' a b :=
  ⟨h.os, h.tape, h.output, h.size, fun i hi hr => h.block i hi (hR i hi hr)⟩
theorem Keep.drew {R : Nat → Prop} {a b : World} (h : Keep R a b) : Keep R a b.drew := ⟨h.os, h.tape, h.output, h.size, h.block⟩
theorem Keep.drewN {R : Nat → Prop} {a b : World} (h : Keep R a b) (n : Nat) : Keep R a (b.drewN n) := ⟨h.os, h.tape, h.output, h.size, h.block⟩
theorem Keep.alloc {R : Nat → Prop} {a b : World} (h : Keep R a b) (o : Obj) : Keep R a (b.alloc o) :=
  h.trans ⟨rfl, rfl, rfl, by simp, fun k hk _ => Below.heap_alloc _ _ _ hk⟩
theorem Keep.setCell {R : Nat → Prop} {a b : World} (h : Keep R a b) {p : Addr} (hp : ¬ R p.block ∨ a.heap.size ≤ p.block) (u : Value) : Keep R a (b.setCell p u) :=
  ⟨h.os, h.tape, h.output, by have := h.size; simpa [World.setCell] using this, fun k hk hr => (Below.heap_setCell _ _ _ _ (by rintro rfl; rcases hp with hp | hp; exact hp hr; omega)).trans (h.block k hk hr)⟩
theorem Keep.grown {R : Nat → Prop} {a b c : World} {row : Option Nat} (h : Keep R a b) (hg : b.grownBy c row) (hr : ∀ k, row = some k → ¬ R k ∨ a.heap.size ≤ k) : Keep R a c :=
  ⟨hg.os.trans h.os, hg.tape.trans h.tape, hg.output.trans h.output, Nat.le_trans h.size hg.size, fun k hk hR => (hg.block k (Nat.lt_of_lt_of_le hk h.size) (by intro e; rcases hr k e.symm with h' | h'; exact h' hR; omega)).trans (h.block k hk hR)⟩
theorem Keep.below {R : Nat → Prop} {B : Nat} {a b c : World} (h : Keep R a b) (hb : Below B b c) (hR : ∀ k, k < a.heap.size → R k → k < B) : Keep R a c :=
  ⟨hb.os.trans h.os, hb.tape.trans h.tape, hb.output.trans h.output, Nat.le_trans h.size hb.size, fun k hk hr => (hb.block k (hR k hk hr)).trans (h.block k hk hr)⟩
theorem Below.undrew {B n : Nat} {w w' : World} (h : Below B (w.drewN n) w') : Below B w w' := ⟨h.os, h.tape, h.output, h.size, h.block⟩
theorem Below.undrew1 {B : Nat} {w w' : World} (h : Below B w.drew w') : Below B w w' := ⟨h.os, h.tape, h.output, h.size, h.block⟩
theorem Below.drewN {B n : Nat} {w w' : World} (h : Below B w w') : Below B w (w'.drewN n) := ⟨h.os, h.tape, h.output, h.size, h.block⟩
/-- the source of an append of one element, laid in a block of its own -/
theorem Src.one {w : World} {b : Nat} {e : TypeId} {v : Value} (h : w.heap[b]? = some (.cells #[v] e (0, 0))) : Src w 1 (.slice (some ⟨b, 0, none⟩) 1 1) [v] := (Row.ofBlock (sz := 1) (n := 1) h rfl (by simp [maxLen])).src
theorem Keep.overNew {R : Nat → Prop} {w w' : World} {o : Obj} (h : Keep (fun i => R i ∧ i ≠ w.heap.size) (w.alloc o) w') : Keep R w w' :=
  ⟨h.os, h.tape, h.output, by have := h.size; simp at this; omega, fun k hk hr => (h.block k (by simp; omega) ⟨hr, by omega⟩).trans (Below.heap_alloc w o k hk)⟩
theorem Below.ofKeep {B : Nat} {a b : World} (h : Keep (· < B) a b) (hB : B ≤ a.heap.size) : Below B a b := ⟨h.os, h.tape, h.output, h.size, fun k hk => h.block k (by omega) hk⟩
theorem Keep.ofBelow {R : Nat → Prop} {B : Nat} {a b : World} (h : Below B a b) (hR : ∀ k, k < a.heap.size → R k → k < B) : Keep R a b := ⟨h.os, h.tape, h.output, h.size, fun k hk hr => h.block k (hR k hk hr)⟩

end Go.Proofs.YtfbbjfbnkcklgaaGreatDoor
