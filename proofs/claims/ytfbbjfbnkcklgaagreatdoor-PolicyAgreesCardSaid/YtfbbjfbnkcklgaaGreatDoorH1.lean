/- the document's merge: how it puts names and items (plain law) -/
import Derived.Test.YtfbbjfbnkcklgaaGreatDoorF7
import Derived.Test.YtfbbjfbnkcklgaaGreatDoorB7
import Derived.BigQuiet
namespace Go.Proofs.YtfbbjfbnkcklgaaGreatDoor
open Go.RowKit

def putK (l : List Txt) (s : Txt) : List Txt := if (l.dropWhile fun y => Op.bytesLess y s).head? = some s then l else l.takeWhile (fun y => Op.bytesLess y s) ++ s :: l.dropWhile fun y => Op.bytesLess y s
def addK (t : List AIt) (x : AIt) : List AIt := t.takeWhile (fun y => Op.bytesLess y.p x.p) ++ x :: t.dropWhile fun y => Op.bytesLess y.p x.p
theorem while_at {α : Type} {p : α → Bool} {l : List α} {j : Nat} (h1 : ∀ y ∈ l.take j, p y = true) (h2 : ∀ (h : j < l.length), p l[j] = false) : l.takeWhile p = l.take j ∧ l.dropWhile p = l.drop j := by
  have e : l = l.take j ++ l.drop j := (List.take_append_drop j l).symm
  constructor
  · conv => lhs; rw [e]
    rw [List.takeWhile_append_of_pos h1]
    by_cases h : j < l.length
    · rw [List.drop_eq_getElem_cons h, List.takeWhile_cons_of_neg (by rw [h2 h]; simp), List.append_nil]
    · rw [List.drop_of_length_le (by omega)]; simp
  · conv => lhs; rw [e]
    rw [List.dropWhile_append_of_pos h1]
    by_cases h : j < l.length
    · rw [List.drop_eq_getElem_cons h, List.dropWhile_cons_of_neg (by rw [h2 h]; simp)]
    · rw [List.drop_of_length_le (by omega)]; rfl
/-- on what rises, what is ahead of a text is what is less -/
theorem while_rise {α : Type} {key : α → Txt} (s : Txt) : ∀ {l : List α}, l.Pairwise (fun a b => Op.bytesLess (key a) (key b) = true) →
    l.takeWhile (fun y => Op.bytesLess (key y) s) = l.filter (fun y => Op.bytesLess (key y) s) ∧ l.dropWhile (fun y => Op.bytesLess (key y) s) = l.filter (fun y => !Op.bytesLess (key y) s)
  | [], _ => ⟨rfl, rfl⟩
  | y :: r, h => by
    rw [List.pairwise_cons] at h
    cases hy : Op.bytesLess (key y) s
    · have hr : ∀ z ∈ r, Op.bytesLess (key z) s = false := fun z hz => by
        cases hz' : Op.bytesLess (key z) s
        · rfl
        · have := less_trans (h.1 z hz) hz'
          rw [hy] at this; cases this
      rw [List.takeWhile_cons_of_neg (by simp [hy]), List.dropWhile_cons_of_neg (by simp [hy]), List.filter_cons_of_neg (by simp [hy]), List.filter_cons_of_pos (by simp [hy])]
      rw [List.filter_eq_nil_iff.2 fun z hz => by simp [hr z hz], List.filter_eq_self.2 fun z hz => by simp [hr z hz]]
      exact ⟨rfl, rfl⟩
    · obtain ⟨h1, h2⟩ := while_rise s h.2
      rw [List.takeWhile_cons_of_pos (by simp [hy]), List.dropWhile_cons_of_pos (by simp [hy]), List.filter_cons_of_pos (by simp [hy]), List.filter_cons_of_neg (by simp [hy]), h1, h2]
      exact ⟨rfl, rfl⟩
theorem putK_sorted {l : List Txt} (h : sortedN l) (s : Txt) : putK l s = putN l s := by
  obtain ⟨h1, h2⟩ := while_rise (key := fun y => y) s h
  unfold putK
  rw [h1, h2]
  have hs2 : sortedN (l.filter fun y => !Op.bytesLess y s) := h.filter _
  have key : ∀ y ∈ l, y ≠ s → (!Op.bytesLess y s) = Op.bytesLess s y := fun y _ hne => by
    rcases less_or hne with h3 | h3
    · rw [h3, less_asymm h3]; rfl
    · rw [h3, less_asymm h3]; rfl
  by_cases hin : s ∈ l
  · have hsf : s ∈ l.filter fun y => !Op.bytesLess y s := List.mem_filter.2 ⟨hin, by rw [less_irrefl]; rfl⟩
    have hhead : (l.filter fun y => !Op.bytesLess y s).head? = some s := by
      cases hd : l.filter fun y => !Op.bytesLess y s with
      | nil => rw [hd] at hsf; cases hsf
      | cons d r =>
        rw [hd] at hsf hs2
        rcases List.mem_cons.1 hsf with e | e
        · rw [e]; rfl
        · have h4 := (List.pairwise_cons.1 hs2).1 s e
          have h5 : d ∈ l.filter fun y => !Op.bytesLess y s := by rw [hd]; simp
          have h6 := (List.mem_filter.1 h5).2
          rw [h4] at h6; cases h6
    rw [if_pos hhead]
    exact sortedN_ext h (putN_sorted h s) fun z => by rw [mem_putN]; exact ⟨.inr, fun e => e.elim (fun e => e ▸ hin) id⟩
  · have hhead : ¬ (l.filter fun y => !Op.bytesLess y s).head? = some s := fun e => by
      have := List.mem_of_mem_head? (by rw [e]; rfl : s ∈ (l.filter fun y => !Op.bytesLess y s).head?)
      exact hin (List.mem_filter.1 this).1
    rw [if_neg hhead]
    unfold putN
    congr 2
    exact List.filter_congr fun y hy => key y hy (by rintro rfl; exact hin hy)
theorem putsK : ∀ (L acc : List Txt), sortedN acc → L.foldl putK acc = L.foldl putN acc
  | [], _, _ => rfl
  | s :: r, acc, h => by
    rw [List.foldl_cons, List.foldl_cons, putK_sorted h]
    exact putsK r _ (putN_sorted h s)
theorem addK_sorted {t : List AIt} (h : sortedA t) {x : AIt} (hx : ∀ y ∈ t, y.p ≠ x.p) : addK t x = putA t x := by
  obtain ⟨h1, h2⟩ := while_rise (key := AIt.p) x.p h
  unfold addK putA
  rw [h1, h2]
  congr 2
  refine List.filter_congr fun y hy => ?_
  rcases less_or (hx y hy) with h3 | h3
  · rw [h3, less_asymm h3]; rfl
  · rw [h3, less_asymm h3]; rfl
theorem addsK : ∀ (L acc : List AIt), sortedA acc → (L.Pairwise fun x y => x.p ≠ y.p) → (∀ x ∈ L, ∀ y ∈ acc, y.p ≠ x.p) → L.foldl addK acc = putsA acc L
  | [], _, _, _, _ => rfl
  | x :: r, acc, h, hd, hf => by
    rw [List.pairwise_cons] at hd
    unfold putsA
    rw [List.foldl_cons, List.foldl_cons, addK_sorted h (hf x (by simp))]
    refine addsK r _ (putA_sorted h x) hd.2 fun z hz y hy => ?_
    rcases mem_putA.1 hy with rfl | ⟨hy, _⟩
    · exact hd.1 z hz
    · exact hf z (by simp [hz]) y hy
theorem addK_len (t : List AIt) (x : AIt) : (addK t x).length = t.length + 1 := by
  unfold addK
  rw [List.length_append, List.length_cons]
  have := congrArg List.length (List.takeWhile_append_dropWhile (p := fun y : AIt => Op.bytesLess y.p x.p) (l := t))
  rw [List.length_append] at this
  omega
theorem adds_len : ∀ (L acc : List AIt), (L.foldl addK acc).length = acc.length + L.length
  | [], _ => rfl
  | x :: r, acc => by rw [List.foldl_cons, adds_len r, addK_len, List.length_cons]; omega
theorem putK_len (l : List Txt) (s : Txt) : (putK l s).length ≤ l.length + 1 := by
  unfold putK
  split
  · omega
  · have h1 : ∀ p : Txt → Bool, (l.takeWhile p ++ s :: l.dropWhile p).length = l.length + 1 := fun p => by
      have h2 : (l.takeWhile p ++ l.dropWhile p).length = l.length := by rw [List.takeWhile_append_dropWhile]
      rw [List.length_append] at h2 ⊢
      rw [List.length_cons]
      omega
    exact Nat.le_of_eq (h1 _)
theorem putsK_len : ∀ (L acc : List Txt), (L.foldl putK acc).length ≤ acc.length + L.length
  | [], _ => by simp
  | x :: r, acc => by
    rw [List.foldl_cons, List.length_cons]
    have h1 := putsK_len r (putK acc x)
    have h2 := putK_len acc x
    omega
theorem mem_putK {l : List Txt} {s z : Txt} (h : z ∈ putK l s) : z = s ∨ z ∈ l := by
  unfold putK at h
  split at h
  · exact .inr h
  · rcases List.mem_append.1 h with h | h
    · exact .inr (List.takeWhile_subset _ h)
    · rcases List.mem_cons.1 h with h | h
      · exact .inl h
      · exact .inr (List.dropWhile_subset _ h)

end Go.Proofs.YtfbbjfbnkcklgaaGreatDoor

/- the document's merge: dir, put, inner, add -/
namespace Go.Proofs.YtfbbjfbnkcklgaaGreatDoor
open Go.RowKit

section
variable {P : Program} (w : World)
/-- append onto a slice without room: what was stays -/
theorem run_append_fresh (t ty e : TypeId) (i : TypeInfo) (z : Value) (sz bytes : Nat) (ht : P.underlying t = some (.slice e)) (hi : P.info? e = some i) (hz : i.zero = some z)
    (hsize : i.size = sz) (hby : i.bytes = bytes) (hzs : z.cells.size = sz) (hsz : 0 < sz) (b off : Nat) (hrow : Row w e sz (.slice (some ⟨b, off, none⟩) 0 0) [])
    (x : Value) (news : List Value) (hx : Src w sz x news) (h63 : news.length ≤ maxLen) (hbytes : news.length * bytes ≤ 140737488355328) :
    ∃ A' n' c' w', (Builtin.append_ #[t, t] ty #[.slice (some ⟨b, off, none⟩) 0 0, x]).run P w = .ok (.slice A' n' c') w' ∧ Row w' e sz (.slice A' n' c') news ∧ Below w.heap.size w w' ∧
      ((Value.slice A' n' c').ownBlock = some b ∨ (Value.slice A' n' c').ownBlock = some w.heap.size) := by
  subst hsize
  subst hby
  obtain ⟨B, m, d, rfl, hlm, hmd, _, hB⟩ := hx
  have hml : m ≤ news.length := by rw [hlm]; exact Nat.le_mul_of_pos_right _ hsz
  rcases Nat.eq_zero_or_pos m with hm | hm
  · subst hm
    have hnn : news = [] := List.eq_nil_of_length_eq_zero (by simpa using hlm)
    subst hnn
    refine ⟨some ⟨b, off, none⟩, 0, 0, w, ?_, hrow, Below.refl _ _, .inl rfl⟩
    cases B with
    | none => simp [Builtin.append_, run_underlying ht, sizeOf, typeInfo, hi, Builtin.lenOf, Builtin.firstCells, storeCells]
    | some a => simp [Builtin.append_, run_underlying ht, sizeOf, typeInfo, hi, Builtin.lenOf, Builtin.firstCells, loadCells, loadCellsFrom, storeCells]
  · cases B with
    | none =>
      exfalso
      have hp := Nat.mul_pos hm hsz
      obtain ⟨a, ha, _⟩ := hB 0 news[0] (List.getElem?_eq_getElem (by omega))
      cases ha
    | some a =>
      have hnews : ∀ j u, news[j]? = some u → w.cell? (a.add j) = some u := fun j u hj => by
        obtain ⟨a', ha', hc⟩ := hB j u hj; cases ha'; exact hc
      have h63' : 0 + m ≤ maxLen := by omega
      have hsmall : 0 + m ≤ 9223372036854775807 := by simp only [maxLen] at h63'; omega
      have hbytes' : (0 + m) * i.bytes ≤ 140737488355328 := Nat.le_trans (Nat.mul_le_mul_right _ (by omega)) hbytes
      have hr := run_append_grow (P := P) w t ty e i z ht hi hz ⟨b, off, none⟩ 0 0 [] (by simp) (by simp) a m d news hlm hnews (by omega) (by omega) (growslice_fits (by omega) hbytes')
      have hge := grownCap_ge w (0 + m) 0 e
      have hcm' : grownCap w (0 + m) 0 e ≤ maxLen := grownCap_le_maxLen w (0 + m) 0 e h63'
      simp only [Nat.zero_add] at hr hge hcm'
      rw [show ([] : List Value).toArray ++ news.toArray = news.toArray by simp] at hr
      refine ⟨_, _, _, _, hr, ⟨_, m, _, rfl, by simpa using hlm, hge, hcm', .inr ⟨w.heap.size, 0, _, rfl, heap_alloc_new w.drew _, ?_, ?_⟩⟩, ⟨rfl, rfl, rfl, by simp, fun k hk => heap_alloc_old w.drew _ hk⟩, .inr rfl⟩
      · simp only [Array.size_append, List.size_toArray, size_zeroCells, hzs, hlm, ← Nat.add_mul]
        rw [Nat.zero_add]
        apply Nat.le_of_eq
        congr 1
        omega
      · simp only [List.drop_zero, Array.toList_append]
        rw [← hlm]
        exact List.take_left
end

set_option maxHeartbeats 1600000 in
theorem refdir22 (A : Option Addr) (c : Nat) (l : List Itm) (q : ByteArray) (w : World) (h : Tr w A c l) :
    Calls Tryz.prog 72 #[.slice A l.length c, .string q] w fun e w' => e = .returned (.bool (foundDir (l.map Itm.abs) q.toList)) ∧ Below w.heap.size w w' := by
  have HF : HidP (Calls Tryz.prog 45 #[.slice A l.length c, .string q] w fun e w' => (∃ (x : Itm) (f : Bool), e = .returned (.tuple #[.agg #[.string x.p, .bool x.d, .slice x.dA x.bs.length x.dc], .bool f]) ∧ (f && x.d) = foundDir (l.map Itm.abs) q.toList) ∧ Below w.heap.size w w') := hid (by
    refine (reffind A c l q _ h).mono ?_
    unfold foundDir
    rw [find_abs]
    rintro e w' ⟨hb, (⟨x, hx, rfl⟩ | ⟨hx, rfl⟩)⟩
    · rw [hx]
      exact ⟨⟨x, true, rfl, by simp [Itm.abs]⟩, hb⟩
    · rw [hx]
      exact ⟨⟨zeroItm, false, rfl, rfl⟩, hb⟩)
  clear h
  generalize foundDir (l.map Itm.abs) q.toList = v at *
  go_enter Tryz.func72, Tryz.ntmps72
  go_wp2_with fail
  refine HF.out.mono ?_
  rintro e w1 ⟨⟨x, f, rfl, hf⟩, hb1⟩
  have hbx := thenA hb1 (.cells #[.string x.p, .bool x.d, .slice x.dA x.bs.length x.dc] 42 (0, 0))
  cases f
  · subst hf
    go_wp2_with fail
    go_ret
    exact ⟨rfl, hbx⟩
  · rw [Bool.true_and] at hf
    subst hf
    go_wp2_with fail
    go_ret
    exact ⟨rfl, hbx⟩

theorem Row.upto {w : World} {e : TypeId} {sz b off n c k : Nat} {xs : List Value} (h : Row w e sz (.slice (some ⟨b, off, none⟩) n c) xs) (hk : k ≤ n) : Row w e sz (.slice (some ⟨b, off, none⟩) k c) (xs.take (k * sz)) := by
  obtain ⟨A', n', c', hv, hl, hn, hc, hh⟩ := h
  cases hv
  rcases hh with ⟨h, _⟩ | ⟨b', off', cs, h, hb, hs, ht⟩
  · cases h
  · cases h
    have hkm : k * sz ≤ n * sz := Nat.mul_le_mul_right _ hk
    refine ⟨_, k, c, rfl, by rw [List.length_take]; omega, by omega, hc, .inr ⟨b, off, cs, rfl, hb, hs, ?_⟩⟩
    rw [← ht, List.take_take, Nat.min_eq_left hkm]
theorem Row.from {w : World} {e : TypeId} {sz b off n c k : Nat} {xs : List Value} (h : Row w e sz (.slice (some ⟨b, off, none⟩) n c) xs) (hk : k ≤ n) : Row w e sz (.slice (some ⟨b, off + k * sz, none⟩) (n - k) (c - k)) (xs.drop (k * sz)) := by
  obtain ⟨A', n', c', hv, hl, hn, hc, hh⟩ := h
  cases hv
  rcases hh with ⟨h, _⟩ | ⟨b', off', cs, h, hb, hs, ht⟩
  · cases h
  · cases h
    have hkm : k * sz ≤ n * sz := Nat.mul_le_mul_right _ hk
    have e1 : (n - k) * sz = n * sz - k * sz := Nat.sub_mul ..
    have e2 : (c - k) * sz = c * sz - k * sz := Nat.sub_mul ..
    have hcm : n * sz ≤ c * sz := Nat.mul_le_mul_right _ hn
    refine ⟨_, n - k, c - k, rfl, by rw [List.length_drop, e1]; omega, by omega, by omega, .inr ⟨b, off + k * sz, cs, rfl, hb, by omega, ?_⟩⟩
    rw [← ht, List.drop_take, List.drop_drop, e1]

theorem Row.tail {w : World} {e : TypeId} {sz b off n c k : Nat} {xs : List Value} (h : Row w e sz (.slice (some ⟨b, off, none⟩) n c) xs) (hk : k ≤ n) : Src w sz (.slice (if c = k then some ⟨b, off, none⟩ else some ⟨b, off + k * sz, none⟩) (n - k) (c - k)) (xs.drop (k * sz)) := by
  split
  · rename_i hc
    have hn : n ≤ c := by
      obtain ⟨_, _, _, hv, _, hn, _⟩ := id h
      cases hv
      exact hn
    have hl := h.count
    have e : xs.drop (k * sz) = [] := List.drop_of_length_le (by rw [hl]; exact Nat.mul_le_mul_right _ (by omega))
    rw [e]
    exact ⟨_, n - k, c - k, rfl, by rw [show n - k = 0 by omega]; simp, by omega, (fun h => nomatch h), fun j u hj => by simp at hj⟩
  · exact (h.from hk).src

def EmptyG (e : TypeId) (sz base : Nat) (v : Value) (W : World) : Prop := ∃ b, v = .slice (some ⟨b, 0, none⟩) 0 0 ∧ base ≤ b ∧ Row W e sz (.slice (some ⟨b, 0, none⟩) 0 0) []
def RowG (e : TypeId) (sz base : Nat) (H : List Value) (v : Value) (W : World) : Prop := ∃ A n c, v = .slice A n c ∧ Row W e sz (.slice A n c) H ∧ ∀ k, (Value.slice A n c).ownBlock = some k → base ≤ k
def OneG (e : TypeId) (base : Nat) (X : Array Value) (v : Value) (W : World) : Prop := ∃ b, v = .slice (some ⟨b, 0, none⟩) 1 1 ∧ base ≤ b ∧ W.heap[b]? = some (.cells X e (0, 0))
def putG (e : TypeId) (sz base : Nat) (H : List Value) (X : Array Value) : Nat → Value → World → Prop
  | 0 => EmptyG e sz base | 4 => RowG e sz base H | _ => OneG e base X
def putDst : Nat → Nat
  | 0 => 33 | 4 => 37 | _ => 39
def addDst : Nat → Nat
  | 0 => 32 | 4 => 36 | _ => 41
theorem putG_mono {e : TypeId} {sz base : Nat} {H : List Value} {X : Array Value} (j : Nat) (v : Value) (w w' : World) (hb : Below w.heap.size w w') (h : putG e sz base H X j v w) : putG e sz base H X j v w' := by
  unfold putG at h ⊢
  split at h
  · obtain ⟨b, h1, h2, h3⟩ := h
    exact ⟨b, h1, h2, h3.below hb⟩
  · obtain ⟨A, n, c, h1, h2, h3⟩ := h
    exact ⟨A, n, c, h1, h2.below hb, h3⟩
  · obtain ⟨b, h1, h2, h3⟩ := h
    exact ⟨b, h1, h2, (hb.block _ (blkLt h3)).trans h3⟩
theorem oper_append_fresh {P : Program} {w : World} {o : Oper} {a : Act} {K : Act → World → Prop} {Q : Exit → Act → World → Prop} (s x : Operand) (t : TypeId)
    (ho : o.op = .call { callee := .builtin .append, args := #[s, x], argTypes := #[t, t] })
    (e : TypeId) (i : TypeInfo) (z : Value) (sz bytes : Nat) (ht : P.underlying t = some (.slice e)) (hi : P.info? e = some i) (hz : i.zero = some z)
    (hsize : i.size = sz) (hby : i.bytes = bytes) (hzs : z.cells.size = sz) (hsz : 0 < sz) (b off : Nat) (hs : a.eval s = .slice (some ⟨b, off, none⟩) 0 0) (hrow : Row w e sz (.slice (some ⟨b, off, none⟩) 0 0) [])
    (xv : Value) (news : List Value) (hxv : a.eval x = xv) (hx : Src w sz xv news) (h63 : news.length ≤ maxLen) (hbytes : news.length * bytes ≤ 140737488355328)
    (h : ∀ A' n' c' w', Row w' e sz (.slice A' n' c') news → Below w.heap.size w w' → ((Value.slice A' n' c').ownBlock = some b ∨ (Value.slice A' n' c').ownBlock = some w.heap.size) → K (a.put o.dst (.slice A' n' c')) w') : Oper.wp P o a w K Q := by
  obtain ⟨A', n', c', w', hr, h2, h3, h4⟩ := run_append_fresh (P := P) w t o.type e i z sz bytes ht hi hz hsize hby hzs hsz b off hrow xv news hx h63 hbytes
  unfold Oper.wp execOp
  simp only [ho, resolve, invoke, builtin, Sem.run_bind, Sem.run_pure, Result.andThen_ok, List.map_toArray, List.map_cons, List.map_nil, hs, hxv, hr]
  exact h A' n' c' w' h2 h3 h4

section
variable {P : Program} {md : Region.Mode} {ops : Array Oper} {Q : Exit → Act → World → Prop} {S : World → Prop} {fuel : Nat} {listed : Array Bool} {a : Act} {w : World}
theorem take_slot (i d : Nat) {oi : Oper} {v : Value} (hi : ops[i]? = some oi) (hd : oi.dst = some d)
    (hs : Region.noSelect ops = true) (hf : Region.free md ops listed i = true) (hr : (Region.ready md ops listed).contains i = true)
    (hQ : ∀ c a w, Q (.panic c) (a.put (some d) v) w → Q (.panic c) a w) (hy : YieldsIf P ops S oi v a) (hS : S w)
    (h : wpAnyH P md ops Q S fuel (listed.setIfInBounds i true) (a.put (some d) v) w) : wpAnyH P md ops Q S (fuel + 1) listed a w :=
  wpAnyH_take hi hs hf hr (by rw [hd]; exact hQ) hy hS (by rw [hd]; exact h)
/-- the one operation that may come up: an append -/
theorem ready_append_row (i : Nat) {o : Oper} (hr : Region.ready md ops listed = [i]) (ho : ops[i]? = some o) (hgd : o.guard = none) (d : Tmp) (hd : o.dst = some d) (s x : Operand) (t : TypeId)
    (hop : o.op = .call { callee := .builtin .append, args := #[s, x], argTypes := #[t, t] })
    (e : TypeId) (ti : TypeInfo) (z : Value) (sz bytes : Nat) (ht : P.underlying t = some (.slice e)) (hi : P.info? e = some ti) (hz : ti.zero = some z)
    (hsize : ti.size = sz) (hby : ti.bytes = bytes) (hzs : z.cells.size = sz) (hsz : 0 < sz)
    (v : Value) (xs : List Value) (hs : a.eval s = v) (hown : Row w e sz v xs) (xv : Value) (news : List Value) (hxv : a.eval x = xv) (hx : Src w sz xv news) (h1 : ∀ u ∈ news, u.oneCell' = true)
    (h63 : xs.length + news.length ≤ maxLen) (hbytes : (xs.length + news.length) * bytes ≤ 140737488355328)
    (h : ∀ A' n' c' w', Row w' e sz (.slice A' n' c') (xs ++ news) → w.grownBy w' v.ownBlock → ((Value.slice A' n' c').ownBlock = v.ownBlock ∨ (Value.slice A' n' c').ownBlock = some w.heap.size) → S w' ∧ wpAnyH P md ops Q S fuel (listed.setIfInBounds i true) (a.put (some d) (.slice A' n' c')) w') :
    wpAnyH P md ops Q S (fuel + 1) listed a w := by
  refine wpAnyH_all hr (by simp) fun j hj => ?_
  rw [List.mem_singleton] at hj
  rw [hj]
  unfold wpOp
  simp only [ho]
  rw [if_pos (by simp [Region.wanted, hgd])]
  refine .inl (wp_append_row w s x t hop e ti z sz bytes ht hi hz hsize hby hzs hsz v xs hs hown xv news hxv hx h1 h63 hbytes fun A' n' c' w' h2 h3 h4 => ?_)
  rw [hd]
  exact h A' n' c' w' h2 h3 h4
/-- the one operation that may come up: an assignment -/
theorem ready_assign (i : Nat) {o : Oper} (hr : Region.ready md ops listed = [i]) (ho : ops[i]? = some o) (hgd : o.guard = none) (d : Tmp) (hd : o.dst = some d) (x : Operand) (hop : o.op = .assign x) (v : Value) (hv : a.eval x = v)
    (h : S w ∧ wpAnyH P md ops Q S fuel (listed.setIfInBounds i true) (a.put (some d) v) w) : wpAnyH P md ops Q S (fuel + 1) listed a w := by
  refine wpAnyH_all hr (by simp) fun j hj => ?_
  rw [List.mem_singleton] at hj
  rw [hj]
  unfold wpOp
  simp only [ho]
  rw [if_pos (by simp [Region.wanted, hgd])]
  refine .inl ?_
  unfold Oper.wp
  rw [show execOp a.eval o = pure (.value v) by obtain ⟨dst, op, ty, pos, after, guard⟩ := o; subst hop; rw [← hv]; rfl]
  rw [Sem.run_pure]
  show (fun a' w' => S w' ∧ wpAnyH P md ops Q S fuel (listed.setIfInBounds i true) a' w') (a.put o.dst v) w
  rw [hd]
  exact h
/-- the one operation that may come up: a call -/
theorem ready_call (i : Nat) {o : Oper} (hr : Region.ready md ops listed = [i]) (ho : ops[i]? = some o) (hgd : o.guard = none) (d : Tmp) (hd : o.dst = some d) (f : FuncId) (xs : Array Operand) (ats : Array TypeId) (hop : o.op = .call { callee := .value (.func f), args := xs, argTypes := ats }) {fn : Func} (hf : P.funcs[f]? = some fn)
    (hname : (fn.name == "runtime.NumGoroutine") = false) (hb : fn.body.isNone = false) (args : List Value) (ha : xs.toList.map a.eval = args) {R : Ending → World → Prop} (hc : Calls P f args.toArray w R)
    (h : ∀ e w', R e w' → ∃ v, e = .returned v ∧ S w' ∧ wpAnyH P md ops Q S fuel (listed.setIfInBounds i true) (a.put (some d) v) w') : wpAnyH P md ops Q S (fuel + 1) listed a w := by
  refine wpAnyH_all hr (by simp) fun j hj => ?_
  rw [List.mem_singleton] at hj
  rw [hj]
  unfold wpOp
  simp only [ho]
  rw [if_pos (by simp [Region.wanted, hgd])]
  refine .inl ?_
  have hex : execOp a.eval o = callFunc f (#[] ++ xs.map a.eval ++ #[]) := by
    obtain ⟨dst, op, ty, pos, after, guard⟩ := o
    subst hop
    rfl
  unfold Oper.wp
  rw [hex, show #[] ++ xs.map a.eval ++ #[] = args.toArray by rw [← ha]; simp [← List.map_toArray], run_callFunc_go hf hname hb]
  refine hc.mono fun e w' hR => ?_
  obtain ⟨v, rfl, hk⟩ := h e w' hR
  show (fun a' w' => S w' ∧ wpAnyH P md ops Q S fuel (listed.setIfInBounds i true) a' w') (a.put o.dst v) w'
  rw [hd]
  exact hk
end
/-- two loads ahead of a call -/
def ldDst : Nat → Nat
  | 4 => 53 | _ => 57
def ldG (u : Value) (s : ByteArray) : Nat → Value → World → Prop
  | 4 => fun v _ => v = u | _ => fun v _ => v = .string s
theorem oper_load_names {o : Oper} {a : Act} {w : World} {K : Act → World → Prop} {Q : Exit → Act → World → Prop} {t : Tmp} {p : Addr} {A : Option Addr} {n c : Nat} (ho : o.op = .load 26 (.tmp t)) (he : a.eval (.tmp t) = .pointer (some p)) (hc : w.cell? p = some (.slice A n c)) (h : K (a.put o.dst (.slice A n c)) w) : Oper.wp Tryz.prog o a w K Q := by
  obtain ⟨dst, op, ty, pos, after, guard⟩ := o
  subst ho
  replace he : a.tmps.getD t undef = _ := he
  rw [Array.getD_eq_getD_getElem?] at he
  go_simp
  first | done | exact h
theorem oper_load_str {o : Oper} {a : Act} {w : World} {K : Act → World → Prop} {Q : Exit → Act → World → Prop} {t : Tmp} {p : Addr} {s : ByteArray} (ho : o.op = .load 9 (.tmp t)) (he : a.eval (.tmp t) = .pointer (some p)) (hc : w.cell? p = some (.string s)) (h : K (a.put o.dst (.string s)) w) : Oper.wp Tryz.prog o a w K Q := by
  obtain ⟨dst, op, ty, pos, after, guard⟩ := o
  subst ho
  replace he : a.tmps.getD t undef = _ := he
  rw [Array.getD_eq_getD_getElem?] at he
  go_simp
  first | done | exact h

end Go.Proofs.YtfbbjfbnkcklgaaGreatDoor

/- the document's put, inner, add (printed by gen/genH3.py) -/
namespace Go.Proofs.YtfbbjfbnkcklgaaGreatDoor
open Go.RowKit

theorem Row.made {e : TypeId} {sz : Nat} (w : World) : Row (w.alloc (.cells #[] e (0, 0))) e sz (.slice (some ⟨w.heap.size, 0, none⟩) 0 0) [] := ⟨_, 0, 0, rfl, by simp, Nat.le_refl _, Nat.zero_le _, .inr ⟨w.heap.size, 0, #[], rfl, heap_alloc_new w _, by simp, by simp⟩⟩
theorem oper_build0s {o : Oper} {a : Act} {w : World} {K : Act → World → Prop} {Q : Exit → Act → World → Prop} (ho : o.op = .buildSlice 26 0 #[])
    (h : K (a.put o.dst (.slice (some ⟨w.heap.size, 0, none⟩) 0 0)) (w.alloc (.cells #[] 9 (0, 0)))) : Oper.wp Tryz.prog o a w K Q := by
  obtain ⟨dst, op, ty, pos, after, guard⟩ := o
  subst ho
  go_simp
  first | done | exact h
theorem oper_build0i {o : Oper} {a : Act} {w : World} {K : Act → World → Prop} {Q : Exit → Act → World → Prop} (ho : o.op = .buildSlice 22 0 #[])
    (h : K (a.put o.dst (.slice (some ⟨w.heap.size, 0, none⟩) 0 0)) (w.alloc (.cells #[] 42 (0, 0)))) : Oper.wp Tryz.prog o a w K Q := by
  obtain ⟨dst, op, ty, pos, after, guard⟩ := o
  subst ho
  go_simp
  first | done | exact h
theorem oper_build1s {o : Oper} {a : Act} {w : World} {K : Act → World → Prop} {Q : Exit → Act → World → Prop} {t : Tmp} {s : ByteArray} (ho : o.op = .buildSlice 26 1 #[(0, .tmp t)]) (he : a.eval (.tmp t) = .string s)
    (h : K (a.put o.dst (.slice (some ⟨w.heap.size, 0, none⟩) 1 1)) (w.alloc (.cells #[.string s] 9 (0, 0)))) : Oper.wp Tryz.prog o a w K Q := by
  obtain ⟨dst, op, ty, pos, after, guard⟩ := o
  subst ho
  replace he : a.tmps.getD t undef = _ := he
  rw [Array.getD_eq_getD_getElem?] at he
  go_simp
  first | done | exact h
theorem oper_build1i {o : Oper} {a : Act} {w : World} {K : Act → World → Prop} {Q : Exit → Act → World → Prop} {t : Tmp} {x : Itm} (ho : o.op = .buildSlice 22 1 #[(0, .tmp t)]) (he : a.eval (.tmp t) = .agg #[.string x.p, .bool x.d, .slice x.dA x.bs.length x.dc])
    (h : K (a.put o.dst (.slice (some ⟨w.heap.size, 0, none⟩) 1 1)) (w.alloc (.cells #[.string x.p, .bool x.d, .slice x.dA x.bs.length x.dc] 42 (0, 0)))) : Oper.wp Tryz.prog o a w K Q := by
  obtain ⟨dst, op, ty, pos, after, guard⟩ := o
  subst ho
  replace he : a.tmps.getD t undef = _ := he
  rw [Array.getD_eq_getD_getElem?] at he
  go_simp
  first | done | exact h
theorem str_one {l : List ByteArray} : ∀ u ∈ l.map Value.string, u.oneCell' = true := fun u hu => by
  obtain ⟨s, _, rfl⟩ := List.mem_map.1 hu
  rfl
theorem putK_at {l : List ByteArray} {s : ByteArray} {k : Nat} (h1 : ∀ y ∈ l.take k, Op.bytesLess y.toList s.toList = true) (h2 : ∀ h : k < l.length, Op.bytesLess l[k].toList s.toList = false) (h3 : ∀ h : k < l.length, l[k].toList ≠ s.toList) :
    (l.take k ++ s :: l.drop k).map (fun z : ByteArray => z.toList) = putK (l.map fun z : ByteArray => z.toList) s.toList := by
  obtain ⟨e1, e2⟩ := while_at (p := fun y : Txt => Op.bytesLess y s.toList) (l := l.map fun z : ByteArray => z.toList) (j := k) (fun y hy => by
    rw [← List.map_take] at hy
    obtain ⟨z, hz, rfl⟩ := List.mem_map.1 hy
    exact h1 z hz) (fun h => by rw [List.getElem_map]; exact h2 (by simpa using h))
  unfold putK
  rw [e1, e2, if_neg, List.map_append, List.map_cons, List.map_take, List.map_drop]
  intro hh
  by_cases hk : k < l.length
  · rw [List.drop_eq_getElem_cons (by simpa using hk), List.head?_cons, List.getElem_map] at hh
    exact h3 hk (Option.some.inj hh)
  · rw [List.drop_of_length_le (by simp; omega)] at hh
    cases hh
theorem putK_in {l : List ByteArray} {s : ByteArray} {k : Nat} (hk : k < l.length) (h1 : ∀ y ∈ l.take k, Op.bytesLess y.toList s.toList = true) (h2 : Op.bytesLess l[k].toList s.toList = false) (h3 : l[k].toList = s.toList) :
    l.map (fun z : ByteArray => z.toList) = putK (l.map fun z : ByteArray => z.toList) s.toList := by
  obtain ⟨e1, e2⟩ := while_at (p := fun y : Txt => Op.bytesLess y s.toList) (l := l.map fun z : ByteArray => z.toList) (j := k) (fun y hy => by
    rw [← List.map_take] at hy
    obtain ⟨z, hz, rfl⟩ := List.mem_map.1 hy
    exact h1 z hz) (fun h => by rw [List.getElem_map]; exact h2)
  unfold putK
  rw [e2, if_pos]
  rw [List.drop_eq_getElem_cons (by simpa using hk), List.head?_cons, List.getElem_map, h3]

set_option maxRecDepth 100000 in
set_option maxHeartbeats 2000000 in
theorem refputn_some (b0 o0 c : Nat) (l : List ByteArray) (s : ByteArray) (w : World) (hl : Row w 9 1 (.slice (some ⟨b0, o0, none⟩) l.length c) (l.map .string)) (hn : l.length ≤ 1000000) (hsz : ∀ q ∈ l, q.size ≤ 140737488351232) :
    Calls Tryz.prog 73 #[.slice (some ⟨b0, o0, none⟩) l.length c, .string s] w fun e w' => (∃ (B : Option Addr) (d : Nat) (l' : List ByteArray), e = .returned (.slice B l'.length d) ∧ Row w' 9 1 (.slice B l'.length d) (l'.map .string) ∧ l'.map (fun z : ByteArray => z.toList) = putK (l.map fun z : ByteArray => z.toList) s.toList ∧ ∀ y ∈ l', y = s ∨ y ∈ l) ∧ Below w.heap.size w w' := by
  obtain ⟨ti, hi0, hz0, hz1, hz2⟩ := info_parts infoStr
  have HL := hid hl
  have HSZ := hid hsz
  clear hl hsz
  go_enter Tryz.func73, Tryz.ntmps73
  go_wp2_with fail
  go_loopg [5] l.length (fun k i wr => ∃ j : Nat, j ≤ l.length ∧ k = l.length - j ∧ i = .int .i64 j ∧ Below w.heap.size w wr ∧ HidP (∀ y ∈ l.take j, Op.bytesLess y.toList s.toList = true))
  case atStart => exact ⟨0, Nat.zero_le _, rfl, rfl, Below.refl _ _, ⟨by simp⟩⟩
  case round =>
    obtain ⟨j, hj, rfl, rfl, hb, hless⟩ := hrel
    by_cases hlt : j < l.length
    · have i0 : (0 : Int) ≤ (j : Int) := by omega
      have i1 : (j : Int) < (l.length : Int) := by omega
      obtain ⟨b1, o1, hA, k1⟩ := (HL.out.below hb).str hlt
      cases hA
      have HLS := hid (fun W => refless l[j] s W (HSZ.out _ (List.getElem_mem hlt)))
      cases hd : Op.bytesLess l[j].toList s.toList
      · have HD := hid hd
        rw [hd] at HLS
        clear hd
        cases heq : (l[j].toList == s.toList)
        · have HNE : HidP (l[j].toList ≠ s.toList) := hid (by simpa using heq)
          have heq2 : (l[j].toList != s.toList) = true := by simp only [bne, heq, Bool.not_false]
          go_wp2_with fail
          refine (HLS.out _).mono ?_
          rintro e w3 ⟨rfl, q, rfl⟩
          replace hb := Below.drewN (n := q) hb
          have k2 : (wr.drewN q).cell? ⟨b0, o0 + j, none⟩ = some (.string l[j]) := k1
          clear k1 HLS
          generalize wr.drewN q = wr at *
          go_wp2_with fail
          have HBW := hid hb
          generalize hW0 : wr = W0 at *
          clear hW0
          have hcap : l.length ≤ c := by
            obtain ⟨_, _, _, hv, _, hn', _⟩ := id HL.out
            cases hv
            exact hn'
          have s0 : (0 : Int) ≤ (j : Int) := by omega
          have s1 : (j : Int) ≤ (l.length : Int) := by omega
          have s2 : (j : Int) ≤ (c : Int) := by omega
          have s3 : (l.length : Int) ≤ (c : Int) := by omega
          have s4 : j ≤ l.length := by omega
          have s5 : j ≤ c := by omega
          have HS0 : HidP (∀ W, Below W0.heap.size W0 W → Below W0.heap.size W0 W) := hid (fun W h => h)
          have SH : HidP (∀ W, Below W0.heap.size W0 W → Src W 1 (.slice (some ⟨b0, o0, none⟩) j c) ((l.take j).map .string)) := hid (fun W hW => by
            have h1 := (((HL.out.below HBW.out).below hW).upto (k := j) s4).src
            rw [Nat.mul_one, ← List.map_take] at h1
            exact h1)
          have ST : HidP (∀ W, Below W0.heap.size W0 W → Src W 1 (.slice (if c = j then some ⟨b0, o0, none⟩ else some ⟨b0, o0 + j, none⟩) (l.length - j) (c - j)) ((l.drop j).map .string)) := hid (fun W hW => by
            have h1 := ((HL.out.below HBW.out).below hW).tail (k := j) s4
            rw [Nat.mul_one, ← List.map_drop] at h1
            exact h1)
          have h1T : ∀ u ∈ (l.drop j).map Value.string, u.oneCell' = true := str_one
          have bdH : ((l.take j).map Value.string).length ≤ maxLen ∧ ((l.take j).map Value.string).length * 16 ≤ 140737488355328 := by simp only [List.length_map, List.length_take, maxLen]; omega
          have bdX : ((l.take j).map Value.string).length + [Value.string s].length ≤ maxLen ∧ (((l.take j).map Value.string).length + [Value.string s].length) * 16 ≤ 140737488355328 := by simp only [List.length_map, List.length_take, List.length_cons, List.length_nil, maxLen]; omega
          have bdT : ((l.take j).map Value.string ++ [Value.string s]).length + ((l.drop j).map Value.string).length ≤ maxLen ∧ (((l.take j).map Value.string ++ [Value.string s]).length + ((l.drop j).map Value.string).length) * 16 ≤ 140737488355328 := by simp only [List.length_append, List.length_map, List.length_take, List.length_drop, List.length_cons, List.length_nil, maxLen]; omega
          clear k2 i1
          go_wp2_with fail
          have hs0 := HS0.out W0.drew ⟨rfl, rfl, rfl, Nat.le_refl _, fun _ _ => rfl⟩
          refine wp_region_held_drew (S := fun W => Below W0.heap.size W0 W) (by kernel_rfl) hs0 (fun hHeld => ?_)
          refine take_slot 1 34 (v := ?_) rfl rfl (by kernel_rfl) (by kernel_rfl) (by kernel_rfl) (fun _ _ _ h => h) (Or.inl ⟨by rfl, by intro W hSw; (try dsimp only at hSw); go_simp; try with_reducible rfl⟩) (by assumption) ?_
          simp only [Act.put, List.setIfInBounds_toArray, List.set_cons_zero, List.set_cons_succ]
          refine take_slot 2 35 (v := ?_) rfl rfl (by kernel_rfl) (by kernel_rfl) (by kernel_rfl) (fun _ _ _ h => h) (Or.inl ⟨by rfl, by intro W hSw; (try dsimp only at hSw); go_simp; try with_reducible rfl⟩) (by assumption) ?_
          simp only [Act.put, List.setIfInBounds_toArray, List.set_cons_zero, List.set_cons_succ]
          refine take_slot 3 36 (v := ?_) rfl rfl (by kernel_rfl) (by kernel_rfl) (by kernel_rfl) (fun _ _ _ h => h) (Or.inl ⟨by rfl, by intro W hSw; (try dsimp only at hSw); go_simp; try with_reducible rfl⟩) (by assumption) ?_
          simp only [Act.put, List.setIfInBounds_toArray, List.set_cons_zero, List.set_cons_succ]
          refine take_slot 5 38 (v := ?_) rfl rfl (by kernel_rfl) (by kernel_rfl) (by kernel_rfl) (fun _ _ _ h => h) (Or.inl ⟨by rfl, by intro W hSw; (try dsimp only at hSw); go_simp; try with_reducible rfl⟩) (by assumption) ?_
          simp only [Act.put, List.setIfInBounds_toArray, List.set_cons_zero, List.set_cons_succ]
          refine take_slot 8 41 (v := ?_) rfl rfl (by kernel_rfl) (by kernel_rfl) (by kernel_rfl) (fun _ _ _ h => h) (Or.inl ⟨by rfl, by intro W hSw; (try dsimp only at hSw); go_simp; try with_reducible rfl⟩) (by assumption) ?_
          simp only [Act.put, List.setIfInBounds_toArray, List.set_cons_zero, List.set_cons_succ]
          refine take_slot 9 42 (v := ?_) rfl rfl (by kernel_rfl) (by kernel_rfl) (by kernel_rfl) (fun _ _ _ h => h) (Or.inl ⟨by rfl, by intro W hSw; (try dsimp only at hSw); go_simp; try with_reducible rfl⟩) (by assumption) ?_
          simp only [Act.put, List.setIfInBounds_toArray, List.set_cons_zero, List.set_cons_succ]
          refine take_slot 10 43 (v := ?_) rfl rfl (by kernel_rfl) (by kernel_rfl) (by kernel_rfl) (fun _ _ _ h => h) (Or.inl ⟨by rfl, by intro W hSw; (try dsimp only at hSw); go_simp; try with_reducible rfl⟩) (by assumption) ?_
          simp only [Act.put, List.setIfInBounds_toArray, List.set_cons_zero, List.set_cons_succ]
          refine flow_region (ks := [0, 4, 6]) putDst (putG 9 1 W0.heap.size ((l.take j).map .string) #[.string s]) (fun _ _ _ _ => True) 3 (by kernel_rfl) (by kernel_rfl) (by kernel_rfl) (by decide) (by simp [putDst]) (by decide) hs0 putG_mono ?step ?fin
          case step =>
            intro i' hi' a' w' hF hS hpre
            try dsimp only at hS
            simp only [List.mem_cons, List.not_mem_nil, or_false] at hi'
            rcases hi' with rfl | rfl | rfl
            · refine ⟨_, rfl, rfl, fun K hK => ?_⟩
              refine oper_build0s (by rfl) ?_
              exact hK _ _ (thenA (Below.refl _ _) _) (HS0.out _ (thenA hS _)) ⟨_, rfl, hS.size, Row.made w'⟩ fun _ _ _ _ => ⟨trivial, trivial⟩
            · refine ⟨_, rfl, rfl, fun K hK => ?_⟩
              obtain ⟨b33, e33, l33, hr33⟩ : EmptyG 9 1 W0.heap.size (a'.tmps.getD 33 undef) w' := hpre 0 (by simp) (by kernel_rfl)
              refine oper_append_fresh _ _ 26 (by rfl) 9 ti (.string ByteArray.empty) 1 16 Tryz.underlying26 hi0 hz0 hz1 hz2 rfl (by decide) b33 0 (show a'.eval (.tmp 33) = _ from e33) hr33 (.slice (some ⟨b0, o0, none⟩) j c) ((l.take j).map .string) (by show a'.eval (.tmp 36) = _; rw [hF.eval (by decide)]; kernel_rfl) (SH.out _ hS) bdH.1 bdH.2 ?_
              intro A6 n6 c6 w6 hr6 hb6 ho6
              exact hK _ _ hb6 (HS0.out _ (thenB hS hb6)) ⟨A6, n6, c6, rfl, hr6, fun k' hk' => by
                rcases ho6 with h | h
                · rw [h] at hk'; cases hk'; exact l33
                · rw [h] at hk'; cases hk'; exact hS.size⟩ fun _ _ _ _ => ⟨trivial, trivial⟩
            · refine ⟨_, rfl, rfl, fun K hK => ?_⟩
              refine oper_build1s (s := s) (by rfl) (by show a'.eval (.tmp 38) = _; rw [hF.eval (by decide)]; kernel_rfl) ?_
              exact hK _ _ (thenA (Below.refl _ _) _) (HS0.out _ (thenA hS _)) ⟨_, rfl, hS.size, heap_alloc_new _ _⟩ fun _ _ _ _ => ⟨trivial, trivial⟩
          case fin =>
            intro a' w' hF hS hG _
            try dsimp only at hS
            have g0 : EmptyG 9 1 W0.heap.size (a'.tmps.getD 33 undef) w' := hG 0 (by simp)
            have g4 : RowG 9 1 W0.heap.size ((l.take j).map .string) (a'.tmps.getD 37 undef) w' := hG 4 (by simp)
            have g6 : OneG 9 W0.heap.size #[.string s] (a'.tmps.getD 39 undef) w' := hG 6 (by simp)
            obtain ⟨b33, e33, _, _⟩ := g0
            obtain ⟨A7, n7, c7, e37, hr7, hf7⟩ := g4
            obtain ⟨b39, e39, _, q39⟩ := g6
            have hact := hF.act
            simp only [List.foldl_cons, List.foldl_nil, putDst, e33, e37, e39, List.setIfInBounds_toArray, List.set_cons_zero, List.set_cons_succ] at hact
            have hB7 := hS
            clear hF hG e33 e37 e39 hS
            subst hact
            refine ready_append_row 7 (by kernel_rfl) rfl rfl 40 rfl (.tmp 37) (.tmp 39) 26 (by rfl) 9 ti (.string ByteArray.empty) 1 16 Tryz.underlying26 hi0 hz0 hz1 hz2 rfl (by decide) (.slice A7 n7 c7) ((l.take j).map .string) (by kernel_rfl) (by exact hr7) (.slice (some ⟨b39, 0, none⟩) 1 1) [.string s] (by kernel_rfl) (by exact (Src.one q39)) (by intro u hu; rw [List.mem_singleton.1 hu]; rfl) (by exact bdX.1) (by exact bdX.2) ?_
            intro A8 n8 c8 w8 hr8 hg8 ha8
            have hB8 : Below W0.heap.size W0 w8 := Below.grownNew hB7 ⟨hg8.os, hg8.tape, hg8.output, hg8.size, hg8.block⟩ hB7.size hf7
            have hf8 := fresh_of (B := W0.heap.size) ha8 hf7 hB7.size
            refine ⟨HS0.out _ hB8, ?_⟩
            simp only [Act.put, List.setIfInBounds_toArray, List.set_cons_zero, List.set_cons_succ]
            have hst := ST.out _ hB8
            refine ready_append_row 11 (by kernel_rfl) rfl rfl 44 rfl (.tmp 40) (.tmp 43) 26 (by rfl) 9 ti (.string ByteArray.empty) 1 16 Tryz.underlying26 hi0 hz0 hz1 hz2 rfl (by decide) (.slice A8 n8 c8) ((l.take j).map .string ++ [.string s]) (by kernel_rfl) (by exact hr8) (.slice (if c = j then some ⟨b0, o0, none⟩ else some ⟨b0, o0 + j, none⟩) (l.length - j) (c - j)) ((l.drop j).map .string) (by simp [Act.eval]) (by exact hst) (by exact h1T) (by exact bdT.1) (by exact bdT.2) ?_
            intro A9 n9 c9 w9 hr9 hg9 ha9
            have hB9 : Below W0.heap.size W0 w9 := Below.grownNew hB8 ⟨hg9.os, hg9.tape, hg9.output, hg9.size, hg9.block⟩ hB8.size hf8
            refine ⟨HS0.out _ hB9, ?_⟩
            simp only [Act.put, List.setIfInBounds_toArray, List.set_cons_zero, List.set_cons_succ]
            refine ready_assign 12 (by kernel_rfl) rfl rfl 4 rfl (.tmp 44) (by rfl) (.slice A9 n9 c9) (by kernel_rfl) ⟨HS0.out _ hB9, ?_⟩
            simp only [Act.put, List.setIfInBounds_toArray, List.set_cons_zero, List.set_cons_succ]
            refine wpAnyH_done (by kernel_rfl) ?_ _
            have HR9 := hid hr9
            have HB9 := hid hB9
            clear hr7 hr8 hr9 hg8 hg9 ha8 ha9 hf7 hf8 q39 hB7 hB8 hB9 hHeld hs0
            generalize (if c = j then some (⟨b0, o0, none⟩ : Addr) else some ⟨b0, o0 + j, none⟩) = tA
            go_wp2_with fail
            go_ret
            have hrr : Row w9 9 1 (.slice A9 n9 c9) ((l.take j ++ s :: l.drop j).map .string) := by rw [List.map_append, List.map_cons]; simpa using HR9.out
            have hnl := hrr.slen
            subst hnl
            refine ⟨⟨A9, c9, l.take j ++ s :: l.drop j, rfl, hrr, putK_at hless.out (fun _ => HD.out) (fun _ => HNE.out), fun y hy => ?_⟩, thenB HBW.out HB9.out⟩
            rcases List.mem_append.1 hy with hy | hy
            · exact .inr (List.mem_of_mem_take hy)
            · rcases List.mem_cons.1 hy with hy | hy
              · exact .inl hy
              · exact .inr (List.mem_of_mem_drop hy)
        · have HEQ : HidP (l[j].toList = s.toList) := hid (by simpa using heq)
          go_wp2_with fail
          refine (HLS.out _).mono ?_
          rintro e w3 ⟨rfl, q, rfl⟩
          replace hb := Below.drewN (n := q) hb
          have k2 : (wr.drewN q).cell? ⟨b0, o0 + j, none⟩ = some (.string l[j]) := k1
          clear k1 HLS
          generalize wr.drewN q = wr at *
          go_wp2_with fail
          go_ret
          exact ⟨⟨_, c, l, rfl, HL.out.below hb, putK_in hlt hless.out HD.out HEQ.out, fun y hy => .inr hy⟩, hb⟩
      · have HN : HidP (∀ y ∈ l.take (j + 1), Op.bytesLess y.toList s.toList = true) := hid (fun y hy => by
          rw [List.take_add_one, List.getElem?_eq_getElem hlt] at hy
          rcases List.mem_append.1 hy with hy | hy
          · exact hless.out y hy
          · simp at hy; rw [hy]; exact hd)
        rw [hd] at HLS
        clear hd
        go_wp2_with fail
        refine (HLS.out _).mono ?_
        rintro e w3 ⟨rfl, q, rfl⟩
        replace hb := Below.drewN (n := q) hb
        go_wp2_with fail
        go_roundg (l.length - (j + 1))
        case measure => omega
        case rel => exact ⟨j + 1, by omega, rfl, by go_num, hb, HN⟩
    · obtain rfl : j = l.length := by omega
      go_wp2_with fail
      have HBW := hid hb
      generalize hW0 : wr = W0 at *
      clear hW0
      have hcap : l.length ≤ c := by
        obtain ⟨_, _, _, hv, _, hn', _⟩ := id HL.out
        cases hv
        exact hn'
      have s0 : (0 : Int) ≤ (l.length : Int) := by omega
      have s1 : (l.length : Int) ≤ (l.length : Int) := by omega
      have s2 : (l.length : Int) ≤ (c : Int) := by omega
      have s3 : (l.length : Int) ≤ (c : Int) := by omega
      have s4 : l.length ≤ l.length := by omega
      have s5 : l.length ≤ c := by omega
      have HS0 : HidP (∀ W, Below W0.heap.size W0 W → Below W0.heap.size W0 W) := hid (fun W h => h)
      have SH : HidP (∀ W, Below W0.heap.size W0 W → Src W 1 (.slice (some ⟨b0, o0, none⟩) l.length c) ((l.take l.length).map .string)) := hid (fun W hW => by
        have h1 := (((HL.out.below HBW.out).below hW).upto (k := l.length) s4).src
        rw [Nat.mul_one, ← List.map_take] at h1
        exact h1)
      have ST : HidP (∀ W, Below W0.heap.size W0 W → Src W 1 (.slice (if c = l.length then some ⟨b0, o0, none⟩ else some ⟨b0, o0 + l.length, none⟩) (l.length - l.length) (c - l.length)) ((l.drop l.length).map .string)) := hid (fun W hW => by
        have h1 := ((HL.out.below HBW.out).below hW).tail (k := l.length) s4
        rw [Nat.mul_one, ← List.map_drop] at h1
        exact h1)
      have h1T : ∀ u ∈ (l.drop l.length).map Value.string, u.oneCell' = true := str_one
      have bdH : ((l.take l.length).map Value.string).length ≤ maxLen ∧ ((l.take l.length).map Value.string).length * 16 ≤ 140737488355328 := by simp only [List.length_map, List.length_take, maxLen]; omega
      have bdX : ((l.take l.length).map Value.string).length + [Value.string s].length ≤ maxLen ∧ (((l.take l.length).map Value.string).length + [Value.string s].length) * 16 ≤ 140737488355328 := by simp only [List.length_map, List.length_take, List.length_cons, List.length_nil, maxLen]; omega
      have bdT : ((l.take l.length).map Value.string ++ [Value.string s]).length + ((l.drop l.length).map Value.string).length ≤ maxLen ∧ (((l.take l.length).map Value.string ++ [Value.string s]).length + ((l.drop l.length).map Value.string).length) * 16 ≤ 140737488355328 := by simp only [List.length_append, List.length_map, List.length_take, List.length_drop, List.length_cons, List.length_nil, maxLen]; omega
      go_wp2_with fail
      have hs0 := HS0.out W0.drew ⟨rfl, rfl, rfl, Nat.le_refl _, fun _ _ => rfl⟩
      refine wp_region_held_drew (S := fun W => Below W0.heap.size W0 W) (by kernel_rfl) hs0 (fun hHeld => ?_)
      refine take_slot 1 34 (v := ?_) rfl rfl (by kernel_rfl) (by kernel_rfl) (by kernel_rfl) (fun _ _ _ h => h) (Or.inl ⟨by rfl, by intro W hSw; (try dsimp only at hSw); go_simp; try with_reducible rfl⟩) (by assumption) ?_
      simp only [Act.put, List.setIfInBounds_toArray, List.set_cons_zero, List.set_cons_succ]
      refine take_slot 2 35 (v := ?_) rfl rfl (by kernel_rfl) (by kernel_rfl) (by kernel_rfl) (fun _ _ _ h => h) (Or.inl ⟨by rfl, by intro W hSw; (try dsimp only at hSw); go_simp; try with_reducible rfl⟩) (by assumption) ?_
      simp only [Act.put, List.setIfInBounds_toArray, List.set_cons_zero, List.set_cons_succ]
      refine take_slot 3 36 (v := ?_) rfl rfl (by kernel_rfl) (by kernel_rfl) (by kernel_rfl) (fun _ _ _ h => h) (Or.inl ⟨by rfl, by intro W hSw; (try dsimp only at hSw); go_simp; try with_reducible rfl⟩) (by assumption) ?_
      simp only [Act.put, List.setIfInBounds_toArray, List.set_cons_zero, List.set_cons_succ]
      refine take_slot 5 38 (v := ?_) rfl rfl (by kernel_rfl) (by kernel_rfl) (by kernel_rfl) (fun _ _ _ h => h) (Or.inl ⟨by rfl, by intro W hSw; (try dsimp only at hSw); go_simp; try with_reducible rfl⟩) (by assumption) ?_
      simp only [Act.put, List.setIfInBounds_toArray, List.set_cons_zero, List.set_cons_succ]
      refine take_slot 8 41 (v := ?_) rfl rfl (by kernel_rfl) (by kernel_rfl) (by kernel_rfl) (fun _ _ _ h => h) (Or.inl ⟨by rfl, by intro W hSw; (try dsimp only at hSw); go_simp; try with_reducible rfl⟩) (by assumption) ?_
      simp only [Act.put, List.setIfInBounds_toArray, List.set_cons_zero, List.set_cons_succ]
      refine take_slot 9 42 (v := ?_) rfl rfl (by kernel_rfl) (by kernel_rfl) (by kernel_rfl) (fun _ _ _ h => h) (Or.inl ⟨by rfl, by intro W hSw; (try dsimp only at hSw); go_simp; try with_reducible rfl⟩) (by assumption) ?_
      simp only [Act.put, List.setIfInBounds_toArray, List.set_cons_zero, List.set_cons_succ]
      refine take_slot 10 43 (v := ?_) rfl rfl (by kernel_rfl) (by kernel_rfl) (by kernel_rfl) (fun _ _ _ h => h) (Or.inl ⟨by rfl, by intro W hSw; (try dsimp only at hSw); go_simp; try with_reducible rfl⟩) (by assumption) ?_
      simp only [Act.put, List.setIfInBounds_toArray, List.set_cons_zero, List.set_cons_succ]
      refine flow_region (ks := [0, 4, 6]) putDst (putG 9 1 W0.heap.size ((l.take l.length).map .string) #[.string s]) (fun _ _ _ _ => True) 3 (by kernel_rfl) (by kernel_rfl) (by kernel_rfl) (by decide) (by simp [putDst]) (by decide) hs0 putG_mono ?step ?fin
      case step =>
        intro i' hi' a' w' hF hS hpre
        try dsimp only at hS
        simp only [List.mem_cons, List.not_mem_nil, or_false] at hi'
        rcases hi' with rfl | rfl | rfl
        · refine ⟨_, rfl, rfl, fun K hK => ?_⟩
          refine oper_build0s (by rfl) ?_
          exact hK _ _ (thenA (Below.refl _ _) _) (HS0.out _ (thenA hS _)) ⟨_, rfl, hS.size, Row.made w'⟩ fun _ _ _ _ => ⟨trivial, trivial⟩
        · refine ⟨_, rfl, rfl, fun K hK => ?_⟩
          obtain ⟨b33, e33, l33, hr33⟩ : EmptyG 9 1 W0.heap.size (a'.tmps.getD 33 undef) w' := hpre 0 (by simp) (by kernel_rfl)
          refine oper_append_fresh _ _ 26 (by rfl) 9 ti (.string ByteArray.empty) 1 16 Tryz.underlying26 hi0 hz0 hz1 hz2 rfl (by decide) b33 0 (show a'.eval (.tmp 33) = _ from e33) hr33 (.slice (some ⟨b0, o0, none⟩) l.length c) ((l.take l.length).map .string) (by show a'.eval (.tmp 36) = _; rw [hF.eval (by decide)]; kernel_rfl) (SH.out _ hS) bdH.1 bdH.2 ?_
          intro A6 n6 c6 w6 hr6 hb6 ho6
          exact hK _ _ hb6 (HS0.out _ (thenB hS hb6)) ⟨A6, n6, c6, rfl, hr6, fun k' hk' => by
            rcases ho6 with h | h
            · rw [h] at hk'; cases hk'; exact l33
            · rw [h] at hk'; cases hk'; exact hS.size⟩ fun _ _ _ _ => ⟨trivial, trivial⟩
        · refine ⟨_, rfl, rfl, fun K hK => ?_⟩
          refine oper_build1s (s := s) (by rfl) (by show a'.eval (.tmp 38) = _; rw [hF.eval (by decide)]; kernel_rfl) ?_
          exact hK _ _ (thenA (Below.refl _ _) _) (HS0.out _ (thenA hS _)) ⟨_, rfl, hS.size, heap_alloc_new _ _⟩ fun _ _ _ _ => ⟨trivial, trivial⟩
      case fin =>
        intro a' w' hF hS hG _
        try dsimp only at hS
        have g0 : EmptyG 9 1 W0.heap.size (a'.tmps.getD 33 undef) w' := hG 0 (by simp)
        have g4 : RowG 9 1 W0.heap.size ((l.take l.length).map .string) (a'.tmps.getD 37 undef) w' := hG 4 (by simp)
        have g6 : OneG 9 W0.heap.size #[.string s] (a'.tmps.getD 39 undef) w' := hG 6 (by simp)
        obtain ⟨b33, e33, _, _⟩ := g0
        obtain ⟨A7, n7, c7, e37, hr7, hf7⟩ := g4
        obtain ⟨b39, e39, _, q39⟩ := g6
        have hact := hF.act
        simp only [List.foldl_cons, List.foldl_nil, putDst, e33, e37, e39, List.setIfInBounds_toArray, List.set_cons_zero, List.set_cons_succ] at hact
        have hB7 := hS
        clear hF hG e33 e37 e39 hS
        subst hact
        refine ready_append_row 7 (by kernel_rfl) rfl rfl 40 rfl (.tmp 37) (.tmp 39) 26 (by rfl) 9 ti (.string ByteArray.empty) 1 16 Tryz.underlying26 hi0 hz0 hz1 hz2 rfl (by decide) (.slice A7 n7 c7) ((l.take l.length).map .string) (by kernel_rfl) (by exact hr7) (.slice (some ⟨b39, 0, none⟩) 1 1) [.string s] (by kernel_rfl) (by exact (Src.one q39)) (by intro u hu; rw [List.mem_singleton.1 hu]; rfl) (by exact bdX.1) (by exact bdX.2) ?_
        intro A8 n8 c8 w8 hr8 hg8 ha8
        have hB8 : Below W0.heap.size W0 w8 := Below.grownNew hB7 ⟨hg8.os, hg8.tape, hg8.output, hg8.size, hg8.block⟩ hB7.size hf7
        have hf8 := fresh_of (B := W0.heap.size) ha8 hf7 hB7.size
        refine ⟨HS0.out _ hB8, ?_⟩
        simp only [Act.put, List.setIfInBounds_toArray, List.set_cons_zero, List.set_cons_succ]
        have hst := ST.out _ hB8
        refine ready_append_row 11 (by kernel_rfl) rfl rfl 44 rfl (.tmp 40) (.tmp 43) 26 (by rfl) 9 ti (.string ByteArray.empty) 1 16 Tryz.underlying26 hi0 hz0 hz1 hz2 rfl (by decide) (.slice A8 n8 c8) ((l.take l.length).map .string ++ [.string s]) (by kernel_rfl) (by exact hr8) (.slice (if c = l.length then some ⟨b0, o0, none⟩ else some ⟨b0, o0 + l.length, none⟩) (l.length - l.length) (c - l.length)) ((l.drop l.length).map .string) (by simp [Act.eval]) (by exact hst) (by exact h1T) (by exact bdT.1) (by exact bdT.2) ?_
        intro A9 n9 c9 w9 hr9 hg9 ha9
        have hB9 : Below W0.heap.size W0 w9 := Below.grownNew hB8 ⟨hg9.os, hg9.tape, hg9.output, hg9.size, hg9.block⟩ hB8.size hf8
        refine ⟨HS0.out _ hB9, ?_⟩
        simp only [Act.put, List.setIfInBounds_toArray, List.set_cons_zero, List.set_cons_succ]
        refine ready_assign 12 (by kernel_rfl) rfl rfl 4 rfl (.tmp 44) (by rfl) (.slice A9 n9 c9) (by kernel_rfl) ⟨HS0.out _ hB9, ?_⟩
        simp only [Act.put, List.setIfInBounds_toArray, List.set_cons_zero, List.set_cons_succ]
        refine wpAnyH_done (by kernel_rfl) ?_ _
        have HR9 := hid hr9
        have HB9 := hid hB9
        clear hr7 hr8 hr9 hg8 hg9 ha8 ha9 hf7 hf8 q39 hB7 hB8 hB9 hHeld hs0
        generalize (if c = l.length then some (⟨b0, o0, none⟩ : Addr) else some ⟨b0, o0 + l.length, none⟩) = tA
        go_wp2_with fail
        go_ret
        have hrr : Row w9 9 1 (.slice A9 n9 c9) ((l.take l.length ++ s :: l.drop l.length).map .string) := by rw [List.map_append, List.map_cons]; simpa using HR9.out
        have hnl := hrr.slen
        subst hnl
        refine ⟨⟨A9, c9, l.take l.length ++ s :: l.drop l.length, rfl, hrr, putK_at hless.out (fun h => absurd h (Nat.lt_irrefl _)) (fun h => absurd h (Nat.lt_irrefl _)), fun y hy => ?_⟩, thenB HBW.out HB9.out⟩
        rcases List.mem_append.1 hy with hy | hy
        · exact .inr (List.mem_of_mem_take hy)
        · rcases List.mem_cons.1 hy with hy | hy
          · exact .inl hy
          · exact .inr (List.mem_of_mem_drop hy)

set_option maxRecDepth 100000 in
set_option maxHeartbeats 2000000 in
theorem refputn_nil (s : ByteArray) (w : World) :
    Calls Tryz.prog 73 #[.slice none 0 0, .string s] w fun e w' => (∃ (B : Option Addr) (d : Nat) (l' : List ByteArray), e = .returned (.slice B l'.length d) ∧ Row w' 9 1 (.slice B l'.length d) (l'.map .string) ∧ l'.map (fun z : ByteArray => z.toList) = [s.toList] ∧ ∀ y ∈ l', y = s) ∧ Below w.heap.size w w' := by
  obtain ⟨ti, hi0, hz0, hz1, hz2⟩ := info_parts infoStr
  go_enter Tryz.func73, Tryz.ntmps73
  go_wp2_with fail
  go_loopg [5] 0 (fun k i wr => k = 0 ∧ i = .int .i64 0 ∧ Below w.heap.size w wr)
  case atStart => exact ⟨rfl, rfl, Below.refl _ _⟩
  case round =>
    obtain ⟨rfl, rfl, hb⟩ := hrel
    go_wp2_with fail
    have HBW := hid hb
    generalize hW0 : wr = W0 at *
    clear hW0
    have HS0 : HidP (∀ W, Below W0.heap.size W0 W → Below W0.heap.size W0 W) := hid (fun W h => h)
    have SH : HidP (∀ W, Below W0.heap.size W0 W → Src W 1 (.slice none 0 0) ([] : List Value)) := hid (fun W _ => (Row.nil W 9 1).src)
    have ST := SH
    have h1T : ∀ u ∈ ([] : List Value), u.oneCell' = true := fun u hu => by cases hu
    have bdH : ([] : List Value).length ≤ maxLen ∧ ([] : List Value).length * 16 ≤ 140737488355328 := by simp
    have bdX : ([] : List Value).length + [Value.string s].length ≤ maxLen ∧ (([] : List Value).length + [Value.string s].length) * 16 ≤ 140737488355328 := by simp [maxLen]
    have bdT : (([] : List Value) ++ [Value.string s]).length + ([] : List Value).length ≤ maxLen ∧ ((([] : List Value) ++ [Value.string s]).length + ([] : List Value).length) * 16 ≤ 140737488355328 := by simp [maxLen]
    have hs0 := HS0.out W0.drew ⟨rfl, rfl, rfl, Nat.le_refl _, fun _ _ => rfl⟩
    refine wp_region_held_drew (S := fun W => Below W0.heap.size W0 W) (by kernel_rfl) hs0 (fun hHeld => ?_)
    refine take_slot 1 34 (v := ?_) rfl rfl (by kernel_rfl) (by kernel_rfl) (by kernel_rfl) (fun _ _ _ h => h) (Or.inl ⟨by rfl, by intro W hSw; (try dsimp only at hSw); go_simp; try with_reducible rfl⟩) (by assumption) ?_
    simp only [Act.put, List.setIfInBounds_toArray, List.set_cons_zero, List.set_cons_succ]
    refine take_slot 2 35 (v := ?_) rfl rfl (by kernel_rfl) (by kernel_rfl) (by kernel_rfl) (fun _ _ _ h => h) (Or.inl ⟨by rfl, by intro W hSw; (try dsimp only at hSw); go_simp; try with_reducible rfl⟩) (by assumption) ?_
    simp only [Act.put, List.setIfInBounds_toArray, List.set_cons_zero, List.set_cons_succ]
    refine take_slot 3 36 (v := ?_) rfl rfl (by kernel_rfl) (by kernel_rfl) (by kernel_rfl) (fun _ _ _ h => h) (Or.inl ⟨by rfl, by intro W hSw; (try dsimp only at hSw); go_simp; try with_reducible rfl⟩) (by assumption) ?_
    simp only [Act.put, List.setIfInBounds_toArray, List.set_cons_zero, List.set_cons_succ]
    refine take_slot 5 38 (v := ?_) rfl rfl (by kernel_rfl) (by kernel_rfl) (by kernel_rfl) (fun _ _ _ h => h) (Or.inl ⟨by rfl, by intro W hSw; (try dsimp only at hSw); go_simp; try with_reducible rfl⟩) (by assumption) ?_
    simp only [Act.put, List.setIfInBounds_toArray, List.set_cons_zero, List.set_cons_succ]
    refine take_slot 8 41 (v := ?_) rfl rfl (by kernel_rfl) (by kernel_rfl) (by kernel_rfl) (fun _ _ _ h => h) (Or.inl ⟨by rfl, by intro W hSw; (try dsimp only at hSw); go_simp; try with_reducible rfl⟩) (by assumption) ?_
    simp only [Act.put, List.setIfInBounds_toArray, List.set_cons_zero, List.set_cons_succ]
    refine take_slot 9 42 (v := ?_) rfl rfl (by kernel_rfl) (by kernel_rfl) (by kernel_rfl) (fun _ _ _ h => h) (Or.inl ⟨by rfl, by intro W hSw; (try dsimp only at hSw); go_simp; try with_reducible rfl⟩) (by assumption) ?_
    simp only [Act.put, List.setIfInBounds_toArray, List.set_cons_zero, List.set_cons_succ]
    refine take_slot 10 43 (v := ?_) rfl rfl (by kernel_rfl) (by kernel_rfl) (by kernel_rfl) (fun _ _ _ h => h) (Or.inl ⟨by rfl, by intro W hSw; (try dsimp only at hSw); go_simp; try with_reducible rfl⟩) (by assumption) ?_
    simp only [Act.put, List.setIfInBounds_toArray, List.set_cons_zero, List.set_cons_succ]
    refine flow_region (ks := [0, 4, 6]) putDst (putG 9 1 W0.heap.size (([] : List Value)) #[.string s]) (fun _ _ _ _ => True) 3 (by kernel_rfl) (by kernel_rfl) (by kernel_rfl) (by decide) (by simp [putDst]) (by decide) hs0 putG_mono ?step ?fin
    case step =>
      intro i' hi' a' w' hF hS hpre
      try dsimp only at hS
      simp only [List.mem_cons, List.not_mem_nil, or_false] at hi'
      rcases hi' with rfl | rfl | rfl
      · refine ⟨_, rfl, rfl, fun K hK => ?_⟩
        refine oper_build0s (by rfl) ?_
        exact hK _ _ (thenA (Below.refl _ _) _) (HS0.out _ (thenA hS _)) ⟨_, rfl, hS.size, Row.made w'⟩ fun _ _ _ _ => ⟨trivial, trivial⟩
      · refine ⟨_, rfl, rfl, fun K hK => ?_⟩
        obtain ⟨b33, e33, l33, hr33⟩ : EmptyG 9 1 W0.heap.size (a'.tmps.getD 33 undef) w' := hpre 0 (by simp) (by kernel_rfl)
        refine oper_append_fresh _ _ 26 (by rfl) 9 ti (.string ByteArray.empty) 1 16 Tryz.underlying26 hi0 hz0 hz1 hz2 rfl (by decide) b33 0 (show a'.eval (.tmp 33) = _ from e33) hr33 (.slice none 0 0) (([] : List Value)) (by show a'.eval (.tmp 36) = _; rw [hF.eval (by decide)]; kernel_rfl) (SH.out _ hS) bdH.1 bdH.2 ?_
        intro A6 n6 c6 w6 hr6 hb6 ho6
        exact hK _ _ hb6 (HS0.out _ (thenB hS hb6)) ⟨A6, n6, c6, rfl, hr6, fun k' hk' => by
          rcases ho6 with h | h
          · rw [h] at hk'; cases hk'; exact l33
          · rw [h] at hk'; cases hk'; exact hS.size⟩ fun _ _ _ _ => ⟨trivial, trivial⟩
      · refine ⟨_, rfl, rfl, fun K hK => ?_⟩
        refine oper_build1s (s := s) (by rfl) (by show a'.eval (.tmp 38) = _; rw [hF.eval (by decide)]; kernel_rfl) ?_
        exact hK _ _ (thenA (Below.refl _ _) _) (HS0.out _ (thenA hS _)) ⟨_, rfl, hS.size, heap_alloc_new _ _⟩ fun _ _ _ _ => ⟨trivial, trivial⟩
    case fin =>
      intro a' w' hF hS hG _
      try dsimp only at hS
      have g0 : EmptyG 9 1 W0.heap.size (a'.tmps.getD 33 undef) w' := hG 0 (by simp)
      have g4 : RowG 9 1 W0.heap.size (([] : List Value)) (a'.tmps.getD 37 undef) w' := hG 4 (by simp)
      have g6 : OneG 9 W0.heap.size #[.string s] (a'.tmps.getD 39 undef) w' := hG 6 (by simp)
      obtain ⟨b33, e33, _, _⟩ := g0
      obtain ⟨A7, n7, c7, e37, hr7, hf7⟩ := g4
      obtain ⟨b39, e39, _, q39⟩ := g6
      have hact := hF.act
      simp only [List.foldl_cons, List.foldl_nil, putDst, e33, e37, e39, List.setIfInBounds_toArray, List.set_cons_zero, List.set_cons_succ] at hact
      have hB7 := hS
      clear hF hG e33 e37 e39 hS
      subst hact
      refine ready_append_row 7 (by kernel_rfl) rfl rfl 40 rfl (.tmp 37) (.tmp 39) 26 (by rfl) 9 ti (.string ByteArray.empty) 1 16 Tryz.underlying26 hi0 hz0 hz1 hz2 rfl (by decide) (.slice A7 n7 c7) (([] : List Value)) (by kernel_rfl) (by exact hr7) (.slice (some ⟨b39, 0, none⟩) 1 1) [.string s] (by kernel_rfl) (by exact (Src.one q39)) (by intro u hu; rw [List.mem_singleton.1 hu]; rfl) (by exact bdX.1) (by exact bdX.2) ?_
      intro A8 n8 c8 w8 hr8 hg8 ha8
      have hB8 : Below W0.heap.size W0 w8 := Below.grownNew hB7 ⟨hg8.os, hg8.tape, hg8.output, hg8.size, hg8.block⟩ hB7.size hf7
      have hf8 := fresh_of (B := W0.heap.size) ha8 hf7 hB7.size
      refine ⟨HS0.out _ hB8, ?_⟩
      simp only [Act.put, List.setIfInBounds_toArray, List.set_cons_zero, List.set_cons_succ]
      have hst := ST.out _ hB8
      refine ready_append_row 11 (by kernel_rfl) rfl rfl 44 rfl (.tmp 40) (.tmp 43) 26 (by rfl) 9 ti (.string ByteArray.empty) 1 16 Tryz.underlying26 hi0 hz0 hz1 hz2 rfl (by decide) (.slice A8 n8 c8) (([] : List Value) ++ [.string s]) (by kernel_rfl) (by exact hr8) (.slice none 0 0) (([] : List Value)) (by simp [Act.eval]) (by exact hst) (by exact h1T) (by exact bdT.1) (by exact bdT.2) ?_
      intro A9 n9 c9 w9 hr9 hg9 ha9
      have hB9 : Below W0.heap.size W0 w9 := Below.grownNew hB8 ⟨hg9.os, hg9.tape, hg9.output, hg9.size, hg9.block⟩ hB8.size hf8
      refine ⟨HS0.out _ hB9, ?_⟩
      simp only [Act.put, List.setIfInBounds_toArray, List.set_cons_zero, List.set_cons_succ]
      refine ready_assign 12 (by kernel_rfl) rfl rfl 4 rfl (.tmp 44) (by rfl) (.slice A9 n9 c9) (by kernel_rfl) ⟨HS0.out _ hB9, ?_⟩
      simp only [Act.put, List.setIfInBounds_toArray, List.set_cons_zero, List.set_cons_succ]
      refine wpAnyH_done (by kernel_rfl) ?_ _
      have HR9 := hid hr9
      have HB9 := hid hB9
      clear hr7 hr8 hr9 hg8 hg9 ha8 ha9 hf7 hf8 q39 hB7 hB8 hB9 hHeld hs0
      go_wp2_with fail
      go_ret
      have hrr : Row w9 9 1 (.slice A9 n9 c9) ([s].map .string) := by simpa using HR9.out
      have hnl := hrr.slen
      subst hnl
      exact ⟨⟨A9, c9, [s], rfl, hrr, rfl, fun y hy => by simpa using hy⟩, thenB HBW.out HB9.out⟩
/-- a name is put -/
theorem refputn (A : Option Addr) (c : Nat) (l : List ByteArray) (s : ByteArray) (w : World) (hl : Row w 9 1 (.slice A l.length c) (l.map .string)) (hn : l.length ≤ 1000000) (hsz : ∀ q ∈ l, q.size ≤ 140737488351232) :
    Calls Tryz.prog 73 #[.slice A l.length c, .string s] w fun e w' => (∃ (B : Option Addr) (d : Nat) (l' : List ByteArray), e = .returned (.slice B l'.length d) ∧ Row w' 9 1 (.slice B l'.length d) (l'.map .string) ∧ l'.map (fun z : ByteArray => z.toList) = putK (l.map fun z : ByteArray => z.toList) s.toList ∧ ∀ y ∈ l', y = s ∨ y ∈ l) ∧ Below w.heap.size w w' := by
  obtain ⟨A', n', c', hv, hx, hnc, _, hh⟩ := id hl
  cases hv
  rcases hh with ⟨rfl, rfl⟩ | ⟨b, off, cs, rfl, _⟩
  · obtain rfl : l = [] := List.eq_nil_of_length_eq_zero (by omega)
    refine (refputn_nil s w).mono ?_
    rintro e w' ⟨⟨B, d, l', rfl, h1, h2, h3⟩, h4⟩
    exact ⟨⟨B, d, l', rfl, h1, h2, fun y hy => .inl (h3 y hy)⟩, h4⟩
  · exact refputn_some b off c l s w hl hn hsz

end Go.Proofs.YtfbbjfbnkcklgaaGreatDoor

/- the document's inner -/
namespace Go.Proofs.YtfbbjfbnkcklgaaGreatDoor
open Go.RowKit

theorem kidP_snoc (T : List AIt) (x : AIt) (p : Txt) : kidP (T ++ [x]) p = kidP T p ++ (if (upT x.p == p) = true then [x.p] else []) := by
  unfold kidP
  rw [List.filter_append, List.map_append]
  congr 1
  cases h : (upT x.p == p)
  · rw [List.filter_cons_of_neg (by simp [h])]; rfl
  · rw [List.filter_cons_of_pos (by simp [h])]; rfl
set_option maxRecDepth 100000 in
set_option maxHeartbeats 2000000 in
theorem refinner (A : Option Addr) (c : Nat) (l : List ByteArray) (B : Option Addr) (d : Nat) (t : List Itm) (p : ByteArray) (w : World) (hl : Row w 9 1 (.slice A l.length c) (l.map .string)) (ht : Tr w B d t) (hn : l.length + t.length ≤ 1000000) (hsz : ∀ q ∈ l, q.size ≤ 140737488351232) :
    Calls Tryz.prog 69 #[.slice A l.length c, .slice B t.length d, .string p] w fun e w' => (∃ (C : Option Addr) (u : Nat) (l' : List ByteArray), e = .returned (.slice C l'.length u) ∧ Row w' 9 1 (.slice C l'.length u) (l'.map .string) ∧ l'.map (fun z : ByteArray => z.toList) = (kidP (t.map Itm.abs) p.toList).foldl putK (l.map fun z : ByteArray => z.toList) ∧ l'.length ≤ l.length + t.length ∧ ∀ q ∈ l', q.size ≤ 140737488351232) ∧ Below w.heap.size w w' := by
  have HT := hid ht
  have hn1 : l.length ≤ 1000000 := by omega
  have hn2 : t.length ≤ 1000000 := by omega
  have HN := hid hn
  clear ht hn
  go_enter Tryz.func69, Tryz.ntmps69
  go_wp2_with fail
  go_loopg [0, 7] t.length (fun k v0 i wr => ∃ (j : Nat) (C : Option Addr) (u : Nat) (l' : List ByteArray), j ≤ t.length ∧ k = t.length - j ∧ i = .int .i64 j ∧ v0 = .slice C l'.length u ∧ Row wr 9 1 (.slice C l'.length u) (l'.map .string) ∧ HidP (l'.map (fun z : ByteArray => z.toList) = (kidP ((t.take j).map Itm.abs) p.toList).foldl putK (l.map fun z : ByteArray => z.toList)) ∧ HidP (l'.length ≤ l.length + j) ∧ HidP (∀ q ∈ l', q.size ≤ 140737488351232) ∧ Below w.heap.size w wr)
  case atStart => exact ⟨0, A, c, l, Nat.zero_le _, rfl, rfl, rfl, hl, ⟨rfl⟩, ⟨Nat.le_refl _⟩, ⟨hsz⟩, Below.refl _ _⟩
  case round =>
    obtain ⟨j, C, u, l', hj, rfl, rfl, rfl, hrow, hfold, hlen, hsz', hb⟩ := hrel
    clear hl hsz
    have HROW := hid hrow
    clear hrow
    by_cases hlt : j < t.length
    · have i0 : (0 : Int) ≤ (j : Int) := by omega
      have i1 : (j : Int) < (t.length : Int) := by omega
      obtain ⟨b1, o1, hA, k0, k1, k2, hg⟩ := (HT.out.below hb).at hlt
      subst hA
      have hps := hg.size
      have HSP := hid (refsplit t[j].p wr hps)
      have HNX : HidP ((kidP ((t.take (j + 1)).map Itm.abs) p.toList).foldl putK (l.map fun z : ByteArray => z.toList) = (if (upT t[j].p.toList == p.toList) = true then [t[j].p.toList] else []).foldl putK (l'.map fun z : ByteArray => z.toList)) := hid (by
        rw [List.take_add_one, List.getElem?_eq_getElem hlt, List.map_append, hfold.out]
        show (kidP (List.map Itm.abs (List.take j t) ++ [t[j].abs]) p.toList).foldl putK _ = _
        rw [kidP_snoc, List.foldl_append]
        rfl)
      have HG := hid hg
      clear hg
      go_wp2_with fail
      refine HSP.out.mono ?_
      rintro e w1 ⟨⟨dn, nm, rfl, hsp⟩, hb1⟩
      have hdn : upT t[j].p.toList = dn.toList := by unfold upT; rw [← hsp]
      rw [hdn] at HNX
      have k0' := cellB hb1 k0
      have hb2 := thenB hb hb1
      have HROW1 := hid (HROW.out.below hb1)
      clear hsp hdn HSP k0
      cases heq : (dn.toList == p.toList)
      · rw [heq] at HNX
        go_wp2_with fail
        go_roundg (t.length - (j + 1))
        case measure => omega
        case rel => exact ⟨j + 1, C, u, l', by omega, rfl, by go_num, rfl, HROW1.out, ⟨HNX.out.symm⟩, ⟨by have := hlen.out; omega⟩, hsz', hb2⟩
      · rw [heq] at HNX
        have HP := hid (refputn C u l' t[j].p w1 HROW1.out (by have := hlen.out; have := HN.out; omega) hsz'.out)
        go_wp2_with fail
        refine HP.out.mono ?_
        rintro e w2 ⟨⟨C2, u2, l2, rfl, hr2, he2, hm2⟩, hb3⟩
        have hb4 := thenB hb2 hb3
        have HR2 := hid hr2
        have HE2 := hid he2
        have HM2 := hid hm2
        clear hr2 he2 hm2 HP
        go_wp2_with fail
        go_roundg (t.length - (j + 1))
        case measure => omega
        case rel => exact ⟨j + 1, C2, u2, l2, by omega, rfl, by go_num, rfl, HR2.out, ⟨by rw [HE2.out, HNX.out]; rfl⟩, ⟨by
          have h1 := congrArg List.length HE2.out
          have h2 := putK_len (l'.map fun z : ByteArray => z.toList) t[j].p.toList
          rw [List.length_map] at h1 h2
          have := hlen.out
          omega⟩, ⟨fun q hq => by
          rcases HM2.out q hq with rfl | hq
          · exact HG.out.size
          · exact hsz'.out q hq⟩, hb4⟩
    · obtain rfl : j = t.length := by omega
      have hf := hfold.out
      rw [List.take_length] at hf
      have HF := hid hf
      clear hf hfold
      go_wp2_with fail
      go_ret
      exact ⟨⟨C, u, l', rfl, HROW.out, HF.out, hlen.out, hsz'.out⟩, hb⟩

end Go.Proofs.YtfbbjfbnkcklgaaGreatDoor

/- the document's add (printed by gen/genH5.py) -/
namespace Go.Proofs.YtfbbjfbnkcklgaaGreatDoor
open Go.RowKit

theorem cells_parts (T : List Itm) {k : Nat} (hk : k ≤ T.length) : (T.flatMap Itm.cells).take (k * 3) = (T.take k).flatMap Itm.cells ∧ (T.flatMap Itm.cells).drop (k * 3) = (T.drop k).flatMap Itm.cells := by
  have e2 : T.flatMap Itm.cells = (T.take k).flatMap Itm.cells ++ (T.drop k).flatMap Itm.cells := by rw [← List.flatMap_append, List.take_append_drop]
  have e3 : ((T.take k).flatMap Itm.cells).length = k * 3 := by rw [cells_len, List.length_take, Nat.min_eq_left hk]
  rw [e2]
  exact ⟨by rw [← e3, List.take_left], by rw [← e3, List.drop_left]⟩
theorem add_at {T : List Itm} {x : Itm} {k : Nat} (h1 : ∀ y ∈ T.take k, Op.bytesLess y.p.toList x.p.toList = true) (h2 : ∀ h : k < T.length, Op.bytesLess T[k].p.toList x.p.toList = false) : (T.take k ++ x :: T.drop k).map Itm.abs = addK (T.map Itm.abs) x.abs := by
  obtain ⟨e1, e2⟩ := while_at (p := fun y : AIt => Op.bytesLess y.p x.abs.p) (l := T.map Itm.abs) (j := k) (fun y hy => by
    rw [← List.map_take] at hy
    obtain ⟨z, hz, rfl⟩ := List.mem_map.1 hy
    exact h1 z hz) (fun h => by rw [List.getElem_map]; exact h2 (by simpa using h))
  unfold addK
  rw [e1, e2, List.map_append, List.map_cons, List.map_take, List.map_drop]

set_option maxRecDepth 100000 in
set_option maxHeartbeats 4000000 in
theorem refadd (A : Option Addr) (c : Nat) (t : List Itm) (B : Option Addr) (d : Nat) (l : List Itm) (w : World) (hr : Row w 42 3 (.slice A t.length c) (t.flatMap Itm.cells)) (hgd : ∀ y ∈ t, Good w y) (hl : Tr w B d l) (hn : t.length + l.length ≤ 900000) :
    Calls Tryz.prog 74 #[.slice A t.length c, .slice B l.length d] w fun e w' => (∃ (C : Option Addr) (u : Nat) (T : List Itm), e = .returned (.slice C T.length u) ∧ Row w' 42 3 (.slice C T.length u) (T.flatMap Itm.cells) ∧ (∀ y ∈ T, Good w' y) ∧ T.map Itm.abs = (l.map Itm.abs).foldl addK (t.map Itm.abs)) ∧ Below w.heap.size w w' := by
  obtain ⟨ti, hi0, hz0, hz1, hz2⟩ := info_parts infoItem
  have HL := hid hl
  have HN := hid hn
  have hln : l.length ≤ 900000 := by omega
  clear hl hn
  go_enter Tryz.func74, Tryz.ntmps74
  go_wp2_with fail
  go_loopg [0, 5] l.length (fun k v0 v5 wr => ∃ (i : Nat) (A' : Option Addr) (c : Nat) (T : List Itm), i ≤ l.length ∧ k = l.length - i ∧ v5 = .int .i64 i ∧ v0 = .slice A' T.length c ∧ Row wr 42 3 (.slice A' T.length c) (T.flatMap Itm.cells) ∧ HidP (T.map Itm.abs = ((l.take i).map Itm.abs).foldl addK (t.map Itm.abs)) ∧ HidP (T.length = t.length + i) ∧ HidP (∀ y ∈ T, Good wr y) ∧ Below w.heap.size w wr)
  case atStart => exact ⟨0, A, c, t, Nat.zero_le _, rfl, rfl, rfl, hr, ⟨rfl⟩, ⟨rfl⟩, ⟨hgd⟩, Below.refl _ _⟩
  case round =>
    obtain ⟨i, A', c, T, hi, rfl, rfl, rfl, hrow, hfold, hlen, HGD, hbo⟩ := hrel
    clear hr hgd
    generalize wr = wo at *
    have HR := hid hrow
    have HBO := hid hbo
    by_cases hlt : i < l.length
    · have i0 : (0 : Int) ≤ (i : Int) := by omega
      have i1 : (i : Int) < (l.length : Int) := by omega
      obtain ⟨b1, o1, hB, y0, y1, y2, hgx⟩ := (HL.out.below hbo).at hlt
      subst hB
      have HGX := hid hgx
      have htl : T.length ≤ 900000 := by have := hlen.out; have := HN.out; omega
      have HNX : HidP (((l.take (i + 1)).map Itm.abs).foldl addK (t.map Itm.abs) = addK (T.map Itm.abs) l[i].abs) := hid (by
        rw [List.take_add_one, List.getElem?_eq_getElem hlt, List.map_append, List.foldl_append, ← hfold.out]
        rfl)
      clear hgx hbo
      obtain ⟨_, _, _, hv, hx, hnc, _, hh⟩ := id hrow
      cases hv
      clear hrow
      rcases hh with ⟨rfl, rfl⟩ | ⟨b0, o0, cs, rfl, _⟩
      · obtain rfl : T = [] := List.eq_nil_of_length_eq_zero (by omega)
        clear hx hnc
        go_wp2_with fail
        go_loopg [6] 0 (fun k v wr => k = 0 ∧ v = .int .i64 0 ∧ Below wo.heap.size wo wr)
        case atStart => exact ⟨rfl, rfl, Below.refl _ _⟩
        case round =>
          obtain ⟨rfl, rfl, hb⟩ := hrel
          have x0 := cellB hb y0
          have x1 := cellB hb y1
          have x2 := cellB hb y2
          go_wp2_with fail
          go_quiet (fail)
          go_wp2_with fail
          replace hb := Below.drewN (n := nq) hb
          replace x0 : (wr.drewN nq).cell? ⟨b1, o1 + i * 3, none⟩ = some (.string l[i].p) := x0
          replace x1 : (wr.drewN nq).cell? ⟨b1, o1 + i * 3 + 1, none⟩ = some (.bool l[i].d) := x1
          replace x2 : (wr.drewN nq).cell? ⟨b1, o1 + i * 3 + 2, none⟩ = some (.slice l[i].dA l[i].bs.length l[i].dc) := x2
          generalize wr.drewN nq = W0 at *
          have HBW := hid hb
          have hS0 : ∀ W, Below W0.heap.size W0 W → (Below W0.heap.size W0 W ∧ W.cell? ⟨b1, o1 + i * 3, none⟩ = some (.string l[i].p) ∧ W.cell? ⟨b1, o1 + i * 3 + 1, none⟩ = some (.bool l[i].d) ∧ W.cell? ⟨b1, o1 + i * 3 + 2, none⟩ = some (.slice l[i].dA l[i].bs.length l[i].dc)) := fun W hW => ⟨hW, cellB hW x0, cellB hW x1, cellB hW x2⟩
          have HS0 := hid hS0
          clear hS0
          have SH : HidP (∀ W, Below W0.heap.size W0 W → Src W 3 (.slice none 0 0) ([] : List Value)) := hid (fun W _ => (Row.nil W 42 3).src)
          have ST := SH
          have h1T : ∀ u ∈ ([] : List Value), u.oneCell' = true := fun u hu => by cases hu
          have bdH : ([] : List Value).length ≤ maxLen ∧ ([] : List Value).length * 48 ≤ 140737488355328 := by simp
          have bdX : ([] : List Value).length + l[i].cells.length ≤ maxLen ∧ (([] : List Value).length + l[i].cells.length) * 48 ≤ 140737488355328 := by rw [show l[i].cells.length = 3 from rfl]; simp [maxLen]
          have bdT : (([] : List Value) ++ l[i].cells).length + ([] : List Value).length ≤ maxLen ∧ ((([] : List Value) ++ l[i].cells).length + ([] : List Value).length) * 48 ≤ 140737488355328 := by rw [List.length_append, show l[i].cells.length = 3 from rfl]; simp [maxLen]
          have hs0 := HS0.out W0.drew ⟨rfl, rfl, rfl, Nat.le_refl _, fun _ _ => rfl⟩
          refine wp_region_held_drew (S := fun W => Below W0.heap.size W0 W ∧ W.cell? ⟨b1, o1 + i * 3, none⟩ = some (.string l[i].p) ∧ W.cell? ⟨b1, o1 + i * 3 + 1, none⟩ = some (.bool l[i].d) ∧ W.cell? ⟨b1, o1 + i * 3 + 2, none⟩ = some (.slice l[i].dA l[i].bs.length l[i].dc)) (by kernel_rfl) hs0 (fun hHeld => ?_)
          refine take_slot 1 33 (v := ?_) rfl rfl (by kernel_rfl) (by kernel_rfl) (by kernel_rfl) (fun _ _ _ h => h) (Or.inl ⟨by rfl, by intro W hSw; (try dsimp only at hSw); go_simp; try with_reducible rfl⟩) (by assumption) ?_
          simp only [Act.put, List.setIfInBounds_toArray, List.set_cons_zero, List.set_cons_succ]
          refine take_slot 2 34 (v := ?_) rfl rfl (by kernel_rfl) (by kernel_rfl) (by kernel_rfl) (fun _ _ _ h => h) (Or.inl ⟨by rfl, by intro W hSw; (try dsimp only at hSw); go_simp; try with_reducible rfl⟩) (by assumption) ?_
          simp only [Act.put, List.setIfInBounds_toArray, List.set_cons_zero, List.set_cons_succ]
          refine take_slot 3 35 (v := ?_) rfl rfl (by kernel_rfl) (by kernel_rfl) (by kernel_rfl) (fun _ _ _ h => h) (Or.inl ⟨by rfl, by intro W hSw; (try dsimp only at hSw); go_simp; try with_reducible rfl⟩) (by assumption) ?_
          simp only [Act.put, List.setIfInBounds_toArray, List.set_cons_zero, List.set_cons_succ]
          refine take_slot 5 37 (v := ?_) rfl rfl (by kernel_rfl) (by kernel_rfl) (by kernel_rfl) (fun _ _ _ h => h) (Or.inl ⟨by rfl, by intro W hSw; (try dsimp only at hSw); go_simp; try with_reducible rfl⟩) (by assumption) ?_
          simp only [Act.put, List.setIfInBounds_toArray, List.set_cons_zero, List.set_cons_succ]
          refine take_slot 6 38 (v := ?_) rfl rfl (by kernel_rfl) (by kernel_rfl) (by kernel_rfl) (fun _ _ _ h => h) (Or.inl ⟨by rfl, by intro W hSw; (try dsimp only at hSw); go_simp; try with_reducible rfl⟩) (by assumption) ?_
          simp only [Act.put, List.setIfInBounds_toArray, List.set_cons_zero, List.set_cons_succ]
          refine take_slot 7 39 (v := ?_) rfl rfl (by kernel_rfl) (by kernel_rfl) (by kernel_rfl) (fun _ _ _ h => h) (Or.inl ⟨by rfl, by intro W hSw; (try dsimp only at hSw); go_simp; try with_reducible rfl⟩) (by assumption) ?_
          simp only [Act.put, List.setIfInBounds_toArray, List.set_cons_zero, List.set_cons_succ]
          refine take_slot 8 40 (v := ?_) rfl rfl (by kernel_rfl) (by kernel_rfl) (by kernel_rfl) (fun _ _ _ h => h) (Or.inl ⟨by rfl, by intro W hSw; (try dsimp only at hSw); go_simp; try with_reducible rfl⟩) (by assumption) ?_
          simp only [Act.put, List.setIfInBounds_toArray, List.set_cons_zero, List.set_cons_succ]
          refine take_slot 11 43 (v := ?_) rfl rfl (by kernel_rfl) (by kernel_rfl) (by kernel_rfl) (fun _ _ _ h => h) (Or.inl ⟨by rfl, by intro W hSw; (try dsimp only at hSw); go_simp; try with_reducible rfl⟩) (by assumption) ?_
          simp only [Act.put, List.setIfInBounds_toArray, List.set_cons_zero, List.set_cons_succ]
          refine take_slot 12 44 (v := ?_) rfl rfl (by kernel_rfl) (by kernel_rfl) (by kernel_rfl) (fun _ _ _ h => h) (Or.inl ⟨by rfl, by intro W hSw; (try dsimp only at hSw); go_simp; try with_reducible rfl⟩) (by assumption) ?_
          simp only [Act.put, List.setIfInBounds_toArray, List.set_cons_zero, List.set_cons_succ]
          refine take_slot 13 45 (v := ?_) rfl rfl (by kernel_rfl) (by kernel_rfl) (by kernel_rfl) (fun _ _ _ h => h) (Or.inl ⟨by rfl, by intro W hSw; (try dsimp only at hSw); go_simp; try with_reducible rfl⟩) (by assumption) ?_
          simp only [Act.put, List.setIfInBounds_toArray, List.set_cons_zero, List.set_cons_succ]
          refine flow_region (ks := [0, 4, 9]) addDst (putG 42 3 W0.heap.size (([] : List Value)) #[.string l[i].p, .bool l[i].d, .slice l[i].dA l[i].bs.length l[i].dc]) (fun _ _ _ _ => True) 3 (by kernel_rfl) (by kernel_rfl) (by kernel_rfl) (by decide) (by simp [addDst]) (by decide) hs0 putG_mono ?step ?fin
          case step =>
            intro i' hi' a' w' hF hS hpre
            try dsimp only at hS
            simp only [List.mem_cons, List.not_mem_nil, or_false] at hi'
            rcases hi' with rfl | rfl | rfl
            · refine ⟨_, rfl, rfl, fun K hK => ?_⟩
              refine oper_build0i (by rfl) ?_
              exact hK _ _ (thenA (Below.refl _ _) _) (HS0.out _ (thenA hS.1 _)) ⟨_, rfl, hS.1.size, Row.made w'⟩ fun _ _ _ _ => ⟨trivial, trivial⟩
            · refine ⟨_, rfl, rfl, fun K hK => ?_⟩
              obtain ⟨b33, e33, l33, hr33⟩ : EmptyG 42 3 W0.heap.size (a'.tmps.getD 32 undef) w' := hpre 0 (by simp) (by kernel_rfl)
              refine oper_append_fresh _ _ 22 (by rfl) 42 ti (.agg #[.string ByteArray.empty, .bool false, .slice none 0 0]) 3 48 Tryz.underlying22 hi0 hz0 hz1 hz2 rfl (by decide) b33 0 (show a'.eval (.tmp 32) = _ from e33) hr33 (.slice none 0 0) (([] : List Value)) (by show a'.eval (.tmp 35) = _; rw [hF.eval (by decide)]; kernel_rfl) (SH.out _ hS.1) bdH.1 bdH.2 ?_
              intro A6 n6 c6 w6 hr6 hb6 ho6
              exact hK _ _ hb6 (HS0.out _ (thenB hS.1 hb6)) ⟨A6, n6, c6, rfl, hr6, fun k' hk' => by
                rcases ho6 with h | h
                · rw [h] at hk'; cases hk'; exact l33
                · rw [h] at hk'; cases hk'; exact hS.1.size⟩ fun _ _ _ _ => ⟨trivial, trivial⟩
            · refine ⟨_, rfl, rfl, fun K hK => ?_⟩
              refine oper_build1i (x := l[i]) (by rfl) (by show a'.eval (.tmp 40) = _; rw [hF.eval (by decide)]; kernel_rfl) ?_
              exact hK _ _ (thenA (Below.refl _ _) _) (HS0.out _ (thenA hS.1 _)) ⟨_, rfl, hS.1.size, heap_alloc_new _ _⟩ fun _ _ _ _ => ⟨trivial, trivial⟩
          case fin =>
            intro a' w' hF hS hG _
            try dsimp only at hS
            have g0 : EmptyG 42 3 W0.heap.size (a'.tmps.getD 32 undef) w' := hG 0 (by simp)
            have g4 : RowG 42 3 W0.heap.size (([] : List Value)) (a'.tmps.getD 36 undef) w' := hG 4 (by simp)
            have g6 : OneG 42 W0.heap.size #[.string l[i].p, .bool l[i].d, .slice l[i].dA l[i].bs.length l[i].dc] (a'.tmps.getD 41 undef) w' := hG 9 (by simp)
            obtain ⟨b33, e33, _, _⟩ := g0
            obtain ⟨A7, n7, c7, e37, hr7, hf7⟩ := g4
            obtain ⟨b39, e39, _, q39⟩ := g6
            have hact := hF.act
            simp only [List.foldl_cons, List.foldl_nil, addDst, e33, e37, e39, List.setIfInBounds_toArray, List.set_cons_zero, List.set_cons_succ] at hact
            have hB7 := hS.1
            clear hF hG e33 e37 e39 hS
            subst hact
            refine ready_append_row 10 (by kernel_rfl) rfl rfl 42 rfl (.tmp 36) (.tmp 41) 22 (by rfl) 42 ti (.agg #[.string ByteArray.empty, .bool false, .slice none 0 0]) 3 48 Tryz.underlying22 hi0 hz0 hz1 hz2 rfl (by decide) (.slice A7 n7 c7) (([] : List Value)) (by kernel_rfl) (by exact hr7) (.slice (some ⟨b39, 0, none⟩) 1 1) l[i].cells (by kernel_rfl) (by exact (Src.item l[i] q39)) (by simp [Itm.cells, Value.oneCell']) (by exact bdX.1) (by exact bdX.2) ?_
            intro A8 n8 c8 w8 hr8 hg8 ha8
            have hB8 : Below W0.heap.size W0 w8 := Below.grownNew hB7 ⟨hg8.os, hg8.tape, hg8.output, hg8.size, hg8.block⟩ hB7.size hf7
            have hf8 := fresh_of (B := W0.heap.size) ha8 hf7 hB7.size
            refine ⟨HS0.out _ hB8, ?_⟩
            simp only [Act.put, List.setIfInBounds_toArray, List.set_cons_zero, List.set_cons_succ]
            have hst := ST.out _ hB8
            refine ready_append_row 14 (by kernel_rfl) rfl rfl 46 rfl (.tmp 42) (.tmp 45) 22 (by rfl) 42 ti (.agg #[.string ByteArray.empty, .bool false, .slice none 0 0]) 3 48 Tryz.underlying22 hi0 hz0 hz1 hz2 rfl (by decide) (.slice A8 n8 c8) (([] : List Value) ++ l[i].cells) (by kernel_rfl) (by exact hr8) (.slice none 0 0) (([] : List Value)) (by simp [Act.eval]) (by exact hst) (by exact h1T) (by exact bdT.1) (by exact bdT.2) ?_
            intro A9 n9 c9 w9 hr9 hg9 ha9
            have hB9 : Below W0.heap.size W0 w9 := Below.grownNew hB8 ⟨hg9.os, hg9.tape, hg9.output, hg9.size, hg9.block⟩ hB8.size hf8
            refine ⟨HS0.out _ hB9, ?_⟩
            simp only [Act.put, List.setIfInBounds_toArray, List.set_cons_zero, List.set_cons_succ]
            refine ready_assign 15 (by kernel_rfl) rfl rfl 0 rfl (.tmp 46) (by rfl) (.slice A9 n9 c9) (by kernel_rfl) ⟨HS0.out _ hB9, ?_⟩
            simp only [Act.put, List.setIfInBounds_toArray, List.set_cons_zero]
            refine wpAnyH_done (by kernel_rfl) ?_ _
            have HR9 := hid hr9
            have HB9 := hid hB9
            clear hr7 hr8 hr9 hg8 hg9 ha8 ha9 hf7 hf8 q39 hB7 hB8 hB9 hHeld hs0
            have hrr : Row w9 42 3 (.slice A9 n9 c9) ([l[i]].flatMap Itm.cells) := by simpa using HR9.out
            have hnl : n9 = ([l[i]]).length := by have h1 := hrr.count; rw [cells_len] at h1; omega
            subst hnl
            have HRR := hid hrr
            have HLEN : HidP (([l[i]]).length = ([] : List Itm).length + 1) := hid rfl
            have HADD : HidP (([l[i]]).map Itm.abs = addK (([] : List Itm).map Itm.abs) l[i].abs) := hid rfl
            have HGG : HidP (∀ y ∈ [l[i]], Good w9 y) := hid (fun y hy => by
              have hb9 := thenB HBW.out HB9.out
              have h1 : y = l[i] ∨ y ∈ ([] : List Itm) := by
                first
                  | (rcases List.mem_append.1 hy with hy | hy
                     · exact .inr (List.mem_of_mem_take hy)
                     · rcases List.mem_cons.1 hy with hy | hy
                       · exact .inl hy
                       · exact .inr (List.mem_of_mem_drop hy))
                  | exact .inl (List.mem_singleton.1 hy)
              rcases h1 with rfl | h1
              · exact HGX.out.below hb9
              · exact (HGD.out y h1).below hb9)
            generalize [l[i]] = T2 at *
            go_wp2_with fail
            go_roundg (l.length - (i + 1))
            case measure => omega
            case rel => exact ⟨i + 1, A9, c9, T2, by omega, rfl, by go_num, rfl, HRR.out, ⟨by rw [HNX.out, HADD.out]⟩, ⟨by have := hlen.out; have := HLEN.out; omega⟩, ⟨HGG.out⟩, thenB HBO.out (thenB HBW.out HB9.out)⟩
      · clear hx
        go_wp2_with fail
        go_loopg [6] T.length (fun k v wr => ∃ j : Nat, j ≤ T.length ∧ k = T.length - j ∧ v = .int .i64 j ∧ Below wo.heap.size wo wr ∧ HidP (∀ y ∈ T.take j, Op.bytesLess y.p.toList l[i].p.toList = true))
        case atStart => exact ⟨0, Nat.zero_le _, rfl, rfl, Below.refl _ _, ⟨by simp⟩⟩
        case round =>
          obtain ⟨j, hj, rfl, rfl, hb, hless⟩ := hrel
          have x0 := cellB hb y0
          have x1 := cellB hb y1
          have x2 := cellB hb y2
          by_cases hjl : j < T.length
          · have j0 : (0 : Int) ≤ (j : Int) := by omega
            have j1 : (j : Int) < (T.length : Int) := by omega
            have j2 : decide ((j : Int) < (T.length : Int)) = true := decide_eq_true j1
            obtain ⟨b2, o2, hA2, z0, z1, z2, _⟩ := (HR.out.below hb).at3 hjl
            cases hA2
            have HLS := hid (fun W => refless T[j].p l[i].p W (HGD.out _ (List.getElem_mem hjl)).size)
            cases hd : Op.bytesLess T[j].p.toList l[i].p.toList
            · have HD := hid hd
              rw [hd] at HLS
              clear hd
              go_wp2_with fail
              go_quiet (exact Calls.quiet_of (HLS.out _))
              go_wp2_with fail
              replace hb := Below.drewN (n := nq) hb
              replace x0 : (wr.drewN nq).cell? ⟨b1, o1 + i * 3, none⟩ = some (.string l[i].p) := x0
              replace x1 : (wr.drewN nq).cell? ⟨b1, o1 + i * 3 + 1, none⟩ = some (.bool l[i].d) := x1
              replace x2 : (wr.drewN nq).cell? ⟨b1, o1 + i * 3 + 2, none⟩ = some (.slice l[i].dA l[i].bs.length l[i].dc) := x2
              generalize wr.drewN nq = W0 at *
              have HBW := hid hb
              have hS0 : ∀ W, Below W0.heap.size W0 W → (Below W0.heap.size W0 W ∧ W.cell? ⟨b1, o1 + i * 3, none⟩ = some (.string l[i].p) ∧ W.cell? ⟨b1, o1 + i * 3 + 1, none⟩ = some (.bool l[i].d) ∧ W.cell? ⟨b1, o1 + i * 3 + 2, none⟩ = some (.slice l[i].dA l[i].bs.length l[i].dc)) := fun W hW => ⟨hW, cellB hW x0, cellB hW x1, cellB hW x2⟩
              have HS0 := hid hS0
              clear hS0
              have s0 : (0 : Int) ≤ (j : Int) := by omega
              have s1 : (j : Int) ≤ (T.length : Int) := by omega
              have s2 : (j : Int) ≤ (c : Int) := by omega
              have s3 : (T.length : Int) ≤ (c : Int) := by omega
              have s4 : j ≤ T.length := by omega
              have s5 : j ≤ c := by omega
              have SH : HidP (∀ W, Below W0.heap.size W0 W → Src W 3 (.slice (some ⟨b0, o0, none⟩) j c) ((T.take j).flatMap Itm.cells)) := hid (fun W hW => by
                have h1 := (((HR.out.below HBW.out).below hW).upto (k := j) s4).src
                rwa [show (T.flatMap Itm.cells).take (j * 3) = (T.take j).flatMap Itm.cells from (cells_parts T s4).1] at h1)
              have ST : HidP (∀ W, Below W0.heap.size W0 W → Src W 3 (.slice (if c = j then some ⟨b0, o0, none⟩ else some ⟨b0, o0 + j * 3, none⟩) (T.length - j) (c - j)) ((T.drop j).flatMap Itm.cells)) := hid (fun W hW => by
                have h1 := ((HR.out.below HBW.out).below hW).tail (k := j) s4
                rwa [show (T.flatMap Itm.cells).drop (j * 3) = (T.drop j).flatMap Itm.cells from (cells_parts T s4).2] at h1)
              have h1T : ∀ u ∈ (T.drop j).flatMap Itm.cells, u.oneCell' = true := itms_one _
              have bdH : ((T.take j).flatMap Itm.cells).length ≤ maxLen ∧ ((T.take j).flatMap Itm.cells).length * 48 ≤ 140737488355328 := by simp only [cells_len, List.length_take, maxLen]; omega
              have bdX : ((T.take j).flatMap Itm.cells).length + l[i].cells.length ≤ maxLen ∧ (((T.take j).flatMap Itm.cells).length + l[i].cells.length) * 48 ≤ 140737488355328 := by rw [show l[i].cells.length = 3 from rfl]; simp only [cells_len, List.length_take, maxLen]; omega
              have bdT : ((T.take j).flatMap Itm.cells ++ l[i].cells).length + ((T.drop j).flatMap Itm.cells).length ≤ maxLen ∧ (((T.take j).flatMap Itm.cells ++ l[i].cells).length + ((T.drop j).flatMap Itm.cells).length) * 48 ≤ 140737488355328 := by rw [List.length_append, show l[i].cells.length = 3 from rfl]; simp only [cells_len, List.length_take, List.length_drop, maxLen]; omega
              clear j1 j2 z0 z1 z2 HLS
              have hs0 := HS0.out W0.drew ⟨rfl, rfl, rfl, Nat.le_refl _, fun _ _ => rfl⟩
              refine wp_region_held_drew (S := fun W => Below W0.heap.size W0 W ∧ W.cell? ⟨b1, o1 + i * 3, none⟩ = some (.string l[i].p) ∧ W.cell? ⟨b1, o1 + i * 3 + 1, none⟩ = some (.bool l[i].d) ∧ W.cell? ⟨b1, o1 + i * 3 + 2, none⟩ = some (.slice l[i].dA l[i].bs.length l[i].dc)) (by kernel_rfl) hs0 (fun hHeld => ?_)
              refine take_slot 1 33 (v := ?_) rfl rfl (by kernel_rfl) (by kernel_rfl) (by kernel_rfl) (fun _ _ _ h => h) (Or.inl ⟨by rfl, by intro W hSw; (try dsimp only at hSw); go_simp; try with_reducible rfl⟩) (by assumption) ?_
              simp only [Act.put, List.setIfInBounds_toArray, List.set_cons_zero, List.set_cons_succ]
              refine take_slot 2 34 (v := ?_) rfl rfl (by kernel_rfl) (by kernel_rfl) (by kernel_rfl) (fun _ _ _ h => h) (Or.inl ⟨by rfl, by intro W hSw; (try dsimp only at hSw); go_simp; try with_reducible rfl⟩) (by assumption) ?_
              simp only [Act.put, List.setIfInBounds_toArray, List.set_cons_zero, List.set_cons_succ]
              refine take_slot 3 35 (v := ?_) rfl rfl (by kernel_rfl) (by kernel_rfl) (by kernel_rfl) (fun _ _ _ h => h) (Or.inl ⟨by rfl, by intro W hSw; (try dsimp only at hSw); go_simp; try with_reducible rfl⟩) (by assumption) ?_
              simp only [Act.put, List.setIfInBounds_toArray, List.set_cons_zero, List.set_cons_succ]
              refine take_slot 5 37 (v := ?_) rfl rfl (by kernel_rfl) (by kernel_rfl) (by kernel_rfl) (fun _ _ _ h => h) (Or.inl ⟨by rfl, by intro W hSw; (try dsimp only at hSw); go_simp; try with_reducible rfl⟩) (by assumption) ?_
              simp only [Act.put, List.setIfInBounds_toArray, List.set_cons_zero, List.set_cons_succ]
              refine take_slot 6 38 (v := ?_) rfl rfl (by kernel_rfl) (by kernel_rfl) (by kernel_rfl) (fun _ _ _ h => h) (Or.inl ⟨by rfl, by intro W hSw; (try dsimp only at hSw); go_simp; try with_reducible rfl⟩) (by assumption) ?_
              simp only [Act.put, List.setIfInBounds_toArray, List.set_cons_zero, List.set_cons_succ]
              refine take_slot 7 39 (v := ?_) rfl rfl (by kernel_rfl) (by kernel_rfl) (by kernel_rfl) (fun _ _ _ h => h) (Or.inl ⟨by rfl, by intro W hSw; (try dsimp only at hSw); go_simp; try with_reducible rfl⟩) (by assumption) ?_
              simp only [Act.put, List.setIfInBounds_toArray, List.set_cons_zero, List.set_cons_succ]
              refine take_slot 8 40 (v := ?_) rfl rfl (by kernel_rfl) (by kernel_rfl) (by kernel_rfl) (fun _ _ _ h => h) (Or.inl ⟨by rfl, by intro W hSw; (try dsimp only at hSw); go_simp; try with_reducible rfl⟩) (by assumption) ?_
              simp only [Act.put, List.setIfInBounds_toArray, List.set_cons_zero, List.set_cons_succ]
              refine take_slot 11 43 (v := ?_) rfl rfl (by kernel_rfl) (by kernel_rfl) (by kernel_rfl) (fun _ _ _ h => h) (Or.inl ⟨by rfl, by intro W hSw; (try dsimp only at hSw); go_simp; try with_reducible rfl⟩) (by assumption) ?_
              simp only [Act.put, List.setIfInBounds_toArray, List.set_cons_zero, List.set_cons_succ]
              refine take_slot 12 44 (v := ?_) rfl rfl (by kernel_rfl) (by kernel_rfl) (by kernel_rfl) (fun _ _ _ h => h) (Or.inl ⟨by rfl, by intro W hSw; (try dsimp only at hSw); go_simp; try with_reducible rfl⟩) (by assumption) ?_
              simp only [Act.put, List.setIfInBounds_toArray, List.set_cons_zero, List.set_cons_succ]
              refine take_slot 13 45 (v := ?_) rfl rfl (by kernel_rfl) (by kernel_rfl) (by kernel_rfl) (fun _ _ _ h => h) (Or.inl ⟨by rfl, by intro W hSw; (try dsimp only at hSw); go_simp; try with_reducible rfl⟩) (by assumption) ?_
              simp only [Act.put, List.setIfInBounds_toArray, List.set_cons_zero, List.set_cons_succ]
              refine flow_region (ks := [0, 4, 9]) addDst (putG 42 3 W0.heap.size ((T.take j).flatMap Itm.cells) #[.string l[i].p, .bool l[i].d, .slice l[i].dA l[i].bs.length l[i].dc]) (fun _ _ _ _ => True) 3 (by kernel_rfl) (by kernel_rfl) (by kernel_rfl) (by decide) (by simp [addDst]) (by decide) hs0 putG_mono ?step ?fin
              case step =>
                intro i' hi' a' w' hF hS hpre
                try dsimp only at hS
                simp only [List.mem_cons, List.not_mem_nil, or_false] at hi'
                rcases hi' with rfl | rfl | rfl
                · refine ⟨_, rfl, rfl, fun K hK => ?_⟩
                  refine oper_build0i (by rfl) ?_
                  exact hK _ _ (thenA (Below.refl _ _) _) (HS0.out _ (thenA hS.1 _)) ⟨_, rfl, hS.1.size, Row.made w'⟩ fun _ _ _ _ => ⟨trivial, trivial⟩
                · refine ⟨_, rfl, rfl, fun K hK => ?_⟩
                  obtain ⟨b33, e33, l33, hr33⟩ : EmptyG 42 3 W0.heap.size (a'.tmps.getD 32 undef) w' := hpre 0 (by simp) (by kernel_rfl)
                  refine oper_append_fresh _ _ 22 (by rfl) 42 ti (.agg #[.string ByteArray.empty, .bool false, .slice none 0 0]) 3 48 Tryz.underlying22 hi0 hz0 hz1 hz2 rfl (by decide) b33 0 (show a'.eval (.tmp 32) = _ from e33) hr33 (.slice (some ⟨b0, o0, none⟩) j c) ((T.take j).flatMap Itm.cells) (by show a'.eval (.tmp 35) = _; rw [hF.eval (by decide)]; kernel_rfl) (SH.out _ hS.1) bdH.1 bdH.2 ?_
                  intro A6 n6 c6 w6 hr6 hb6 ho6
                  exact hK _ _ hb6 (HS0.out _ (thenB hS.1 hb6)) ⟨A6, n6, c6, rfl, hr6, fun k' hk' => by
                    rcases ho6 with h | h
                    · rw [h] at hk'; cases hk'; exact l33
                    · rw [h] at hk'; cases hk'; exact hS.1.size⟩ fun _ _ _ _ => ⟨trivial, trivial⟩
                · refine ⟨_, rfl, rfl, fun K hK => ?_⟩
                  refine oper_build1i (x := l[i]) (by rfl) (by show a'.eval (.tmp 40) = _; rw [hF.eval (by decide)]; kernel_rfl) ?_
                  exact hK _ _ (thenA (Below.refl _ _) _) (HS0.out _ (thenA hS.1 _)) ⟨_, rfl, hS.1.size, heap_alloc_new _ _⟩ fun _ _ _ _ => ⟨trivial, trivial⟩
              case fin =>
                intro a' w' hF hS hG _
                try dsimp only at hS
                have g0 : EmptyG 42 3 W0.heap.size (a'.tmps.getD 32 undef) w' := hG 0 (by simp)
                have g4 : RowG 42 3 W0.heap.size ((T.take j).flatMap Itm.cells) (a'.tmps.getD 36 undef) w' := hG 4 (by simp)
                have g6 : OneG 42 W0.heap.size #[.string l[i].p, .bool l[i].d, .slice l[i].dA l[i].bs.length l[i].dc] (a'.tmps.getD 41 undef) w' := hG 9 (by simp)
                obtain ⟨b33, e33, _, _⟩ := g0
                obtain ⟨A7, n7, c7, e37, hr7, hf7⟩ := g4
                obtain ⟨b39, e39, _, q39⟩ := g6
                have hact := hF.act
                simp only [List.foldl_cons, List.foldl_nil, addDst, e33, e37, e39, List.setIfInBounds_toArray, List.set_cons_zero, List.set_cons_succ] at hact
                have hB7 := hS.1
                clear hF hG e33 e37 e39 hS
                subst hact
                refine ready_append_row 10 (by kernel_rfl) rfl rfl 42 rfl (.tmp 36) (.tmp 41) 22 (by rfl) 42 ti (.agg #[.string ByteArray.empty, .bool false, .slice none 0 0]) 3 48 Tryz.underlying22 hi0 hz0 hz1 hz2 rfl (by decide) (.slice A7 n7 c7) ((T.take j).flatMap Itm.cells) (by kernel_rfl) (by exact hr7) (.slice (some ⟨b39, 0, none⟩) 1 1) l[i].cells (by kernel_rfl) (by exact (Src.item l[i] q39)) (by simp [Itm.cells, Value.oneCell']) (by exact bdX.1) (by exact bdX.2) ?_
                intro A8 n8 c8 w8 hr8 hg8 ha8
                have hB8 : Below W0.heap.size W0 w8 := Below.grownNew hB7 ⟨hg8.os, hg8.tape, hg8.output, hg8.size, hg8.block⟩ hB7.size hf7
                have hf8 := fresh_of (B := W0.heap.size) ha8 hf7 hB7.size
                refine ⟨HS0.out _ hB8, ?_⟩
                simp only [Act.put, List.setIfInBounds_toArray, List.set_cons_zero, List.set_cons_succ]
                have hst := ST.out _ hB8
                refine ready_append_row 14 (by kernel_rfl) rfl rfl 46 rfl (.tmp 42) (.tmp 45) 22 (by rfl) 42 ti (.agg #[.string ByteArray.empty, .bool false, .slice none 0 0]) 3 48 Tryz.underlying22 hi0 hz0 hz1 hz2 rfl (by decide) (.slice A8 n8 c8) ((T.take j).flatMap Itm.cells ++ l[i].cells) (by kernel_rfl) (by exact hr8) (.slice (if c = j then some ⟨b0, o0, none⟩ else some ⟨b0, o0 + j * 3, none⟩) (T.length - j) (c - j)) ((T.drop j).flatMap Itm.cells) (by simp [Act.eval]) (by exact hst) (by exact h1T) (by exact bdT.1) (by exact bdT.2) ?_
                intro A9 n9 c9 w9 hr9 hg9 ha9
                have hB9 : Below W0.heap.size W0 w9 := Below.grownNew hB8 ⟨hg9.os, hg9.tape, hg9.output, hg9.size, hg9.block⟩ hB8.size hf8
                refine ⟨HS0.out _ hB9, ?_⟩
                simp only [Act.put, List.setIfInBounds_toArray, List.set_cons_zero, List.set_cons_succ]
                refine ready_assign 15 (by kernel_rfl) rfl rfl 0 rfl (.tmp 46) (by rfl) (.slice A9 n9 c9) (by kernel_rfl) ⟨HS0.out _ hB9, ?_⟩
                simp only [Act.put, List.setIfInBounds_toArray, List.set_cons_zero]
                refine wpAnyH_done (by kernel_rfl) ?_ _
                have HR9 := hid hr9
                have HB9 := hid hB9
                clear hr7 hr8 hr9 hg8 hg9 ha8 ha9 hf7 hf8 q39 hB7 hB8 hB9 hHeld hs0
                generalize (if c = j then some (⟨b0, o0, none⟩ : Addr) else some ⟨b0, o0 + j * 3, none⟩) = tA
                have hrr : Row w9 42 3 (.slice A9 n9 c9) ((T.take j ++ l[i] :: T.drop j).flatMap Itm.cells) := by rw [List.flatMap_append, List.flatMap_cons, ← List.append_assoc]; exact HR9.out
                have hnl : n9 = (T.take j ++ l[i] :: T.drop j).length := by have h1 := hrr.count; rw [cells_len] at h1; omega
                subst hnl
                have HRR := hid hrr
                have HLEN : HidP ((T.take j ++ l[i] :: T.drop j).length = T.length + 1) := hid (by rw [List.length_append, List.length_cons, List.length_take, List.length_drop]; omega)
                have HADD : HidP ((T.take j ++ l[i] :: T.drop j).map Itm.abs = addK (T.map Itm.abs) l[i].abs) := hid (add_at hless.out (fun _ => HD.out))
                have HGG : HidP (∀ y ∈ T.take j ++ l[i] :: T.drop j, Good w9 y) := hid (fun y hy => by
                  have hb9 := thenB HBW.out HB9.out
                  have h1 : y = l[i] ∨ y ∈ T := by
                    first
                      | (rcases List.mem_append.1 hy with hy | hy
                         · exact .inr (List.mem_of_mem_take hy)
                         · rcases List.mem_cons.1 hy with hy | hy
                           · exact .inl hy
                           · exact .inr (List.mem_of_mem_drop hy))
                      | exact .inl (List.mem_singleton.1 hy)
                  rcases h1 with rfl | h1
                  · exact HGX.out.below hb9
                  · exact (HGD.out y h1).below hb9)
                generalize T.take j ++ l[i] :: T.drop j = T2 at *
                go_wp2_with fail
                go_roundg (l.length - (i + 1))
                case measure => omega
                case rel => exact ⟨i + 1, A9, c9, T2, by omega, rfl, by go_num, rfl, HRR.out, ⟨by rw [HNX.out, HADD.out]⟩, ⟨by have := hlen.out; have := HLEN.out; omega⟩, ⟨HGG.out⟩, thenB HBO.out (thenB HBW.out HB9.out)⟩
            · have HNL : HidP (∀ y ∈ T.take (j + 1), Op.bytesLess y.p.toList l[i].p.toList = true) := hid (fun y hy => by
                rw [List.take_add_one, List.getElem?_eq_getElem hjl] at hy
                rcases List.mem_append.1 hy with hy | hy
                · exact hless.out y hy
                · simp at hy; rw [hy]; exact hd)
              rw [hd] at HLS
              clear hd
              go_wp2_with fail
              go_quiet (exact Calls.quiet_of (HLS.out _))
              go_wp2_with fail
              go_roundg (T.length - (j + 1))
              case measure => omega
              case rel => exact ⟨j + 1, by omega, rfl, by go_num, Below.drewN hb, HNL⟩
          · obtain rfl : j = T.length := by omega
            go_wp2_with fail
            go_quiet (fail)
            go_wp2_with fail
            replace hb := Below.drewN (n := nq) hb
            replace x0 : (wr.drewN nq).cell? ⟨b1, o1 + i * 3, none⟩ = some (.string l[i].p) := x0
            replace x1 : (wr.drewN nq).cell? ⟨b1, o1 + i * 3 + 1, none⟩ = some (.bool l[i].d) := x1
            replace x2 : (wr.drewN nq).cell? ⟨b1, o1 + i * 3 + 2, none⟩ = some (.slice l[i].dA l[i].bs.length l[i].dc) := x2
            generalize wr.drewN nq = W0 at *
            have HBW := hid hb
            have hS0 : ∀ W, Below W0.heap.size W0 W → (Below W0.heap.size W0 W ∧ W.cell? ⟨b1, o1 + i * 3, none⟩ = some (.string l[i].p) ∧ W.cell? ⟨b1, o1 + i * 3 + 1, none⟩ = some (.bool l[i].d) ∧ W.cell? ⟨b1, o1 + i * 3 + 2, none⟩ = some (.slice l[i].dA l[i].bs.length l[i].dc)) := fun W hW => ⟨hW, cellB hW x0, cellB hW x1, cellB hW x2⟩
            have HS0 := hid hS0
            clear hS0
            have s0 : (0 : Int) ≤ (T.length : Int) := by omega
            have s1 : (T.length : Int) ≤ (T.length : Int) := by omega
            have s2 : (T.length : Int) ≤ (c : Int) := by omega
            have s3 : (T.length : Int) ≤ (c : Int) := by omega
            have s4 : T.length ≤ T.length := by omega
            have s5 : T.length ≤ c := by omega
            have SH : HidP (∀ W, Below W0.heap.size W0 W → Src W 3 (.slice (some ⟨b0, o0, none⟩) T.length c) ((T.take T.length).flatMap Itm.cells)) := hid (fun W hW => by
              have h1 := (((HR.out.below HBW.out).below hW).upto (k := T.length) s4).src
              rwa [show (T.flatMap Itm.cells).take (T.length * 3) = (T.take T.length).flatMap Itm.cells from (cells_parts T s4).1] at h1)
            have ST : HidP (∀ W, Below W0.heap.size W0 W → Src W 3 (.slice (if c = T.length then some ⟨b0, o0, none⟩ else some ⟨b0, o0 + T.length * 3, none⟩) (T.length - T.length) (c - T.length)) ((T.drop T.length).flatMap Itm.cells)) := hid (fun W hW => by
              have h1 := ((HR.out.below HBW.out).below hW).tail (k := T.length) s4
              rwa [show (T.flatMap Itm.cells).drop (T.length * 3) = (T.drop T.length).flatMap Itm.cells from (cells_parts T s4).2] at h1)
            have h1T : ∀ u ∈ (T.drop T.length).flatMap Itm.cells, u.oneCell' = true := itms_one _
            have bdH : ((T.take T.length).flatMap Itm.cells).length ≤ maxLen ∧ ((T.take T.length).flatMap Itm.cells).length * 48 ≤ 140737488355328 := by simp only [cells_len, List.length_take, maxLen]; omega
            have bdX : ((T.take T.length).flatMap Itm.cells).length + l[i].cells.length ≤ maxLen ∧ (((T.take T.length).flatMap Itm.cells).length + l[i].cells.length) * 48 ≤ 140737488355328 := by rw [show l[i].cells.length = 3 from rfl]; simp only [cells_len, List.length_take, maxLen]; omega
            have bdT : ((T.take T.length).flatMap Itm.cells ++ l[i].cells).length + ((T.drop T.length).flatMap Itm.cells).length ≤ maxLen ∧ (((T.take T.length).flatMap Itm.cells ++ l[i].cells).length + ((T.drop T.length).flatMap Itm.cells).length) * 48 ≤ 140737488355328 := by rw [List.length_append, show l[i].cells.length = 3 from rfl]; simp only [cells_len, List.length_take, List.length_drop, maxLen]; omega
            have hs0 := HS0.out W0.drew ⟨rfl, rfl, rfl, Nat.le_refl _, fun _ _ => rfl⟩
            refine wp_region_held_drew (S := fun W => Below W0.heap.size W0 W ∧ W.cell? ⟨b1, o1 + i * 3, none⟩ = some (.string l[i].p) ∧ W.cell? ⟨b1, o1 + i * 3 + 1, none⟩ = some (.bool l[i].d) ∧ W.cell? ⟨b1, o1 + i * 3 + 2, none⟩ = some (.slice l[i].dA l[i].bs.length l[i].dc)) (by kernel_rfl) hs0 (fun hHeld => ?_)
            refine take_slot 1 33 (v := ?_) rfl rfl (by kernel_rfl) (by kernel_rfl) (by kernel_rfl) (fun _ _ _ h => h) (Or.inl ⟨by rfl, by intro W hSw; (try dsimp only at hSw); go_simp; try with_reducible rfl⟩) (by assumption) ?_
            simp only [Act.put, List.setIfInBounds_toArray, List.set_cons_zero, List.set_cons_succ]
            refine take_slot 2 34 (v := ?_) rfl rfl (by kernel_rfl) (by kernel_rfl) (by kernel_rfl) (fun _ _ _ h => h) (Or.inl ⟨by rfl, by intro W hSw; (try dsimp only at hSw); go_simp; try with_reducible rfl⟩) (by assumption) ?_
            simp only [Act.put, List.setIfInBounds_toArray, List.set_cons_zero, List.set_cons_succ]
            refine take_slot 3 35 (v := ?_) rfl rfl (by kernel_rfl) (by kernel_rfl) (by kernel_rfl) (fun _ _ _ h => h) (Or.inl ⟨by rfl, by intro W hSw; (try dsimp only at hSw); go_simp; try with_reducible rfl⟩) (by assumption) ?_
            simp only [Act.put, List.setIfInBounds_toArray, List.set_cons_zero, List.set_cons_succ]
            refine take_slot 5 37 (v := ?_) rfl rfl (by kernel_rfl) (by kernel_rfl) (by kernel_rfl) (fun _ _ _ h => h) (Or.inl ⟨by rfl, by intro W hSw; (try dsimp only at hSw); go_simp; try with_reducible rfl⟩) (by assumption) ?_
            simp only [Act.put, List.setIfInBounds_toArray, List.set_cons_zero, List.set_cons_succ]
            refine take_slot 6 38 (v := ?_) rfl rfl (by kernel_rfl) (by kernel_rfl) (by kernel_rfl) (fun _ _ _ h => h) (Or.inl ⟨by rfl, by intro W hSw; (try dsimp only at hSw); go_simp; try with_reducible rfl⟩) (by assumption) ?_
            simp only [Act.put, List.setIfInBounds_toArray, List.set_cons_zero, List.set_cons_succ]
            refine take_slot 7 39 (v := ?_) rfl rfl (by kernel_rfl) (by kernel_rfl) (by kernel_rfl) (fun _ _ _ h => h) (Or.inl ⟨by rfl, by intro W hSw; (try dsimp only at hSw); go_simp; try with_reducible rfl⟩) (by assumption) ?_
            simp only [Act.put, List.setIfInBounds_toArray, List.set_cons_zero, List.set_cons_succ]
            refine take_slot 8 40 (v := ?_) rfl rfl (by kernel_rfl) (by kernel_rfl) (by kernel_rfl) (fun _ _ _ h => h) (Or.inl ⟨by rfl, by intro W hSw; (try dsimp only at hSw); go_simp; try with_reducible rfl⟩) (by assumption) ?_
            simp only [Act.put, List.setIfInBounds_toArray, List.set_cons_zero, List.set_cons_succ]
            refine take_slot 11 43 (v := ?_) rfl rfl (by kernel_rfl) (by kernel_rfl) (by kernel_rfl) (fun _ _ _ h => h) (Or.inl ⟨by rfl, by intro W hSw; (try dsimp only at hSw); go_simp; try with_reducible rfl⟩) (by assumption) ?_
            simp only [Act.put, List.setIfInBounds_toArray, List.set_cons_zero, List.set_cons_succ]
            refine take_slot 12 44 (v := ?_) rfl rfl (by kernel_rfl) (by kernel_rfl) (by kernel_rfl) (fun _ _ _ h => h) (Or.inl ⟨by rfl, by intro W hSw; (try dsimp only at hSw); go_simp; try with_reducible rfl⟩) (by assumption) ?_
            simp only [Act.put, List.setIfInBounds_toArray, List.set_cons_zero, List.set_cons_succ]
            refine take_slot 13 45 (v := ?_) rfl rfl (by kernel_rfl) (by kernel_rfl) (by kernel_rfl) (fun _ _ _ h => h) (Or.inl ⟨by rfl, by intro W hSw; (try dsimp only at hSw); go_simp; try with_reducible rfl⟩) (by assumption) ?_
            simp only [Act.put, List.setIfInBounds_toArray, List.set_cons_zero, List.set_cons_succ]
            refine flow_region (ks := [0, 4, 9]) addDst (putG 42 3 W0.heap.size ((T.take T.length).flatMap Itm.cells) #[.string l[i].p, .bool l[i].d, .slice l[i].dA l[i].bs.length l[i].dc]) (fun _ _ _ _ => True) 3 (by kernel_rfl) (by kernel_rfl) (by kernel_rfl) (by decide) (by simp [addDst]) (by decide) hs0 putG_mono ?step ?fin
            case step =>
              intro i' hi' a' w' hF hS hpre
              try dsimp only at hS
              simp only [List.mem_cons, List.not_mem_nil, or_false] at hi'
              rcases hi' with rfl | rfl | rfl
              · refine ⟨_, rfl, rfl, fun K hK => ?_⟩
                refine oper_build0i (by rfl) ?_
                exact hK _ _ (thenA (Below.refl _ _) _) (HS0.out _ (thenA hS.1 _)) ⟨_, rfl, hS.1.size, Row.made w'⟩ fun _ _ _ _ => ⟨trivial, trivial⟩
              · refine ⟨_, rfl, rfl, fun K hK => ?_⟩
                obtain ⟨b33, e33, l33, hr33⟩ : EmptyG 42 3 W0.heap.size (a'.tmps.getD 32 undef) w' := hpre 0 (by simp) (by kernel_rfl)
                refine oper_append_fresh _ _ 22 (by rfl) 42 ti (.agg #[.string ByteArray.empty, .bool false, .slice none 0 0]) 3 48 Tryz.underlying22 hi0 hz0 hz1 hz2 rfl (by decide) b33 0 (show a'.eval (.tmp 32) = _ from e33) hr33 (.slice (some ⟨b0, o0, none⟩) T.length c) ((T.take T.length).flatMap Itm.cells) (by show a'.eval (.tmp 35) = _; rw [hF.eval (by decide)]; kernel_rfl) (SH.out _ hS.1) bdH.1 bdH.2 ?_
                intro A6 n6 c6 w6 hr6 hb6 ho6
                exact hK _ _ hb6 (HS0.out _ (thenB hS.1 hb6)) ⟨A6, n6, c6, rfl, hr6, fun k' hk' => by
                  rcases ho6 with h | h
                  · rw [h] at hk'; cases hk'; exact l33
                  · rw [h] at hk'; cases hk'; exact hS.1.size⟩ fun _ _ _ _ => ⟨trivial, trivial⟩
              · refine ⟨_, rfl, rfl, fun K hK => ?_⟩
                refine oper_build1i (x := l[i]) (by rfl) (by show a'.eval (.tmp 40) = _; rw [hF.eval (by decide)]; kernel_rfl) ?_
                exact hK _ _ (thenA (Below.refl _ _) _) (HS0.out _ (thenA hS.1 _)) ⟨_, rfl, hS.1.size, heap_alloc_new _ _⟩ fun _ _ _ _ => ⟨trivial, trivial⟩
            case fin =>
              intro a' w' hF hS hG _
              try dsimp only at hS
              have g0 : EmptyG 42 3 W0.heap.size (a'.tmps.getD 32 undef) w' := hG 0 (by simp)
              have g4 : RowG 42 3 W0.heap.size ((T.take T.length).flatMap Itm.cells) (a'.tmps.getD 36 undef) w' := hG 4 (by simp)
              have g6 : OneG 42 W0.heap.size #[.string l[i].p, .bool l[i].d, .slice l[i].dA l[i].bs.length l[i].dc] (a'.tmps.getD 41 undef) w' := hG 9 (by simp)
              obtain ⟨b33, e33, _, _⟩ := g0
              obtain ⟨A7, n7, c7, e37, hr7, hf7⟩ := g4
              obtain ⟨b39, e39, _, q39⟩ := g6
              have hact := hF.act
              simp only [List.foldl_cons, List.foldl_nil, addDst, e33, e37, e39, List.setIfInBounds_toArray, List.set_cons_zero, List.set_cons_succ] at hact
              have hB7 := hS.1
              clear hF hG e33 e37 e39 hS
              subst hact
              refine ready_append_row 10 (by kernel_rfl) rfl rfl 42 rfl (.tmp 36) (.tmp 41) 22 (by rfl) 42 ti (.agg #[.string ByteArray.empty, .bool false, .slice none 0 0]) 3 48 Tryz.underlying22 hi0 hz0 hz1 hz2 rfl (by decide) (.slice A7 n7 c7) ((T.take T.length).flatMap Itm.cells) (by kernel_rfl) (by exact hr7) (.slice (some ⟨b39, 0, none⟩) 1 1) l[i].cells (by kernel_rfl) (by exact (Src.item l[i] q39)) (by simp [Itm.cells, Value.oneCell']) (by exact bdX.1) (by exact bdX.2) ?_
              intro A8 n8 c8 w8 hr8 hg8 ha8
              have hB8 : Below W0.heap.size W0 w8 := Below.grownNew hB7 ⟨hg8.os, hg8.tape, hg8.output, hg8.size, hg8.block⟩ hB7.size hf7
              have hf8 := fresh_of (B := W0.heap.size) ha8 hf7 hB7.size
              refine ⟨HS0.out _ hB8, ?_⟩
              simp only [Act.put, List.setIfInBounds_toArray, List.set_cons_zero, List.set_cons_succ]
              have hst := ST.out _ hB8
              refine ready_append_row 14 (by kernel_rfl) rfl rfl 46 rfl (.tmp 42) (.tmp 45) 22 (by rfl) 42 ti (.agg #[.string ByteArray.empty, .bool false, .slice none 0 0]) 3 48 Tryz.underlying22 hi0 hz0 hz1 hz2 rfl (by decide) (.slice A8 n8 c8) ((T.take T.length).flatMap Itm.cells ++ l[i].cells) (by kernel_rfl) (by exact hr8) (.slice (if c = T.length then some ⟨b0, o0, none⟩ else some ⟨b0, o0 + T.length * 3, none⟩) (T.length - T.length) (c - T.length)) ((T.drop T.length).flatMap Itm.cells) (by simp [Act.eval]) (by exact hst) (by exact h1T) (by exact bdT.1) (by exact bdT.2) ?_
              intro A9 n9 c9 w9 hr9 hg9 ha9
              have hB9 : Below W0.heap.size W0 w9 := Below.grownNew hB8 ⟨hg9.os, hg9.tape, hg9.output, hg9.size, hg9.block⟩ hB8.size hf8
              refine ⟨HS0.out _ hB9, ?_⟩
              simp only [Act.put, List.setIfInBounds_toArray, List.set_cons_zero, List.set_cons_succ]
              refine ready_assign 15 (by kernel_rfl) rfl rfl 0 rfl (.tmp 46) (by rfl) (.slice A9 n9 c9) (by kernel_rfl) ⟨HS0.out _ hB9, ?_⟩
              simp only [Act.put, List.setIfInBounds_toArray, List.set_cons_zero]
              refine wpAnyH_done (by kernel_rfl) ?_ _
              have HR9 := hid hr9
              have HB9 := hid hB9
              clear hr7 hr8 hr9 hg8 hg9 ha8 ha9 hf7 hf8 q39 hB7 hB8 hB9 hHeld hs0
              generalize (if c = T.length then some (⟨b0, o0, none⟩ : Addr) else some ⟨b0, o0 + T.length * 3, none⟩) = tA
              have hrr : Row w9 42 3 (.slice A9 n9 c9) ((T.take T.length ++ l[i] :: T.drop T.length).flatMap Itm.cells) := by rw [List.flatMap_append, List.flatMap_cons, ← List.append_assoc]; exact HR9.out
              have hnl : n9 = (T.take T.length ++ l[i] :: T.drop T.length).length := by have h1 := hrr.count; rw [cells_len] at h1; omega
              subst hnl
              have HRR := hid hrr
              have HLEN : HidP ((T.take T.length ++ l[i] :: T.drop T.length).length = T.length + 1) := hid (by rw [List.length_append, List.length_cons, List.length_take, List.length_drop]; omega)
              have HADD : HidP ((T.take T.length ++ l[i] :: T.drop T.length).map Itm.abs = addK (T.map Itm.abs) l[i].abs) := hid (add_at hless.out (fun h => absurd h (Nat.lt_irrefl _)))
              have HGG : HidP (∀ y ∈ T.take T.length ++ l[i] :: T.drop T.length, Good w9 y) := hid (fun y hy => by
                have hb9 := thenB HBW.out HB9.out
                have h1 : y = l[i] ∨ y ∈ T := by
                  first
                    | (rcases List.mem_append.1 hy with hy | hy
                       · exact .inr (List.mem_of_mem_take hy)
                       · rcases List.mem_cons.1 hy with hy | hy
                         · exact .inl hy
                         · exact .inr (List.mem_of_mem_drop hy))
                    | exact .inl (List.mem_singleton.1 hy)
                rcases h1 with rfl | h1
                · exact HGX.out.below hb9
                · exact (HGD.out y h1).below hb9)
              generalize T.take T.length ++ l[i] :: T.drop T.length = T2 at *
              go_wp2_with fail
              go_roundg (l.length - (i + 1))
              case measure => omega
              case rel => exact ⟨i + 1, A9, c9, T2, by omega, rfl, by go_num, rfl, HRR.out, ⟨by rw [HNX.out, HADD.out]⟩, ⟨by have := hlen.out; have := HLEN.out; omega⟩, ⟨HGG.out⟩, thenB HBO.out (thenB HBW.out HB9.out)⟩
    · obtain rfl : i = l.length := by omega
      have hf := hfold.out
      rw [List.take_length] at hf
      have HF := hid hf
      clear hf hfold hrow
      go_wp2_with fail
      go_ret
      exact ⟨⟨A', c, T, rfl, HR.out, HGD.out, HF.out⟩, hbo⟩

end Go.Proofs.YtfbbjfbnkcklgaaGreatDoor

/- the document's result in memory; all -/
namespace Go.Proofs.YtfbbjfbnkcklgaaGreatDoor
open Go.RowKit

structure RB (R : Nat) (x : RI) (W : World) : Prop where
  blk : W.heap[R]? = some (.cells #[.slice x.a.A x.a.l.length x.a.c, .slice x.b.A x.b.l.length x.b.c, .slice x.o.A x.o.l.length x.o.c, .slice x.cA x.LC.length x.cc] 33 (0, 0))
  a : Row W 42 3 (.slice x.a.A x.a.l.length x.a.c) (x.a.l.flatMap Itm.cells)
  b : Row W 42 3 (.slice x.b.A x.b.l.length x.b.c) (x.b.l.flatMap Itm.cells)
  o : Row W 42 3 (.slice x.o.A x.o.l.length x.o.c) (x.o.l.flatMap Itm.cells)
  c : Row W 9 1 (.slice x.cA x.LC.length x.cc) (x.LC.map .string)
  ga : ∀ y ∈ x.a.l, Good W y
  gb : ∀ y ∈ x.b.l, Good W y
  go : ∀ y ∈ x.o.l, Good W y
  sz : ∀ q ∈ x.LC, q.size ≤ 140737488351232
section
variable {R : Nat} {x : RI} {W W' : World}
theorem RB.below (h : RB R x W) (hb : Below W.heap.size W W') : RB R x W' :=
  ⟨(hb.block _ (blkLt h.blk)).trans h.blk, h.a.below hb, h.b.below hb, h.o.below hb, h.c.below hb, fun y hy => (h.ga y hy).below hb, fun y hy => (h.gb y hy).below hb, fun y hy => (h.go y hy).below hb, h.sz⟩
theorem slices_no {v0 v1 v2 v3 : Option Addr × Nat × Nat} (i : Nat) (n : Int) : (#[Value.slice v0.1 v0.2.1 v0.2.2, Value.slice v1.1 v1.2.1 v1.2.2, Value.slice v2.1 v2.2.1 v2.2.2, Value.slice v3.1 v3.2.1 v3.2.2] : Array Value)[i]? ≠ some (Value.int .u8 n) := by
  intro h
  rw [← Array.getElem?_toList] at h
  have := List.mem_of_getElem? h
  simp at this
theorem slices_nos {v0 v1 v2 v3 : Option Addr × Nat × Nat} (i : Nat) (n : ByteArray) : (#[Value.slice v0.1 v0.2.1 v0.2.2, Value.slice v1.1 v1.2.1 v1.2.2, Value.slice v2.1 v2.2.1 v2.2.2, Value.slice v3.1 v3.2.1 v3.2.2] : Array Value)[i]? ≠ some (Value.string n) := by
  intro h
  rw [← Array.getElem?_toList] at h
  have := List.mem_of_getElem? h
  simp at this
theorem RB.item (h : RB R x W) {y : Itm} (hy : Good W y) (hk : KR R W W') : Good W' y :=
  (GoodR.of hy h.blk (slices_no (v0 := (_, _, _)) (v1 := (_, _, _)) (v2 := (_, _, _)) (v3 := (_, _, _)))).later hk
theorem RB.tree (h : RB R x W) {A : Option Addr} {c : Nat} {l : List Itm} (ht : Tr W A c l) (hk : KR R W W') : Tr W' A c l :=
  ht.aside h.blk (slices_no (v0 := (_, _, _)) (v1 := (_, _, _)) (v2 := (_, _, _)) (v3 := (_, _, _))) (slices_nos (v0 := (_, _, _)) (v1 := (_, _, _)) (v2 := (_, _, _)) (v3 := (_, _, _))) hk
theorem RB.row (h : RB R x W) {e : TypeId} {sz : Nat} {v : Value} {xs : List Value} (hr : Row W e sz v xs) (he : e ≠ 33) (hk : KR R W W') : Row W' e sz v xs :=
  hr.keep fun k hk' => hk.block k (hr.lt k hk') (fun e' => hr.neBlk h.blk he (by rw [← e']; exact hk'))
theorem RB.setA (h : RB R x W) {C : Option Addr} {u : Nat} {T : List Itm} (hr : Row W 42 3 (.slice C T.length u) (T.flatMap Itm.cells)) (hg : ∀ y ∈ T, Good W y) : RB R { x with a := ⟨C, u, T⟩ } (W.setCell ⟨R, 0, none⟩ (.slice C T.length u)) := by
  have hk : KR R W (W.setCell ⟨R, 0, none⟩ (.slice C T.length u)) := KR.setR (Keep.refl _ W) 0 _
  exact ⟨(blkSet h.blk 0 _).trans rfl, h.row hr (by decide) hk, h.row h.b (by decide) hk, h.row h.o (by decide) hk, h.row h.c (by decide) hk, fun y hy => h.item (hg y hy) hk, fun y hy => h.item (h.gb y hy) hk, fun y hy => h.item (h.go y hy) hk, h.sz⟩
theorem RB.setB (h : RB R x W) {C : Option Addr} {u : Nat} {T : List Itm} (hr : Row W 42 3 (.slice C T.length u) (T.flatMap Itm.cells)) (hg : ∀ y ∈ T, Good W y) : RB R { x with b := ⟨C, u, T⟩ } (W.setCell ⟨R, 1, none⟩ (.slice C T.length u)) := by
  have hk : KR R W (W.setCell ⟨R, 1, none⟩ (.slice C T.length u)) := KR.setR (Keep.refl _ W) 1 _
  exact ⟨(blkSet h.blk 1 _).trans rfl, h.row h.a (by decide) hk, h.row hr (by decide) hk, h.row h.o (by decide) hk, h.row h.c (by decide) hk, fun y hy => h.item (h.ga y hy) hk, fun y hy => h.item (hg y hy) hk, fun y hy => h.item (h.go y hy) hk, h.sz⟩
theorem RB.setO (h : RB R x W) {C : Option Addr} {u : Nat} {T : List Itm} (hr : Row W 42 3 (.slice C T.length u) (T.flatMap Itm.cells)) (hg : ∀ y ∈ T, Good W y) : RB R { x with o := ⟨C, u, T⟩ } (W.setCell ⟨R, 2, none⟩ (.slice C T.length u)) := by
  have hk : KR R W (W.setCell ⟨R, 2, none⟩ (.slice C T.length u)) := KR.setR (Keep.refl _ W) 2 _
  exact ⟨(blkSet h.blk 2 _).trans rfl, h.row h.a (by decide) hk, h.row h.b (by decide) hk, h.row hr (by decide) hk, h.row h.c (by decide) hk, fun y hy => h.item (h.ga y hy) hk, fun y hy => h.item (h.gb y hy) hk, fun y hy => h.item (hg y hy) hk, h.sz⟩
theorem RB.setC (h : RB R x W) {C : Option Addr} {u : Nat} {L : List ByteArray} (hr : Row W 9 1 (.slice C L.length u) (L.map .string)) (hg : ∀ q ∈ L, q.size ≤ 140737488351232) : RB R { x with cA := C, cc := u, LC := L } (W.setCell ⟨R, 3, none⟩ (.slice C L.length u)) := by
  have hk : KR R W (W.setCell ⟨R, 3, none⟩ (.slice C L.length u)) := KR.setR (Keep.refl _ W) 3 _
  exact ⟨(blkSet h.blk 3 _).trans rfl, h.row h.a (by decide) hk, h.row h.b (by decide) hk, h.row h.o (by decide) hk, h.row hr (by decide) hk, fun y hy => h.item (h.ga y hy) hk, fun y hy => h.item (h.gb y hy) hk, fun y hy => h.item (h.go y hy) hk, hg⟩
theorem RB.cells (h : RB R x W) : W.cell? ⟨R, 0, none⟩ = some (.slice x.a.A x.a.l.length x.a.c) ∧ W.cell? ⟨R, 1, none⟩ = some (.slice x.b.A x.b.l.length x.b.c) ∧ W.cell? ⟨R, 2, none⟩ = some (.slice x.o.A x.o.l.length x.o.c) ∧ W.cell? ⟨R, 3, none⟩ = some (.slice x.cA x.LC.length x.cc) ∧ ∀ i, W.frozen? ⟨R, i, none⟩ = false :=
  ⟨(blkCell h.blk 0).trans rfl, (blkCell h.blk 1).trans rfl, (blkCell h.blk 2).trans rfl, (blkCell h.blk 3).trans rfl, fun i => blkFree h.blk i⟩
end
/-- how far the four have come -/
def stepA (v : List AIt × List AIt × List AIt × List Txt) (a b o : List AIt) (c : List Txt) : List AIt × List AIt × List AIt × List Txt := (a.foldl addK v.1, b.foldl addK v.2.1, o.foldl addK v.2.2.1, c.foldl putK v.2.2.2)
/-- there is room for so many more -/
structure Room (x : RI) (a b o c : Nat) : Prop where
  a : x.a.l.length + a ≤ 900000
  b : x.b.l.length + b ≤ 900000
  o : x.o.l.length + o ≤ 900000
  c : x.LC.length + c ≤ 900000
theorem add_grows {T t l : List Itm} (h : T.map Itm.abs = (l.map Itm.abs).foldl addK (t.map Itm.abs)) : T.length = t.length + l.length := by
  have h1 := congrArg List.length h
  rwa [adds_len, List.length_map, List.length_map, List.length_map] at h1

set_option maxHeartbeats 2000000 in
theorem refall (R : Nat) (x : RI) (B : Option Addr) (d : Nat) (l : List Itm) (W : World) (h : RB R x W) (hl : Tr W B d l) (hm : Room x l.length l.length l.length 0) :
    Calls Tryz.prog 71 #[.pointer (some ⟨R, 0, none⟩), .slice B l.length d] W fun e w' => (∃ v, e = .returned v) ∧ (∃ x', RB R x' w' ∧ x'.abs = stepA x.abs (l.map Itm.abs) (l.map Itm.abs) (l.map Itm.abs) []) ∧ KR R W w' := by
  have HA := hid (refadd x.a.A x.a.c x.a.l B d l W h.a h.ga hl hm.a)
  have H := hid h
  have HL := hid hl
  have HM := hid hm
  obtain ⟨p0, p1, p2, p3, pf⟩ := h.cells
  clear h hl hm
  go_enter Tryz.func71, Tryz.ntmps71
  go_wp2_with fail
  refine HA.out.mono ?_
  rintro e w1 ⟨⟨C1, u1, T1, rfl, hr1, hg1, he1⟩, hb1⟩
  have k1 := H.out.below hb1
  obtain ⟨s0, s1, s2, s3, sf⟩ := k1.cells
  have f0 := sf 0
  have k2 := k1.setA hr1 hg1
  have hk2 : KR R W (w1.setCell ⟨R, 0, none⟩ (.slice C1 T1.length u1)) := KR.setR (KR.then (Keep.refl _ W) hb1) 0 _
  have t2 := H.out.tree HL.out hk2
  have HE1 := hid he1
  have HK2 := hid hk2
  have HK := hid k2
  have HT := hid t2
  clear k1 k2 hk2 t2 he1 hr1 hg1 p0 p1 p2 p3 pf HA
  obtain ⟨q0, q1, q2, q3, qf⟩ := HK.out.cells
  have HB := hid (refadd x.b.A x.b.c x.b.l B d l _ HK.out.b HK.out.gb HT.out HM.out.b)
  go_wp2_with fail
  refine HB.out.mono ?_
  rintro e w3 ⟨⟨C2, u2, T2, rfl, hr2, hg2, he2⟩, hb3⟩
  clear q0 q1 q2 q3 qf s0 s1 s2 s3 sf f0 HB
  have k3 := HK.out.below hb3
  have hk3 := KR.then HK2.out hb3
  obtain ⟨s0, s1, s2, s3, sf⟩ := k3.cells
  have f1 := sf 1
  have k4 := k3.setB hr2 hg2
  have hk4 := KR.setR hk3 1 (.slice C2 T2.length u2)
  have t4 := H.out.tree HL.out hk4
  have HE2 := hid he2
  have HK4 := hid hk4
  have HKK := hid k4
  have HTT := hid t4
  clear k3 hk3 k4 hk4 t4 hr2 hg2 he2 HK HK2 HT
  obtain ⟨q0, q1, q2, q3, qf⟩ := HKK.out.cells
  have HB := hid (refadd x.o.A x.o.c x.o.l B d l _ HKK.out.o HKK.out.go HTT.out HM.out.o)
  go_wp2_with fail
  refine HB.out.mono ?_
  rintro e w5 ⟨⟨C3, u3, T3, rfl, hr3, hg3, he3⟩, hb5⟩
  clear q0 q1 q2 q3 qf s0 s1 s2 s3 sf f1 HB
  have k5 := HKK.out.below hb5
  have hk5 := KR.then HK4.out hb5
  obtain ⟨s0, s1, s2, s3, sf⟩ := k5.cells
  have f2 := sf 2
  have HK6 := hid (k5.setO hr3 hg3)
  have HKR6 := hid (KR.setR hk5 2 (.slice C3 T3.length u3))
  have HE3 := hid he3
  clear k5 hk5 hr3 hg3 he3 HKK HK4 HTT
  go_wp2_with fail
  go_end0
  exact ⟨⟨_, rfl⟩, ⟨_, HK6.out, by
    unfold stepA RI.abs
    simp only [List.foldl_nil]
    rw [HE1.out, HE2.out, HE3.out]⟩, HKR6.out⟩

end Go.Proofs.YtfbbjfbnkcklgaaGreatDoor

/- the document's merge within a path (plain law) -/
namespace Go.Proofs.YtfbbjfbnkcklgaaGreatDoor
open Go.RowKit

theorem dir_above {T : List AIt} (hT : RightP T) {q : Txt} (hq : q ≠ []) : ∀ (n : Nat) (z : AIt), z.p.length ≤ n → z ∈ T → withinA q z.p = true → z.p ≠ q → foundDir T q = true := by
  intro n
  induction n with
  | zero =>
    intro z hn hz _ _
    exact absurd (List.eq_nil_of_length_eq_zero (by omega)) (hT.nonempty hz)
  | succ n ih =>
    intro z hn hz hw hne
    obtain ⟨h1, h2⟩ := within_up (hT.path hz) hq (Ne.symm hne) hw
    rcases (hT.each z hz).2 with h0 | ⟨y, hy, hyp, hyd⟩
    · exact absurd h0 h1
    · have hlen : y.p.length < z.p.length := by rw [hyp]; exact up_short (hT.path hz)
      by_cases e : y.p = q
      · exact dir_found hT hy e hyd
      · exact ih y (by omega) hy (by rw [hyp]; exact h2) e
section
variable {o a b : List AIt}
theorem nil_under (h : Right3 o a b) {q : Txt} (hq : q ≠ []) (hf : foundDir o q = false) {r : Txt} (hw : withinA q r = true) (hne : r ≠ q) (hr : r ≠ []) : underA o r = [] := by
  rw [List.eq_nil_iff_forall_not_mem]
  intro z hz
  obtain ⟨hz1, hz2⟩ := mem_under.1 hz
  have hqz : withinA q z.p = true := within_trans hr hw hz2
  have hnz : z.p ≠ q := fun e => by
    rw [e] at hz2
    have h1 := within_len hw
    have h2 := within_len hz2
    rcases within_iff.1 hw with h3 | h3 | ⟨s, h3⟩
    · exact hne h3
    · exact hq h3
    · have := congrArg List.length h3
      simp at this
      omega
  have := dir_above h.o hq _ z (Nat.le_refl _) hz1 hqz hnz
  rw [hf] at this
  cases this
theorem nil_names (h : Right3 o a b) {q : Txt} (hq : q ≠ []) (hf : foundDir o q = false) {p : Txt} (hw : withinA q p = true) (hp : p ≠ []) : namesA [] a b p = namesA o a b p := by
  have hk : kidP o p = [] := by
    rw [List.eq_nil_iff_forall_not_mem]
    intro r hr
    obtain ⟨h1, x, hx, rfl⟩ := mem_kidP.1 hr
    have hpx := h.o.path hx
    have h2 := up_within hpx h1
    have h3 := up_short hpx
    rw [h1] at h3
    have h4 := within_len hw
    have := dir_above h.o hq _ x (Nat.le_refl _) hx (within_trans hp hw h2) (fun e => by rw [e] at h3; omega)
    rw [hf] at this
    cases this
  unfold namesA
  rw [hk]
  rfl
theorem right3_nil (h : Right3 o a b) : Right3 [] a b := ⟨right_iff.1 (by decide), h.a, h.b⟩
/-- without the ancestor's items, where it has no directory -/
theorem nil_all (h : Right3 o a b) {q : Txt} (hq : q ≠ []) (hf : foundDir o q = false) (n : Nat) :
    mgX (namesA [] a b) (descB [] a b) (ruleA [] a b) n q = mgX (namesA o a b) (descB o a b) (ruleA o a b) n q ∧ mgX (namesA [] a b) (descB [] a b) (ruleB [] a b) n q = mgX (namesA o a b) (descB o a b) (ruleB o a b) n q ∧
      mgX (namesA [] a b) (descB [] a b) (ruleO [] a b) n q = mgX (namesA o a b) (descB o a b) (ruleO o a b) n q ∧ mgC (namesA [] a b) (descB [] a b) (confB [] a b) n q = mgC (namesA o a b) (descB o a b) (confB o a b) n q := by
  have hN : ∀ p, (withinA q p = true ∧ p ≠ []) → namesA [] a b p = namesA o a b p := fun p hp => nil_names h hq hf hp.1 hp.2
  have hU : ∀ p, (withinA q p = true ∧ p ≠ []) → ∀ r ∈ namesA [] a b p, underA [] r = underA o r ∧ (withinA q r = true ∧ r ≠ []) := fun p hp r hr => by
    rw [hN p hp] at hr
    obtain ⟨h1, h2⟩ := mem_names.1 hr
    have hpr := h.pathU h2
    have hne := path_ne hpr
    have h3 := within_trans hp.2 hp.1 (up_within hpr h1)
    have h4 := up_short hpr
    rw [h1] at h4
    have h5 := within_len hp.1
    refine ⟨?_, h3, hne⟩
    rw [nil_under h hq hf h3 (fun e => by rw [e] at h4; omega) hne]
    rfl
  have hq' : withinA q q = true ∧ q ≠ [] := ⟨within_self q, hq⟩
  have hD : ∀ p, (withinA q p = true ∧ p ≠ []) → ∀ r ∈ namesA [] a b p, takeA [] a b r = takeA o a b r ∧ firstO [] a r = firstO o a r ∧ descB [] a b r = descB o a b r ∧ confB [] a b r = confB o a b r := fun p hp r hr => by
    have h1 := (hU p hp r hr).1
    unfold descB confB takeA firstO
    rw [h1]
    exact ⟨rfl, rfl, rfl, rfl⟩
  refine ⟨mgX_congr _ hN (fun p hp r hr => ?_) n q hq', mgX_congr _ hN (fun p hp r hr => ?_) n q hq', mgX_congr _ hN (fun p hp r hr => ?_) n q hq', mgC_congr _ hN (fun p hp r hr => ?_) n q hq'⟩
  · obtain ⟨h1, h2, h3, h4⟩ := hD p hp r hr
    exact ⟨h3, by unfold ruleA; rw [h1, h2], fun _ => (hU p hp r hr).2⟩
  · obtain ⟨h1, h2, h3, h4⟩ := hD p hp r hr
    exact ⟨h3, by unfold ruleB; rw [h1, h2], fun _ => (hU p hp r hr).2⟩
  · obtain ⟨h1, h2, h3, h4⟩ := hD p hp r hr
    exact ⟨h3, by unfold ruleO; rw [h1, h2, (hU p hp r hr).1], fun _ => (hU p hp r hr).2⟩
  · obtain ⟨h1, h2, h3, h4⟩ := hD p hp r hr
    exact ⟨h3, h4, fun _ => (hU p hp r hr).2⟩
/-- what one path brings -/
def oneX (o a b : List AIt) (rule : Txt → List AIt) (m : Nat) (q : Txt) : List AIt := if descB o a b q = true then ⟨q, true, []⟩ :: mgX (namesA o a b) (descB o a b) rule m q else rule q
def oneC (o a b : List AIt) (m : Nat) (q : Txt) : List Txt := if descB o a b q = true then mgC (namesA o a b) (descB o a b) (confB o a b) m q else if confB o a b q = true then [q] else []
theorem mgX_succ (rule : Txt → List AIt) (m : Nat) (p : Txt) : mgX (namesA o a b) (descB o a b) rule (m + 1) p = (namesA o a b p).flatMap (oneX o a b rule m) := rfl
theorem mgC_succ (m : Nat) (p : Txt) : mgC (namesA o a b) (descB o a b) (confB o a b) (m + 1) p = (namesA o a b p).flatMap (oneC o a b m) := rfl
end
theorem stepA_then (v : List AIt × List AIt × List AIt × List Txt) (a b o a' b' o' : List AIt) (c c' : List Txt) : stepA (stepA v a b o c) a' b' o' c' = stepA v (a ++ a') (b ++ b') (o ++ o') (c ++ c') := by
  unfold stepA
  simp only [List.foldl_append]
theorem stepA_nil (v : List AIt × List AIt × List AIt × List Txt) : stepA v [] [] [] [] = v := rfl
theorem take_next {α β : Type} (f : α → List β) {l : List α} {i : Nat} (h : i < l.length) : (l.take (i + 1)).flatMap f = (l.take i).flatMap f ++ f l[i] := by
  rw [List.take_add_one, List.getElem?_eq_getElem h, List.flatMap_append]
  simp
theorem take_room {α β : Type} (f : α → List β) {l : List α} {i : Nat} (h : i < l.length) : ((l.take i).flatMap f).length + (f l[i]).length ≤ (l.flatMap f).length := by
  have h1 : l.flatMap f = (l.take (i + 1)).flatMap f ++ (l.drop (i + 1)).flatMap f := by rw [← List.flatMap_append, List.take_append_drop]
  rw [h1, take_next f h, List.length_append, List.length_append]
  omega
theorem Room.next {x x' : RI} {XA XB XO PA PB PO : List AIt} {XC PC : List Txt} {kA kB kO kC : Nat} (h : Room x XA.length XB.length XO.length XC.length) (he : x'.abs = stepA x.abs PA PB PO PC) (hA : PA.length + kA ≤ XA.length) (hB : PB.length + kB ≤ XB.length) (hO : PO.length + kO ≤ XO.length) (hC : PC.length + kC ≤ XC.length) : Room x' kA kB kO kC := by
  unfold RI.abs stepA at he
  simp only [Prod.mk.injEq] at he
  obtain ⟨e1, e2, e3, e4⟩ := he
  have l1 := congrArg List.length e1
  have l2 := congrArg List.length e2
  have l3 := congrArg List.length e3
  have l4 := congrArg List.length e4
  have l5 := putsK_len PC (x.LC.map fun z : ByteArray => z.toList)
  rw [adds_len, List.length_map, List.length_map] at l1 l2 l3
  rw [List.length_map] at l4 l5
  have := h.a
  have := h.b
  have := h.o
  have := h.c
  exact ⟨by omega, by omega, by omega, by omega⟩

end Go.Proofs.YtfbbjfbnkcklgaaGreatDoor
