/- policy.set: its sort, Concat (printed by gen/genJ1.py, in part out of E16) -/
import Derived.Test.YtfbbjfbnkcklgaaGreatDoorF11
import Derived.Lib.AppendZerosOnto
import Derived.Test.YtfbbjfbnkcklgaaGreatDoorH1
namespace Go.Proofs.YtfbbjfbnkcklgaaGreatDoor
open Go.RowKit Go.Shelf Go.Lib Go.Sort

set_option maxHeartbeats 1600000 in
theorem set1_walk (x y : Itm) (W : World) : Calls Tryz.prog 164 #[.agg #[.string x.p, .bool x.d, .slice x.dA x.bs.length x.dc], .agg #[.string y.p, .bool y.d, .slice y.dA y.bs.length y.dc]] W fun e w' => e = .returned (.int .i64 (cfI x y)) ∧ ∃ q os', w' = grow (W.drewN q) os' := by
  have HC := hid (fun W' => compare_any x.p y.p W')
  unfold cfI
  generalize cmpL x.p.toList y.p.toList = r at *
  go_enter Tryz.func164, Tryz.ntmps164
  go_wp2_with fail
  refine (HC.out _).mono ?_
  rintro e w' ⟨rfl, rfl⟩
  go_wp2_with fail
  go_ret
  exact ⟨rfl, 0, _, by rw [alloc_eq_grow, alloc_eq_grow, grow_grow]; rfl⟩


set_option maxRecDepth 100000 in
set_option maxHeartbeats 4000000 in
theorem sortset_walk {w : World} {A : Option Addr} {n c : Nat} {L : List Itm} (h : Row w 42 3 (.slice A n c) (L.flatMap Itm.cells)) (hL : L.length ≤ 1000000) :
    Calls Tryz.prog 66 #[.slice A n c, .func (.func 164) #[] #[]] w fun e w' => (∃ v, e = .returned v) ∧ ∃ L' : List Itm, L'.Perm L ∧ upI L' ∧ Row w' 42 3 (.slice A n c) (L'.flatMap Itm.cells) ∧ w.grownBy w' (Value.slice A n c).ownBlock := by
  have hn := h.count
  rw [flat_len itm_len'] at hn
  obtain rfl : n = L.length := by omega
  have HB := hid (bitslen L.length)
  have hw : IntKind.u64.wrap (L.length : Int) = L.length := by simp [IntKind.wrap, IntKind.bits, IntKind.signed]; omega
  by_cases h0 : L = []
  · subst h0
    have HP := hid (fun lim W => pdqfunc_none A c lim (.func (.func 164) #[] #[]) W)
    have HH := hid h
    clear h hn
    go_enter Tryz.func66, Tryz.ntmps66
    go_wp2_with fail
    refine (HB.out _ (by simp)).mono ?_
    rintro e w' ⟨rfl, rfl⟩
    go_wp2_with fail
    refine (HP.out _ _).mono ?_
    rintro e w2 ⟨⟨v, rfl⟩, rfl⟩
    go_wp2_with fail
    go_end0
    exact ⟨⟨_, rfl⟩, [], List.Perm.refl _, List.Pairwise.nil, HH.out, rfl, rfl, rfl, Nat.le_refl _, fun _ _ _ => rfl⟩
  · obtain ⟨b, off, rfl⟩ : ∃ b off, A = some ⟨b, off, none⟩ := by
      obtain ⟨A', n', c', hv, hl, hn', hc, hh⟩ := id h
      cases hv
      rcases hh with ⟨_, rfl⟩ | ⟨b, off, cs, rfl, _⟩
      · exact absurd (List.eq_nil_of_length_eq_zero (by omega)) h0
      · exact ⟨b, off, rfl⟩
    have hH := row_holds h
    have hlt := h.lt b rfl
    have hlim : Lib.bitLen L.length < 4611686018427387904 := Nat.lt_of_le_of_lt (Lib.bitLen_le L.length 62 (by omega) (by omega)) (by omega)
    have hp := AnyQ.pdqsortCmpFunc_all (P := Tryz.prog) (ρ := Tryz.laysPdq_ren) Tryz.laysPdq 3 Tryz.isAgg42 Tryz.sizeOf42 Itm.cells cfI 164 #[] swoI b off c L.toArray w (enters_of Tryz.func164 (by kernel_rfl) rfl) (fun _ _ _ _ x y => set1_walk x y _)
      ⟨itm_len', fun x v hv => by simp [Itm.cells] at hv; rcases hv with rfl | rfl | rfl <;> rfl, hH, hlt⟩ (L.length + 1) 0 L.length (Lib.bitLen L.length) L.toArray w (by omega) rfl (SWK.start hH) (Nat.zero_le _) (Nat.le_refl _) (by simp; omega) hlim (Or.inl rfl)
    have hso := pdq_sorts (ltOf cfI) swoI L.toArray 0 L.toArray.size (Lib.bitLen L.length) true true (Nat.zero_le _) (Nat.le_refl _) (Or.inl rfl)
    have hfin : ∀ w', SWK Itm.cells 3 w b off (pdq (ltOf cfI) L.toArray 0 L.length (Lib.bitLen L.length) true true) w' → ∃ L' : List Itm, L'.Perm L ∧ upI L' ∧ Row w' 42 3 (.slice (some ⟨b, off, none⟩) L.length c) (L'.flatMap Itm.cells) ∧ w.grownBy w' (some b) := fun w' hw' => by
      obtain ⟨hpm, hst⟩ := hso
      obtain ⟨m, os, rfl⟩ := hw'
      have hsz := hpm.1
      obtain ⟨r1, r2⟩ := row_sorted (m := m) (os := os) h _ hsz
      exact ⟨_, perm_of hpm, sorted_of hsz hst, r1, r2⟩
    have HP := hid hp
    have HF := hid hfin
    clear h hn hH hp hso hfin
    go_enter Tryz.func66, Tryz.ntmps66
    go_wp2_with fail
    refine (HB.out _ (by omega)).mono ?_
    rintro e w' ⟨rfl, rfl⟩
    go_wp2_with fail
    refine HP.out.mono ?_
    rintro e w2 ⟨rfl, hs⟩
    have HS := hid (HF.out _ hs)
    clear hs
    go_wp2_with fail
    go_end0
    exact ⟨⟨_, rfl⟩, HS.out⟩


end Go.Proofs.YtfbbjfbnkcklgaaGreatDoor
namespace Go.Proofs.YtfbbjfbnkcklgaaGreatDoor
open Go.RowKit

theorem wpList_append_run {P : Program} {w : World} {ops : Array Oper} {rest : List Oper} {o : Oper} {a : Act} {Q : Exit → Act → World → Prop} (hgd : o.guard = none) (s x : Operand) (t t2 : TypeId)
    (ho : o.op = .call { callee := .builtin .append, args := #[s, x], argTypes := #[t, t2] }) (v xv : Value) (hs : a.eval s = v) (hxv : a.eval x = xv) {u : Value} {w' : World} (hr : (Builtin.append_ #[t, t2] o.type #[v, xv]).run P w = .ok u w') (h : wpList P ops Q rest (a.put o.dst u) w') : wpList P ops Q (o :: rest) a w :=
  wpList_plain hgd fun K hK => by
    unfold Oper.wp execOp
    simp only [ho, resolve, invoke, builtin, Sem.run_bind, Sem.run_pure, Result.andThen_ok, List.map_toArray, List.map_cons, List.map_nil, hs, hxv, hr]
    exact hK _ _ h
set_option maxRecDepth 100000 in
set_option maxHeartbeats 2000000 in
theorem grownil_walk (n : Nat) (w : World) (hn : n ≤ 1000000) : Calls Tryz.prog 172 #[.slice none 0 0, .int .i64 n] w fun e w' => (∃ (A : Option Addr) (c : Nat), e = .returned (.slice A 0 c) ∧ Row w' 42 3 (.slice A 0 c) [] ∧ ∀ k, (Value.slice A 0 c).ownBlock = some k → w.heap.size ≤ k) ∧ Below w.heap.size w w' := by
  obtain ⟨ti, hi0, hz0, hz1, hz2⟩ := info_parts infoItem
  have n0 : ¬ ((n : Int) < 0) := by omega
  rcases Nat.eq_zero_or_pos n with hz | hp
  · subst hz
    go_enter Tryz.func172, Tryz.ntmps172
    go_wp2_with fail
    go_ret
    exact ⟨⟨_, _, rfl, Row.nil _ _ _, by simp [Value.ownBlock]⟩, Below.refl _ _⟩
  · have p0 : (0 : Int) < (n : Int) := by omega
    have hrz : ∀ ty, (Builtin.append_ #[25, 3] ty #[.slice none 0 0, .int .i64 (n : Int)]).run Tryz.prog w = .ok (.slice (some ⟨w.heap.size, 0, none⟩) n (grownCap w n 0 42)) (w.drew.alloc (.cells (Builtin.zeroCells (Value.agg #[.string ByteArray.empty, .bool false, .slice none 0 0]).cells n ++ Builtin.zeroCells (Value.agg #[.string ByteArray.empty, .bool false, .slice none 0 0]).cells (grownCap w n 0 42 - n)) 42)) := fun ty => by
      have h := Lib.run_append_grow_zeros (P := Tryz.prog) w 25 3 ty 42 ti _ .i64 .i64 Tryz.underlying25 Tryz.underlying3 hi0 hz0 none 0 0 [] (by simp [Builtin.firstCells]) n hp (by rw [hz1]; omega) (by omega) (by omega) (by rw [hz2]; omega) (by rw [hz2]; exact growslice_fits (by omega) (by omega))
      simpa using h
    have hge := grownCap_ge w n 0 42
    have hgm := grownCap_le_maxLen w n 0 42 (by simp only [maxLen]; omega)
    obtain ⟨ZZ, hZZ⟩ : ∃ ZZ, ZZ = Builtin.zeroCells (Value.agg #[.string ByteArray.empty, .bool false, .slice none 0 0]).cells n ++ Builtin.zeroCells (Value.agg #[.string ByteArray.empty, .bool false, .slice none 0 0]).cells (grownCap w n 0 42 - n) := ⟨_, rfl⟩
    have hzl : ZZ.size = grownCap w n 0 42 * 3 := by
      rw [hZZ, Array.size_append, size_zeroCells, size_zeroCells]
      show n * 3 + (grownCap w n 0 42 - n) * 3 = _
      omega
    rw [← hZZ] at hrz
    clear hZZ
    generalize grownCap w n 0 42 = G at *
    have hrow : Row (w.drew.alloc (.cells ZZ 42 (0, 0))) 42 3 (.slice (some ⟨w.heap.size, 0, none⟩) 0 G) [] := ⟨_, 0, G, rfl, by simp, Nat.zero_le _, hgm, .inr ⟨w.heap.size, 0, ZZ, rfl, heap_alloc_new w.drew _, by omega, by simp⟩⟩
    have HROW := hid hrow
    have g0 : (0 : Int) ≤ (G : Int) := by omega
    clear hrow hzl hgm
    go_enter Tryz.func172, Tryz.ntmps172
    go_wp2_with (at_builtin; refine wpList_append_run rfl _ _ 25 3 rfl (.slice none 0 0) (.int .i64 n) rfl rfl (hrz _) ?_)
    go_ret
    exact ⟨⟨_, _, rfl, HROW.out, by simp [Value.ownBlock]⟩, ⟨rfl, rfl, rfl, by simp, fun k hk => heap_alloc_old w.drew _ hk⟩⟩

set_option maxRecDepth 100000 in
set_option maxHeartbeats 4000000 in
theorem concat_walk (b : Nat) (X Y : TrI) (w : World) (hb : w.heap[b]? = some (.cells #[.slice X.A X.l.length X.c, .slice Y.A Y.l.length Y.c] 25 (0, 0))) (hX : Tr w X.A X.c X.l) (hY : Tr w Y.A Y.c Y.l) (hn : X.l.length + Y.l.length ≤ 200000) :
    Calls Tryz.prog 163 #[.slice (some ⟨b, 0, none⟩) 2 2] w fun e w' => (∃ (C : Option Addr) (u : Nat) (M : List Itm), M = X.l ++ Y.l ∧ e = .returned (.slice C M.length u) ∧ Row w' 42 3 (.slice C M.length u) (M.flatMap Itm.cells) ∧ ∀ k, (Value.slice C M.length u).ownBlock = some k → w.heap.size ≤ k) ∧ Below w.heap.size w w' := by
  obtain ⟨ti, hi0, hz0, hz1, hz2⟩ := info_parts infoItem
  have c0 : w.cell? ⟨b, 0, none⟩ = some (.slice X.A X.l.length X.c) := (blkCell hb 0).trans rfl
  have c1 : w.cell? ⟨b, 1, none⟩ = some (.slice Y.A Y.l.length Y.c) := (blkCell hb 1).trans rfl
  have hx0 : ¬ ((X.l.length : Int) < 0) := by omega
  have hx1 : ¬ ((X.l.length : Int) + (Y.l.length : Int) < 0) := by omega
  have HG : HidP (Calls Tryz.prog 172 #[.slice none 0 0, .int .i64 ((X.l.length : Int) + (Y.l.length : Int))] w fun e w' => (∃ (A : Option Addr) (c : Nat), e = .returned (.slice A 0 c) ∧ Row w' 42 3 (.slice A 0 c) [] ∧ ∀ k, (Value.slice A 0 c).ownBlock = some k → w.heap.size ≤ k) ∧ Below w.heap.size w w') := hid (by
    have := grownil_walk (X.l.length + Y.l.length) w (by omega)
    simpa using this)
  have HX := hid hX
  have HY := hid hY
  have HB := hid hb
  have bd1 := apps_bound (L := []) (l := X.l) (by simp; omega)
  have bd2 := apps_bound (L := [] ++ X.l) (l := Y.l) (by simp; omega)
  clear hb hX hY
  go_enter Tryz.func163, Tryz.ntmps163
  go_wp2_with fail
  refine wp_loop_rounds 3 ?_
  rw [rounds_succ]
  go_wp2_with fail
  rw [rounds_succ]
  go_wp2_with fail
  rw [rounds_succ]
  go_wp2_with fail
  refine HG.out.mono ?_
  rintro e w1 ⟨⟨A0, d0, rfl, hr0, hf0⟩, hb1⟩
  have c0 := cellB hb1 c0
  have c1 := cellB hb1 c1
  have hsx := (HX.out.below hb1).src
  have hr0' : Row w1 42 3 (.slice A0 0 d0) (([] : List Itm).flatMap Itm.cells) := hr0
  go_wp2_with fail
  refine wp_loop_rounds 3 ?_
  rw [rounds_succ]
  go_wp2_with (at_builtin; refine wpList_append_row _ rfl _ _ 25 rfl 42 ti (.agg #[.string ByteArray.empty, .bool false, .slice none 0 0]) 3 48 Tryz.underlying25 hi0 hz0 hz1 hz2 rfl (by decide) (.slice A0 0 d0) (([] : List Itm).flatMap Itm.cells) rfl (by exact hr0') (.slice X.A X.l.length X.c) (X.l.flatMap Itm.cells) rfl (by exact hsx) (itms_one _) (by exact bd1.1) (by exact bd1.2) ?_; intro pA pn pc pw pr pg pa)
  have hb2 : Below w.heap.size w pw := Below.grownNew hb1 pg hb1.size hf0
  have hf2 := fresh_of (B := w.heap.size) pa hf0 hb1.size
  have c0 := cellB hb2 ((blkCell HB.out 0).trans rfl)
  have c1 := cellB hb2 ((blkCell HB.out 1).trans rfl)
  have hsy := (HY.out.below hb2).src
  have pr' : Row pw 42 3 (.slice pA pn pc) (([] ++ X.l).flatMap Itm.cells) := by rw [List.flatMap_append]; exact pr
  clear pr pg pa hr0 hr0' hsx hb1
  go_wp2_with fail
  rw [rounds_succ]
  go_wp2_with (at_builtin; refine wpList_append_row _ rfl _ _ 25 rfl 42 ti (.agg #[.string ByteArray.empty, .bool false, .slice none 0 0]) 3 48 Tryz.underlying25 hi0 hz0 hz1 hz2 rfl (by decide) (.slice pA pn pc) (([] ++ X.l).flatMap Itm.cells) rfl (by exact pr') (.slice Y.A Y.l.length Y.c) (Y.l.flatMap Itm.cells) rfl (by exact hsy) (itms_one _) (by exact bd2.1) (by exact bd2.2) ?_; intro qA qn qc qw qr qg qa)
  have hb3 : Below w.heap.size w qw := Below.grownNew hb2 qg hb2.size hf2
  have hf3 := fresh_of (B := w.heap.size) qa hf2 hb2.size
  have qr' : Row qw 42 3 (.slice qA qn qc) ((X.l ++ Y.l).flatMap Itm.cells) := by rw [List.flatMap_append]; simpa using qr
  have hqn : qn = (X.l ++ Y.l).length := by have h1 := qr'.count; rw [cells_len] at h1; omega
  subst hqn
  have QR := hid qr'
  obtain ⟨M, hM⟩ : ∃ M, M = X.l ++ Y.l := ⟨_, rfl⟩
  rw [← hM] at QR hf3 ⊢
  clear qr qr' pr' qg qa hsy hb2 hf2 c0 c1
  go_wp2_with fail
  rw [rounds_succ]
  go_wp2_with fail
  go_ret
  exact ⟨⟨_, _, M, hM, rfl, QR.out, hf3⟩, hb3⟩

end Go.Proofs.YtfbbjfbnkcklgaaGreatDoor

/- policy.set -/
namespace Go.Proofs.YtfbbjfbnkcklgaaGreatDoor
open Go.RowKit

/-- a tree that has these items at a path -/
def setA (T : List AIt) (p : Txt) (L : List AIt) : List AIt := putsA (restA T [p]) L
theorem mem_rest {T : List AIt} {cs : List Txt} {z : AIt} : z ∈ restA T cs ↔ z ∈ T ∧ ∀ c ∈ cs, withinA c z.p = false := by
  unfold restA
  rw [List.mem_filter, Bool.not_eq_true', List.any_eq_false]
  simp
theorem perm_set {K T L : List AIt} {p : Txt} (hp : K.Perm (restA T [p] ++ L)) (hu : K.Pairwise fun x y => Op.bytesLess y.p x.p = false) (hT : sortedA T) (hd : L.Pairwise fun x y => x.p ≠ y.p) (hw : ∀ x ∈ L, withinA p x.p = true) : K = setA T p L := by
  have hne : (restA T [p] ++ L).Pairwise fun x y => x.p ≠ y.p := by
    rw [List.pairwise_append]
    refine ⟨(sorted_paths hT).filter _, hd, fun x hx y hy e => ?_⟩
    have h1 := (mem_rest.1 hx).2 p (by simp)
    rw [e, hw y hy] at h1
    cases h1
  have hneK : K.Pairwise fun x y => x.p ≠ y.p := by
    have h1 : ((restA T [p] ++ L).map AIt.p).Nodup := by unfold List.Nodup; rw [List.pairwise_map]; exact hne
    have h2 := ((hp.map AIt.p).nodup_iff).2 h1
    unfold List.Nodup at h2
    rwa [List.pairwise_map] at h2
  have hs : sortedA K := by
    unfold sortedA
    refine (hu.and hneK).imp fun {x y} h => ?_
    rcases less_or h.2 with h1 | h1
    · exact h1
    · rw [h.1] at h1; cases h1
  refine sorted_ext hs (puts_sorted (hT.filter _) L) fun z => ?_
  rw [hp.mem_iff, List.mem_append, setA, mem_puts hd]
  constructor
  · rintro (h | h)
    · exact .inr ⟨h, fun x hx e => by
        have h1 := (mem_rest.1 h).2 p (by simp)
        rw [e, hw x hx] at h1
        cases h1⟩
    · exact .inl h
  · rintro (h | ⟨h, _⟩)
    · exact .inr h
    · exact .inl h

set_option maxRecDepth 100000 in
set_option maxHeartbeats 4000000 in
theorem set_walk (T : TrI) (p : ByteArray) (L : TrI) (w : World) (hT : Tr w T.A T.c T.l) (hL : Tr w L.A L.c L.l) (nT : T.l.length ≤ 100000) (nL : L.l.length ≤ 100000) (hs : sortedA (T.l.map Itm.abs)) (hd : (L.l.map Itm.abs).Pairwise fun x y => x.p ≠ y.p) (hw : ∀ x ∈ L.l.map Itm.abs, withinA p.toList x.p = true) :
    Calls Tryz.prog 148 #[.slice T.A T.l.length T.c, .string p, .slice L.A L.l.length L.c] w fun e w' => (∃ (B : Option Addr) (d : Nat) (K : List Itm), e = .returned (.slice B K.length d) ∧ Tr w' B d K ∧ K.map Itm.abs = setA (T.l.map Itm.abs) p.toList (L.l.map Itm.abs)) ∧ Below w.heap.size w w' := by
  have hb0 := thenA (Below.refl _ w) (.cells #[.string p] 9 (0, 0))
  have hrow : Row (w.alloc (.cells #[.string p] 9 (0, 0))) 9 1 (.slice (some ⟨w.heap.size, 0, none⟩) 1 1) [.string p] := by
    have h1 := Row.ofBlock (sz := 1) (n := 1) (heap_alloc_new w (.cells #[.string p] 9 (0, 0))) rfl (by simp [maxLen])
    exact h1
  have HWO : HidP (Calls Tryz.prog 23 #[.slice T.A T.l.length T.c, .slice (some ⟨w.heap.size, 0, none⟩) 1 1] (w.alloc (.cells #[.string p] 9 (0, 0))) fun e w' => (∃ (B : Option Addr) (d : Nat) (l' : List Itm), e = .returned (.slice B l'.length d) ∧ Tr w' B d l' ∧ l'.map Itm.abs = restA (T.l.map Itm.abs) [p.toList]) ∧ Below (w.alloc (.cells #[.string p] 9 (0, 0))).heap.size (w.alloc (.cells #[.string p] 9 (0, 0))) w') := hid (without_big T.A T.c T.l (some ⟨w.heap.size, 0, none⟩) 1 [p] _ (hT.below hb0) nT hrow (by simp))
  clear hrow
  have HT := hid hT
  have HL := hid hL
  have HS := hid hs
  have HD := hid hd
  have HW := hid hw
  have HN : HidP (T.l.length ≤ 100000 ∧ L.l.length ≤ 100000) := hid ⟨nT, nL⟩
  clear hT hL hs hd hw nT nL
  go_enter Tryz.func148, Tryz.ntmps148
  go_wp2_with fail
  refine HWO.out.mono ?_
  rintro e w1 ⟨⟨B1, d1, K1, rfl, ht1, he1⟩, hb1'⟩
  have hb1 := thenB hb0 hb1'
  have HU := hid (under_walk L.A L.c L.l ⟨#[]⟩ w1 (HL.out.below hb1))
  have HT1 := hid ht1
  have HE1 := hid he1
  clear ht1 he1 hb1' HWO
  go_wp2_with fail
  refine HU.out.mono ?_
  rintro e w2 ⟨⟨B2, d2, K2, rfl, ht2, he2⟩, hb2'⟩
  rw [emptyB, under_whole] at he2
  have hb2 := thenB hb1 hb2'
  have hba := thenA (Below.refl _ w2) (.cells #[.slice B1 K1.length d1, .slice B2 K2.length d2] 25 (0, 0))
  have l1 : K1.length ≤ 100000 := by
    have h1 := congrArg List.length HE1.out
    rw [List.length_map] at h1
    have h2 : (restA (T.l.map Itm.abs) [p.toList]).length ≤ (T.l.map Itm.abs).length := List.length_filter_le _ _
    rw [List.length_map] at h2
    have := HN.out
    omega
  have l2 : K2.length ≤ 100000 := by
    have h1 := congrArg List.length he2
    rw [List.length_map, List.length_map] at h1
    have := HN.out
    omega
  have t1 := (HT1.out.below hb2').below hba
  have t2 := ht2.below hba
  have HC := hid (concat_walk w2.heap.size ⟨B1, d1, K1⟩ ⟨B2, d2, K2⟩ _ (heap_alloc_new w2 _) t1 t2 (by show K1.length + K2.length ≤ _; omega))
  have HG : HidP (∀ y ∈ K1 ++ K2, Good (w2.alloc (.cells #[.slice B1 K1.length d1, .slice B2 K2.length d2] 25 (0, 0))) y) := hid (fun y hy => by
    rcases List.mem_append.1 hy with hy | hy
    · exact t1.good y hy
    · exact t2.good y hy)
  have HE2 := hid he2
  have hb3 := thenB hb2 hba
  have HLN : HidP ((K1 ++ K2).length ≤ 200000) := hid (by rw [List.length_append]; omega)
  clear t1 t2 ht2 he2 hb2' hba HU HT1 l1 l2 hb1
  go_wp2_with fail
  generalize w2.alloc (.cells #[.slice B1 K1.length d1, .slice B2 K2.length d2] 25 (0, 0)) = w3 at *
  refine HC.out.mono ?_
  rintro e w4 ⟨⟨B4, d4, M, hM, rfl, hr4, hf4⟩, hb4⟩
  have hML : M.length ≤ 200000 := by rw [hM]; exact HLN.out
  have HM := hid hM
  have HSO := hid (sortset_walk hr4 (by omega))
  have HF4 := hid hf4
  clear hr4 hf4 HC hM
  go_wp2_with fail
  refine HSO.out.mono ?_
  rintro e w5 ⟨⟨v, rfl⟩, K, hp, hu, hr5, hg5⟩
  have hb5 : Below w3.heap.size w3 w5 := Below.grownNew hb4 hg5 hb4.size HF4.out
  have hkl : K.length = M.length := hp.length_eq
  have hgd : ∀ y ∈ K, Good w5 y := fun y hy => (HG.out y (by have h1 := hp.mem_iff.1 hy; rw [HM.out] at h1; exact h1)).below hb5
  have HTF := hid ((Tr.ofRow (A := B4) (c := d4) hr5 hgd (by omega)).2)
  have HKL := hid hkl
  have HKE : HidP (K.map Itm.abs = setA (T.l.map Itm.abs) p.toList (L.l.map Itm.abs)) := hid (by
    refine perm_set ?_ ?_ HS.out HD.out HW.out
    · rw [HM.out] at hp
      have h1 := hp.map Itm.abs
      rw [List.map_append, HE1.out, HE2.out] at h1
      exact h1
    · rw [List.pairwise_map]
      exact hu)
  have hfin := thenB hb3 hb5
  clear hp hu hr5 hg5 hkl hgd hb4 hb5 HSO
  go_wp2_with fail
  go_ret
  exact ⟨⟨B4, d4, K, by rw [HKL.out]; rfl, HTF.out, HKE.out⟩, hfin⟩

end Go.Proofs.YtfbbjfbnkcklgaaGreatDoor

/- the desk: first, second, none (printed by gen/genJ3.py) -/
namespace Go.Proofs.YtfbbjfbnkcklgaaGreatDoor
open Go.RowKit

/-- the conflicts' slice -/
def RI.con (x : RI) : Option Addr × Nat × List ByteArray := (x.cA, x.cc, x.LC)
structure DB (R : Nat) (x : RI) (W : World) : Prop where
  blk : W.heap[R]? = some (.cells #[.slice x.a.A x.a.l.length x.a.c, .slice x.b.A x.b.l.length x.b.c, .slice x.o.A x.o.l.length x.o.c, .slice x.cA x.LC.length x.cc] 120 (0, 0))
  a : Tr W x.a.A x.a.c x.a.l
  b : Tr W x.b.A x.b.c x.b.l
  o : Tr W x.o.A x.o.c x.o.l
  c : Row W 9 1 (.slice x.cA x.LC.length x.cc) (x.LC.map .string)
section
variable {R : Nat} {x : RI} {W W' : World}
theorem DB.below (h : DB R x W) (hb : Below W.heap.size W W') : DB R x W' := ⟨(hb.block _ (blkLt h.blk)).trans h.blk, h.a.below hb, h.b.below hb, h.o.below hb, h.c.below hb⟩
theorem DB.tree (h : DB R x W) {A : Option Addr} {c : Nat} {l : List Itm} (ht : Tr W A c l) (hk : KR R W W') : Tr W' A c l :=
  ht.aside h.blk (slices_no (v0 := (_, _, _)) (v1 := (_, _, _)) (v2 := (_, _, _)) (v3 := (_, _, _))) (slices_nos (v0 := (_, _, _)) (v1 := (_, _, _)) (v2 := (_, _, _)) (v3 := (_, _, _))) hk
theorem DB.row (h : DB R x W) {e : TypeId} {sz : Nat} {v : Value} {xs : List Value} (hr : Row W e sz v xs) (he : e ≠ 120) (hk : KR R W W') : Row W' e sz v xs :=
  hr.keep fun k hk' => hk.block k (hr.lt k hk') (fun e' => hr.neBlk h.blk he (by rw [← e']; exact hk'))
theorem DB.setA (h : DB R x W) {C : Option Addr} {u : Nat} {T : List Itm} (ht : Tr W C u T) : DB R { x with a := ⟨C, u, T⟩ } (W.setCell ⟨R, 0, none⟩ (.slice C T.length u)) := by
  have hk : KR R W (W.setCell ⟨R, 0, none⟩ (.slice C T.length u)) := KR.setR (Keep.refl _ W) 0 _
  exact ⟨(blkSet h.blk 0 _).trans rfl, h.tree ht hk, h.tree h.b hk, h.tree h.o hk, h.row h.c (by decide) hk⟩
theorem DB.setB (h : DB R x W) {C : Option Addr} {u : Nat} {T : List Itm} (ht : Tr W C u T) : DB R { x with b := ⟨C, u, T⟩ } (W.setCell ⟨R, 1, none⟩ (.slice C T.length u)) := by
  have hk : KR R W (W.setCell ⟨R, 1, none⟩ (.slice C T.length u)) := KR.setR (Keep.refl _ W) 1 _
  exact ⟨(blkSet h.blk 1 _).trans rfl, h.tree h.a hk, h.tree ht hk, h.tree h.o hk, h.row h.c (by decide) hk⟩
theorem DB.setO (h : DB R x W) {C : Option Addr} {u : Nat} {T : List Itm} (ht : Tr W C u T) : DB R { x with o := ⟨C, u, T⟩ } (W.setCell ⟨R, 2, none⟩ (.slice C T.length u)) := by
  have hk : KR R W (W.setCell ⟨R, 2, none⟩ (.slice C T.length u)) := KR.setR (Keep.refl _ W) 2 _
  exact ⟨(blkSet h.blk 2 _).trans rfl, h.tree h.a hk, h.tree h.b hk, h.tree ht hk, h.row h.c (by decide) hk⟩
theorem DB.setC (h : DB R x W) {C : Option Addr} {u : Nat} {L : List ByteArray} (hr : Row W 9 1 (.slice C L.length u) (L.map .string)) : DB R { x with cA := C, cc := u, LC := L } (W.setCell ⟨R, 3, none⟩ (.slice C L.length u)) := by
  have hk : KR R W (W.setCell ⟨R, 3, none⟩ (.slice C L.length u)) := KR.setR (Keep.refl _ W) 3 _
  exact ⟨(blkSet h.blk 3 _).trans rfl, h.tree h.a hk, h.tree h.b hk, h.tree h.o hk, h.row hr (by decide) hk⟩
theorem DB.cells (h : DB R x W) : W.cell? ⟨R, 0, none⟩ = some (.slice x.a.A x.a.l.length x.a.c) ∧ W.cell? ⟨R, 1, none⟩ = some (.slice x.b.A x.b.l.length x.b.c) ∧ W.cell? ⟨R, 2, none⟩ = some (.slice x.o.A x.o.l.length x.o.c) ∧ W.cell? ⟨R, 3, none⟩ = some (.slice x.cA x.LC.length x.cc) ∧ ∀ i, W.frozen? ⟨R, i, none⟩ = false :=
  ⟨(blkCell h.blk 0).trans rfl, (blkCell h.blk 1).trans rfl, (blkCell h.blk 2).trans rfl, (blkCell h.blk 3).trans rfl, fun i => blkFree h.blk i⟩
end
/-- the three rise, and are not too great -/
structure DS (x : RI) : Prop where
  na : x.a.l.length ≤ 100000
  nb : x.b.l.length ≤ 100000
  no : x.o.l.length ≤ 100000
  sa : sortedA (x.a.l.map Itm.abs)
  sb : sortedA (x.b.l.map Itm.abs)
  so : sortedA (x.o.l.map Itm.abs)
def TreeG (T : List AIt) (v : Value) (W : World) : Prop := ∃ (B : Option Addr) (d : Nat) (K : List Itm), v = .slice B K.length d ∧ Tr W B d K ∧ K.map Itm.abs = T
theorem TreeG.mono {T : List AIt} {v : Value} {w w' : World} (hb : Below w.heap.size w w') (h : TreeG T v w) : TreeG T v w' := by
  obtain ⟨B, d, K, h1, h2, h3⟩ := h
  exact ⟨B, d, K, h1, h2.below hb, h3⟩
theorem oper_load_tree {o : Oper} {a : Act} {w : World} {K : Act → World → Prop} {Q : Exit → Act → World → Prop} {t : Tmp} {p : Addr} {A : Option Addr} {n c : Nat} (ho : o.op = .load 25 (.tmp t)) (he : a.eval (.tmp t) = .pointer (some p)) (hc : w.cell? p = some (.slice A n c)) (h : K (a.put o.dst (.slice A n c)) w) : Oper.wp Tryz.prog o a w K Q := by
  obtain ⟨dst, op, ty, pos, after, guard⟩ := o
  subst ho
  replace he : a.tmps.getD t undef = _ := he
  rw [Array.getD_eq_getD_getElem?] at he
  go_simp
  first | done | exact h
theorem oper_call3 {P : Program} {o : Oper} {a : Act} {w : World} {K : Act → World → Prop} {Q : Exit → Act → World → Prop}
    (f : FuncId) (xs : Array Operand) (ats : Array TypeId) (ho : o.op = .call { callee := .value (.func f), args := xs, argTypes := ats }) {fn : Func} (hf : P.funcs[f]? = some fn)
    (hname : (fn.name == "runtime.NumGoroutine") = false) (hb : fn.body.isNone = false) (args : List Value) (ha : xs.toList.map a.eval = args) {R : Ending → World → Prop} (hc : Calls P f args.toArray w R)
    (h : ∀ e w', R e w' → ∃ v, e = .returned v ∧ K (a.put o.dst v) w') : Oper.wp P o a w K Q := by
  have hex : execOp a.eval o = callFunc f (#[] ++ xs.map a.eval ++ #[]) := by
    obtain ⟨dst, op, ty, pos, after, guard⟩ := o
    subst ho
    rfl
  unfold Oper.wp
  rw [hex, show #[] ++ xs.map a.eval ++ #[] = args.toArray by rw [← ha]; simp [← List.map_toArray], run_callFunc_go hf hname hb]
  refine hc.mono fun e w' hR => ?_
  obtain ⟨v, rfl, hk⟩ := h e w' hR
  exact hk
abbrev Abs4 := List AIt × List AIt × List AIt × List Txt
def firstA (v : Abs4) (p : Txt) : Abs4 := (v.1, setA v.2.1 p (underA v.1 p), setA v.2.2.1 p (underA v.1 p), v.2.2.2)
def secondA (v : Abs4) (p : Txt) : Abs4 := (setA v.1 p (underA v.2.1 p), v.2.1, setA v.2.2.1 p (underA v.2.1 p), v.2.2.2)
def noneA (v : Abs4) (p : Txt) : Abs4 := (setA v.1 p [], setA v.2.1 p [], setA v.2.2.1 p [], v.2.2.2)
theorem under_facts {T : List AIt} (hs : sortedA T) (p : Txt) : ((underA T p).Pairwise fun x y => x.p ≠ y.p) ∧ ∀ x ∈ underA T p, withinA p x.p = true := ⟨sorted_paths (under_sorted hs p), fun _ hx => (mem_under.1 hx).2⟩
def dfirstDst : Nat → Nat
  | 6 => 19 | 9 => 22
  | 14 => 27 | 17 => 30
  | _ => 0
def dfirstG (x : RI) (p : Txt) (l : List AIt) : Nat → Value → World → Prop
  | 6 => fun v _ => v = .slice x.b.A x.b.l.length x.b.c | 9 => TreeG (setA (x.b.l.map Itm.abs) p l)
  | 14 => fun v _ => v = .slice x.o.A x.o.l.length x.o.c | 17 => TreeG (setA (x.o.l.map Itm.abs) p l)
  | _ => fun _ _ => True
theorem dfirstG_mono {x : RI} {p : Txt} {l : List AIt} (j : Nat) (v : Value) (w w' : World) (hb : Below w.heap.size w w') (h : dfirstG x p l j v w) : dfirstG x p l j v w' := by
  unfold dfirstG at h ⊢
  split at h <;> first | exact h | exact TreeG.mono hb h
set_option maxRecDepth 100000 in
set_option maxHeartbeats 4000000 in
theorem dfirst_walk (R : Nat) (x : RI) (p : ByteArray) (W : World) (h : DB R x W) (hs : DS x) :
    Calls Tryz.prog 114 #[.pointer (some ⟨R, 0, none⟩), .string p] W fun e w' => e = .returned (.bool true) ∧ (∃ x', DB R x' w' ∧ x'.abs = firstA x.abs p.toList ∧ x'.con = x.con) ∧ KR R W w' := by
  have HU := hid (under_walk x.a.A x.a.c x.a.l p W h.a)
  have HD := hid h
  have HS := hid hs
  obtain ⟨p0, p1, p2, p3, pf⟩ := h.cells
  clear h hs
  go_enter Tryz.func114, Tryz.ntmps114
  go_wp2_with fail
  refine HU.out.mono ?_
  rintro e W0 ⟨⟨LA, Lc, Ll, rfl, hlt, hle⟩, hb0⟩
  have hll : Ll.length ≤ 100000 := by
    have h1 := congrArg List.length hle
    rw [List.length_map] at h1
    have h2 : (underA (x.a.l.map Itm.abs) p.toList).length ≤ (x.a.l.map Itm.abs).length := List.length_filter_le _ _
    rw [List.length_map] at h2
    have := HS.out.na
    omega
  obtain ⟨u1, u2⟩ := under_facts HS.out.sa p.toList
  rw [← hle] at u1 u2
  replace HD := hid (HD.out.below hb0)
  have HKW := hid (KR.then (Keep.refl (fun k => k ≠ R) W) hb0)
  obtain ⟨L, hL⟩ : ∃ L : TrI, L = ⟨LA, Lc, Ll⟩ := ⟨_, rfl⟩
  have HLT : HidP (Tr W0 L.A L.c L.l) := hid (by rw [hL]; exact hlt)
  have HLe : HidP (L.l.map Itm.abs = underA (x.a.l.map Itm.abs) p.toList) := hid (by rw [hL]; exact hle)
  have HLn : HidP (L.l.length ≤ 100000) := hid (by rw [hL]; exact hll)
  have HLd : HidP ((L.l.map Itm.abs).Pairwise fun x y => x.p ≠ y.p) := hid (by rw [hL]; exact u1)
  have HLw : HidP (∀ x ∈ L.l.map Itm.abs, withinA p.toList x.p = true) := hid (by rw [hL]; exact u2)
  obtain rfl : LA = L.A := by rw [hL]
  obtain rfl : Lc = L.c := by rw [hL]
  obtain rfl : Ll = L.l := by rw [hL]
  clear hL hlt hle hll u1 u2 hb0 p0 p1 p2 p3 pf HU
  go_wp2_with fail
  refine wp_region_held_drew (S := fun _ => True) (by kernel_rfl) trivial (fun hHeld => ?_)
  refine take_slot 0 13 (v := ?_) rfl rfl (by kernel_rfl) (by kernel_rfl) (by kernel_rfl) (fun _ _ _ h => h) (Or.inl ⟨by rfl, by intro W hSw; (try dsimp only at hSw); go_simp; try with_reducible rfl⟩) (by assumption) ?_
  simp only [Act.put, List.setIfInBounds_toArray, List.set_cons_zero, List.set_cons_succ]
  refine take_slot 1 14 (v := ?_) rfl rfl (by kernel_rfl) (by kernel_rfl) (by kernel_rfl) (fun _ _ _ h => h) (Or.inl ⟨by rfl, by intro W hSw; (try dsimp only at hSw); go_simp; try with_reducible rfl⟩) (by assumption) ?_
  simp only [Act.put, List.setIfInBounds_toArray, List.set_cons_zero, List.set_cons_succ]
  refine take_slot 2 15 (v := ?_) rfl rfl (by kernel_rfl) (by kernel_rfl) (by kernel_rfl) (fun _ _ _ h => h) (Or.inl ⟨by rfl, by intro W hSw; (try dsimp only at hSw); go_simp; try with_reducible rfl⟩) (by assumption) ?_
  simp only [Act.put, List.setIfInBounds_toArray, List.set_cons_zero, List.set_cons_succ]
  refine take_slot 3 16 (v := ?_) rfl rfl (by kernel_rfl) (by kernel_rfl) (by kernel_rfl) (fun _ _ _ h => h) (Or.inl ⟨by rfl, by intro W hSw; (try dsimp only at hSw); go_simp; try with_reducible rfl⟩) (by assumption) ?_
  simp only [Act.put, List.setIfInBounds_toArray, List.set_cons_zero, List.set_cons_succ]
  refine take_slot 4 17 (v := ?_) rfl rfl (by kernel_rfl) (by kernel_rfl) (by kernel_rfl) (fun _ _ _ h => h) (Or.inl ⟨by rfl, by intro W hSw; (try dsimp only at hSw); go_simp; try with_reducible rfl⟩) (by assumption) ?_
  simp only [Act.put, List.setIfInBounds_toArray, List.set_cons_zero, List.set_cons_succ]
  refine take_slot 5 18 (v := ?_) rfl rfl (by kernel_rfl) (by kernel_rfl) (by kernel_rfl) (fun _ _ _ h => h) (Or.inl ⟨by rfl, by intro W hSw; (try dsimp only at hSw); go_simp; try with_reducible rfl⟩) (by assumption) ?_
  simp only [Act.put, List.setIfInBounds_toArray, List.set_cons_zero, List.set_cons_succ]
  refine take_slot 7 20 (v := ?_) rfl rfl (by kernel_rfl) (by kernel_rfl) (by kernel_rfl) (fun _ _ _ h => h) (Or.inl ⟨by rfl, by intro W hSw; (try dsimp only at hSw); go_simp; try with_reducible rfl⟩) (by assumption) ?_
  simp only [Act.put, List.setIfInBounds_toArray, List.set_cons_zero, List.set_cons_succ]
  refine take_slot 8 21 (v := ?_) rfl rfl (by kernel_rfl) (by kernel_rfl) (by kernel_rfl) (fun _ _ _ h => h) (Or.inl ⟨by rfl, by intro W hSw; (try dsimp only at hSw); go_simp; try with_reducible rfl⟩) (by assumption) ?_
  simp only [Act.put, List.setIfInBounds_toArray, List.set_cons_zero, List.set_cons_succ]
  refine take_slot 10 23 (v := ?_) rfl rfl (by kernel_rfl) (by kernel_rfl) (by kernel_rfl) (fun _ _ _ h => h) (Or.inl ⟨by rfl, by intro W hSw; (try dsimp only at hSw); go_simp; try with_reducible rfl⟩) (by assumption) ?_
  simp only [Act.put, List.setIfInBounds_toArray, List.set_cons_zero, List.set_cons_succ]
  refine take_slot 11 24 (v := ?_) rfl rfl (by kernel_rfl) (by kernel_rfl) (by kernel_rfl) (fun _ _ _ h => h) (Or.inl ⟨by rfl, by intro W hSw; (try dsimp only at hSw); go_simp; try with_reducible rfl⟩) (by assumption) ?_
  simp only [Act.put, List.setIfInBounds_toArray, List.set_cons_zero, List.set_cons_succ]
  refine take_slot 12 25 (v := ?_) rfl rfl (by kernel_rfl) (by kernel_rfl) (by kernel_rfl) (fun _ _ _ h => h) (Or.inl ⟨by rfl, by intro W hSw; (try dsimp only at hSw); go_simp; try with_reducible rfl⟩) (by assumption) ?_
  simp only [Act.put, List.setIfInBounds_toArray, List.set_cons_zero, List.set_cons_succ]
  refine take_slot 13 26 (v := ?_) rfl rfl (by kernel_rfl) (by kernel_rfl) (by kernel_rfl) (fun _ _ _ h => h) (Or.inl ⟨by rfl, by intro W hSw; (try dsimp only at hSw); go_simp; try with_reducible rfl⟩) (by assumption) ?_
  simp only [Act.put, List.setIfInBounds_toArray, List.set_cons_zero, List.set_cons_succ]
  refine take_slot 15 28 (v := ?_) rfl rfl (by kernel_rfl) (by kernel_rfl) (by kernel_rfl) (fun _ _ _ h => h) (Or.inl ⟨by rfl, by intro W hSw; (try dsimp only at hSw); go_simp; try with_reducible rfl⟩) (by assumption) ?_
  simp only [Act.put, List.setIfInBounds_toArray, List.set_cons_zero, List.set_cons_succ]
  refine take_slot 16 29 (v := ?_) rfl rfl (by kernel_rfl) (by kernel_rfl) (by kernel_rfl) (fun _ _ _ h => h) (Or.inl ⟨by rfl, by intro W hSw; (try dsimp only at hSw); go_simp; try with_reducible rfl⟩) (by assumption) ?_
  simp only [Act.put, List.setIfInBounds_toArray, List.set_cons_zero, List.set_cons_succ]
  refine flow_region (ks := [6, 9, 14, 17]) dfirstDst (dfirstG x p.toList (L.l.map Itm.abs)) (fun _ _ _ _ => True) 8 (by kernel_rfl) (by kernel_rfl) (by kernel_rfl) (by decide) (by simp [dfirstDst]) (by decide) trivial dfirstG_mono ?step ?fin
  case step =>
    intro i' hi' a' w' hF _ hpre
    have hb' : Below W0.heap.size W0 w' := ⟨hF.below.os, hF.below.tape, hF.below.output, hF.below.size, hF.below.block⟩
    simp only [List.mem_cons, List.not_mem_nil, or_false] at hi'
    rcases hi' with rfl | rfl | rfl | rfl
    · refine ⟨_, rfl, rfl, fun K hK => ?_⟩
      refine oper_load_tree (t := 18) (p := ⟨R, 1, none⟩) (by rfl) (by rw [hF.eval (by decide)]; kernel_rfl) (HD.out.below hb').cells.2.1 ?_
      exact hK _ _ (Below.refl _ _) trivial rfl fun _ _ _ _ => ⟨trivial, trivial⟩
    · refine ⟨_, rfl, rfl, fun K hK => ?_⟩
      have e1 : a'.tmps.getD 19 undef = .slice x.b.A x.b.l.length x.b.c := hpre 6 (by simp) (by kernel_rfl)
      have hc := set_walk x.b p L w' ((HD.out.below hb').b) (HLT.out.below hb') HS.out.nb HLn.out HS.out.sb HLd.out HLw.out
      refine oper_call3 148 _ _ (by rfl) Tryz.func148 (by kernel_rfl) (by kernel_rfl) [.slice x.b.A x.b.l.length x.b.c, .string p, .slice L.A L.l.length L.c] (by show [a'.eval (.tmp 19), a'.eval (.tmp 20), a'.eval (.tmp 21)] = _; rw [show a'.eval (.tmp 19) = _ from e1, hF.eval (by decide), hF.eval (by decide)]; kernel_rfl) hc ?_
      rintro e w2 ⟨⟨B, d, K', rfl, ht, he⟩, hb2⟩
      exact ⟨_, rfl, hK _ _ hb2 trivial ⟨B, d, K', rfl, ht, he⟩ fun _ _ _ _ => ⟨trivial, trivial⟩⟩
    · refine ⟨_, rfl, rfl, fun K hK => ?_⟩
      refine oper_load_tree (t := 26) (p := ⟨R, 2, none⟩) (by rfl) (by rw [hF.eval (by decide)]; kernel_rfl) (HD.out.below hb').cells.2.2.1 ?_
      exact hK _ _ (Below.refl _ _) trivial rfl fun _ _ _ _ => ⟨trivial, trivial⟩
    · refine ⟨_, rfl, rfl, fun K hK => ?_⟩
      have e1 : a'.tmps.getD 27 undef = .slice x.o.A x.o.l.length x.o.c := hpre 14 (by simp) (by kernel_rfl)
      have hc := set_walk x.o p L w' ((HD.out.below hb').o) (HLT.out.below hb') HS.out.no HLn.out HS.out.so HLd.out HLw.out
      refine oper_call3 148 _ _ (by rfl) Tryz.func148 (by kernel_rfl) (by kernel_rfl) [.slice x.o.A x.o.l.length x.o.c, .string p, .slice L.A L.l.length L.c] (by show [a'.eval (.tmp 27), a'.eval (.tmp 28), a'.eval (.tmp 29)] = _; rw [show a'.eval (.tmp 27) = _ from e1, hF.eval (by decide), hF.eval (by decide)]; kernel_rfl) hc ?_
      rintro e w2 ⟨⟨B, d, K', rfl, ht, he⟩, hb2⟩
      exact ⟨_, rfl, hK _ _ hb2 trivial ⟨B, d, K', rfl, ht, he⟩ fun _ _ _ _ => ⟨trivial, trivial⟩⟩
  case fin =>
    intro a' w' hF _ hG _
    have hb' : Below W0.heap.size W0 w' := ⟨hF.below.os, hF.below.tape, hF.below.output, hF.below.size, hF.below.block⟩
    have l0 : a'.tmps.getD 19 undef = .slice x.b.A x.b.l.length x.b.c := hG 6 (by simp)
    have g0 : TreeG (setA (x.b.l.map Itm.abs) p.toList (L.l.map Itm.abs)) (a'.tmps.getD 22 undef) w' := hG 9 (by simp)
    obtain ⟨B0, d0, K0, e0, ht0, he0⟩ := g0
    have l1 : a'.tmps.getD 27 undef = .slice x.o.A x.o.l.length x.o.c := hG 14 (by simp)
    have g1 : TreeG (setA (x.o.l.map Itm.abs) p.toList (L.l.map Itm.abs)) (a'.tmps.getD 30 undef) w' := hG 17 (by simp)
    obtain ⟨B1, d1, K1, e1, ht1, he1⟩ := g1
    have hact := hF.act
    simp only [List.foldl_cons, List.foldl_nil, dfirstDst, l0, e0, l1, e1, List.setIfInBounds_toArray, List.set_cons_zero, List.set_cons_succ] at hact
    clear hF hG l0 e0 l1 e1
    subst hact
    have HD0 := hid (HD.out.below hb')
    have HK0 := hid (KR.then (Keep.refl (fun k => k ≠ R) W0) hb')
    clear hb'
    have HT0 := hid ht0
    have HE0 := hid he0
    have HT1 := hid ht1
    have HE1 := hid he1
    clear ht0 he0 ht1 he1
    refine take_slot 18 31 (v := ?_) rfl rfl (by kernel_rfl) (by kernel_rfl) (by kernel_rfl) (fun _ _ _ h => h) (Or.inl ⟨by rfl, by intro W hSw; (try dsimp only at hSw); go_simp; try with_reducible rfl⟩) (by assumption) ?_
    simp only [Act.put, List.setIfInBounds_toArray, List.set_cons_zero, List.set_cons_succ]
    refine take_slot 19 32 (v := ?_) rfl rfl (by kernel_rfl) (by kernel_rfl) (by kernel_rfl) (fun _ _ _ h => h) (Or.inl ⟨by rfl, by intro W hSw; (try dsimp only at hSw); go_simp; try with_reducible rfl⟩) (by assumption) ?_
    simp only [Act.put, List.setIfInBounds_toArray, List.set_cons_zero, List.set_cons_succ]
    refine take_slot 20 33 (v := ?_) rfl rfl (by kernel_rfl) (by kernel_rfl) (by kernel_rfl) (fun _ _ _ h => h) (Or.inl ⟨by rfl, by intro W hSw; (try dsimp only at hSw); go_simp; try with_reducible rfl⟩) (by assumption) ?_
    simp only [Act.put, List.setIfInBounds_toArray, List.set_cons_zero, List.set_cons_succ]
    obtain ⟨s0, s1, s2, s3, sf⟩ := HD0.out.cells
    have f0 := sf 1
    refine wpAnyH_ready (rs := [21]) (by kernel_rfl) (by simp) ?_
    refine AllReadyH.cons (o := _) rfl (fun K hK => ?_) AllReadyH.nil
    go_simp
    refine hK.out _ _ trivial (fun _ => ?_)
    try simp only [Act.put]
    have hk1 : KR R w' (w'.setCell ⟨R, 1, none⟩ (.slice B0 K0.length d0)) := KR.setR (Keep.refl _ _) 1 _
    have HD1 := hid (HD0.out.setB HT0.out)
    have HK1 := hid (HK0.out.trans hk1)
    replace HT1 := hid (HD0.out.tree HT1.out hk1)
    clear hK K s0 s1 s2 s3 sf f0 hk1 HD0 HK0
    generalize (w'.setCell ⟨R, 1, none⟩ (.slice B0 K0.length d0)) = v1 at *
    refine take_slot 22 34 (v := ?_) rfl rfl (by kernel_rfl) (by kernel_rfl) (by kernel_rfl) (fun _ _ _ h => h) (Or.inl ⟨by rfl, by intro W hSw; (try dsimp only at hSw); go_simp; try with_reducible rfl⟩) (by assumption) ?_
    simp only [Act.put, List.setIfInBounds_toArray, List.set_cons_zero, List.set_cons_succ]
    refine take_slot 23 35 (v := ?_) rfl rfl (by kernel_rfl) (by kernel_rfl) (by kernel_rfl) (fun _ _ _ h => h) (Or.inl ⟨by rfl, by intro W hSw; (try dsimp only at hSw); go_simp; try with_reducible rfl⟩) (by assumption) ?_
    simp only [Act.put, List.setIfInBounds_toArray, List.set_cons_zero, List.set_cons_succ]
    refine take_slot 24 36 (v := ?_) rfl rfl (by kernel_rfl) (by kernel_rfl) (by kernel_rfl) (fun _ _ _ h => h) (Or.inl ⟨by rfl, by intro W hSw; (try dsimp only at hSw); go_simp; try with_reducible rfl⟩) (by assumption) ?_
    simp only [Act.put, List.setIfInBounds_toArray, List.set_cons_zero, List.set_cons_succ]
    obtain ⟨s0, s1, s2, s3, sf⟩ := HD1.out.cells
    have f0 := sf 2
    refine wpAnyH_ready (rs := [25]) (by kernel_rfl) (by simp) ?_
    refine AllReadyH.cons (o := _) rfl (fun K hK => ?_) AllReadyH.nil
    go_simp
    refine hK.out _ _ trivial (fun _ => ?_)
    try simp only [Act.put]
    have hk2 : KR R v1 (v1.setCell ⟨R, 2, none⟩ (.slice B1 K1.length d1)) := KR.setR (Keep.refl _ _) 2 _
    have HD2 := hid (HD1.out.setO HT1.out)
    have HK2 := hid (HK1.out.trans hk2)
    clear hK K s0 s1 s2 s3 sf f0 hk2 HD1 HK1
    generalize (v1.setCell ⟨R, 2, none⟩ (.slice B1 K1.length d1)) = v2 at *
    refine wpAnyH_done (by kernel_rfl) ?_ _
    clear hHeld
    have HAB : HidP (RI.abs { x with b := ⟨B0, d0, K0⟩, o := ⟨B1, d1, K1⟩ } = firstA x.abs p.toList) := hid (by
      unfold firstA RI.abs
      simp only
      rw [HE0.out, HE1.out, HLe.out])
    go_wp2_with fail
    go_ret
    exact ⟨rfl, ⟨_, HD2.out, HAB.out, rfl⟩, HKW.out.trans HK2.out⟩

def dsecondDst : Nat → Nat
  | 6 => 19 | 9 => 22
  | 14 => 27 | 17 => 30
  | _ => 0
def dsecondG (x : RI) (p : Txt) (l : List AIt) : Nat → Value → World → Prop
  | 6 => fun v _ => v = .slice x.a.A x.a.l.length x.a.c | 9 => TreeG (setA (x.a.l.map Itm.abs) p l)
  | 14 => fun v _ => v = .slice x.o.A x.o.l.length x.o.c | 17 => TreeG (setA (x.o.l.map Itm.abs) p l)
  | _ => fun _ _ => True
theorem dsecondG_mono {x : RI} {p : Txt} {l : List AIt} (j : Nat) (v : Value) (w w' : World) (hb : Below w.heap.size w w') (h : dsecondG x p l j v w) : dsecondG x p l j v w' := by
  unfold dsecondG at h ⊢
  split at h <;> first | exact h | exact TreeG.mono hb h
set_option maxRecDepth 100000 in
set_option maxHeartbeats 4000000 in
theorem dsecond_walk (R : Nat) (x : RI) (p : ByteArray) (W : World) (h : DB R x W) (hs : DS x) :
    Calls Tryz.prog 115 #[.pointer (some ⟨R, 0, none⟩), .string p] W fun e w' => e = .returned (.bool true) ∧ (∃ x', DB R x' w' ∧ x'.abs = secondA x.abs p.toList ∧ x'.con = x.con) ∧ KR R W w' := by
  have HU := hid (under_walk x.b.A x.b.c x.b.l p W h.b)
  have HD := hid h
  have HS := hid hs
  obtain ⟨p0, p1, p2, p3, pf⟩ := h.cells
  clear h hs
  go_enter Tryz.func115, Tryz.ntmps115
  go_wp2_with fail
  refine HU.out.mono ?_
  rintro e W0 ⟨⟨LA, Lc, Ll, rfl, hlt, hle⟩, hb0⟩
  have hll : Ll.length ≤ 100000 := by
    have h1 := congrArg List.length hle
    rw [List.length_map] at h1
    have h2 : (underA (x.b.l.map Itm.abs) p.toList).length ≤ (x.b.l.map Itm.abs).length := List.length_filter_le _ _
    rw [List.length_map] at h2
    have := HS.out.nb
    omega
  obtain ⟨u1, u2⟩ := under_facts HS.out.sb p.toList
  rw [← hle] at u1 u2
  replace HD := hid (HD.out.below hb0)
  have HKW := hid (KR.then (Keep.refl (fun k => k ≠ R) W) hb0)
  obtain ⟨L, hL⟩ : ∃ L : TrI, L = ⟨LA, Lc, Ll⟩ := ⟨_, rfl⟩
  have HLT : HidP (Tr W0 L.A L.c L.l) := hid (by rw [hL]; exact hlt)
  have HLe : HidP (L.l.map Itm.abs = underA (x.b.l.map Itm.abs) p.toList) := hid (by rw [hL]; exact hle)
  have HLn : HidP (L.l.length ≤ 100000) := hid (by rw [hL]; exact hll)
  have HLd : HidP ((L.l.map Itm.abs).Pairwise fun x y => x.p ≠ y.p) := hid (by rw [hL]; exact u1)
  have HLw : HidP (∀ x ∈ L.l.map Itm.abs, withinA p.toList x.p = true) := hid (by rw [hL]; exact u2)
  obtain rfl : LA = L.A := by rw [hL]
  obtain rfl : Lc = L.c := by rw [hL]
  obtain rfl : Ll = L.l := by rw [hL]
  clear hL hlt hle hll u1 u2 hb0 p0 p1 p2 p3 pf HU
  go_wp2_with fail
  refine wp_region_held_drew (S := fun _ => True) (by kernel_rfl) trivial (fun hHeld => ?_)
  refine take_slot 0 13 (v := ?_) rfl rfl (by kernel_rfl) (by kernel_rfl) (by kernel_rfl) (fun _ _ _ h => h) (Or.inl ⟨by rfl, by intro W hSw; (try dsimp only at hSw); go_simp; try with_reducible rfl⟩) (by assumption) ?_
  simp only [Act.put, List.setIfInBounds_toArray, List.set_cons_zero, List.set_cons_succ]
  refine take_slot 1 14 (v := ?_) rfl rfl (by kernel_rfl) (by kernel_rfl) (by kernel_rfl) (fun _ _ _ h => h) (Or.inl ⟨by rfl, by intro W hSw; (try dsimp only at hSw); go_simp; try with_reducible rfl⟩) (by assumption) ?_
  simp only [Act.put, List.setIfInBounds_toArray, List.set_cons_zero, List.set_cons_succ]
  refine take_slot 2 15 (v := ?_) rfl rfl (by kernel_rfl) (by kernel_rfl) (by kernel_rfl) (fun _ _ _ h => h) (Or.inl ⟨by rfl, by intro W hSw; (try dsimp only at hSw); go_simp; try with_reducible rfl⟩) (by assumption) ?_
  simp only [Act.put, List.setIfInBounds_toArray, List.set_cons_zero, List.set_cons_succ]
  refine take_slot 3 16 (v := ?_) rfl rfl (by kernel_rfl) (by kernel_rfl) (by kernel_rfl) (fun _ _ _ h => h) (Or.inl ⟨by rfl, by intro W hSw; (try dsimp only at hSw); go_simp; try with_reducible rfl⟩) (by assumption) ?_
  simp only [Act.put, List.setIfInBounds_toArray, List.set_cons_zero, List.set_cons_succ]
  refine take_slot 4 17 (v := ?_) rfl rfl (by kernel_rfl) (by kernel_rfl) (by kernel_rfl) (fun _ _ _ h => h) (Or.inl ⟨by rfl, by intro W hSw; (try dsimp only at hSw); go_simp; try with_reducible rfl⟩) (by assumption) ?_
  simp only [Act.put, List.setIfInBounds_toArray, List.set_cons_zero, List.set_cons_succ]
  refine take_slot 5 18 (v := ?_) rfl rfl (by kernel_rfl) (by kernel_rfl) (by kernel_rfl) (fun _ _ _ h => h) (Or.inl ⟨by rfl, by intro W hSw; (try dsimp only at hSw); go_simp; try with_reducible rfl⟩) (by assumption) ?_
  simp only [Act.put, List.setIfInBounds_toArray, List.set_cons_zero, List.set_cons_succ]
  refine take_slot 7 20 (v := ?_) rfl rfl (by kernel_rfl) (by kernel_rfl) (by kernel_rfl) (fun _ _ _ h => h) (Or.inl ⟨by rfl, by intro W hSw; (try dsimp only at hSw); go_simp; try with_reducible rfl⟩) (by assumption) ?_
  simp only [Act.put, List.setIfInBounds_toArray, List.set_cons_zero, List.set_cons_succ]
  refine take_slot 8 21 (v := ?_) rfl rfl (by kernel_rfl) (by kernel_rfl) (by kernel_rfl) (fun _ _ _ h => h) (Or.inl ⟨by rfl, by intro W hSw; (try dsimp only at hSw); go_simp; try with_reducible rfl⟩) (by assumption) ?_
  simp only [Act.put, List.setIfInBounds_toArray, List.set_cons_zero, List.set_cons_succ]
  refine take_slot 10 23 (v := ?_) rfl rfl (by kernel_rfl) (by kernel_rfl) (by kernel_rfl) (fun _ _ _ h => h) (Or.inl ⟨by rfl, by intro W hSw; (try dsimp only at hSw); go_simp; try with_reducible rfl⟩) (by assumption) ?_
  simp only [Act.put, List.setIfInBounds_toArray, List.set_cons_zero, List.set_cons_succ]
  refine take_slot 11 24 (v := ?_) rfl rfl (by kernel_rfl) (by kernel_rfl) (by kernel_rfl) (fun _ _ _ h => h) (Or.inl ⟨by rfl, by intro W hSw; (try dsimp only at hSw); go_simp; try with_reducible rfl⟩) (by assumption) ?_
  simp only [Act.put, List.setIfInBounds_toArray, List.set_cons_zero, List.set_cons_succ]
  refine take_slot 12 25 (v := ?_) rfl rfl (by kernel_rfl) (by kernel_rfl) (by kernel_rfl) (fun _ _ _ h => h) (Or.inl ⟨by rfl, by intro W hSw; (try dsimp only at hSw); go_simp; try with_reducible rfl⟩) (by assumption) ?_
  simp only [Act.put, List.setIfInBounds_toArray, List.set_cons_zero, List.set_cons_succ]
  refine take_slot 13 26 (v := ?_) rfl rfl (by kernel_rfl) (by kernel_rfl) (by kernel_rfl) (fun _ _ _ h => h) (Or.inl ⟨by rfl, by intro W hSw; (try dsimp only at hSw); go_simp; try with_reducible rfl⟩) (by assumption) ?_
  simp only [Act.put, List.setIfInBounds_toArray, List.set_cons_zero, List.set_cons_succ]
  refine take_slot 15 28 (v := ?_) rfl rfl (by kernel_rfl) (by kernel_rfl) (by kernel_rfl) (fun _ _ _ h => h) (Or.inl ⟨by rfl, by intro W hSw; (try dsimp only at hSw); go_simp; try with_reducible rfl⟩) (by assumption) ?_
  simp only [Act.put, List.setIfInBounds_toArray, List.set_cons_zero, List.set_cons_succ]
  refine take_slot 16 29 (v := ?_) rfl rfl (by kernel_rfl) (by kernel_rfl) (by kernel_rfl) (fun _ _ _ h => h) (Or.inl ⟨by rfl, by intro W hSw; (try dsimp only at hSw); go_simp; try with_reducible rfl⟩) (by assumption) ?_
  simp only [Act.put, List.setIfInBounds_toArray, List.set_cons_zero, List.set_cons_succ]
  refine flow_region (ks := [6, 9, 14, 17]) dsecondDst (dsecondG x p.toList (L.l.map Itm.abs)) (fun _ _ _ _ => True) 8 (by kernel_rfl) (by kernel_rfl) (by kernel_rfl) (by decide) (by simp [dsecondDst]) (by decide) trivial dsecondG_mono ?step ?fin
  case step =>
    intro i' hi' a' w' hF _ hpre
    have hb' : Below W0.heap.size W0 w' := ⟨hF.below.os, hF.below.tape, hF.below.output, hF.below.size, hF.below.block⟩
    simp only [List.mem_cons, List.not_mem_nil, or_false] at hi'
    rcases hi' with rfl | rfl | rfl | rfl
    · refine ⟨_, rfl, rfl, fun K hK => ?_⟩
      refine oper_load_tree (t := 18) (p := ⟨R, 0, none⟩) (by rfl) (by rw [hF.eval (by decide)]; kernel_rfl) (HD.out.below hb').cells.1 ?_
      exact hK _ _ (Below.refl _ _) trivial rfl fun _ _ _ _ => ⟨trivial, trivial⟩
    · refine ⟨_, rfl, rfl, fun K hK => ?_⟩
      have e1 : a'.tmps.getD 19 undef = .slice x.a.A x.a.l.length x.a.c := hpre 6 (by simp) (by kernel_rfl)
      have hc := set_walk x.a p L w' ((HD.out.below hb').a) (HLT.out.below hb') HS.out.na HLn.out HS.out.sa HLd.out HLw.out
      refine oper_call3 148 _ _ (by rfl) Tryz.func148 (by kernel_rfl) (by kernel_rfl) [.slice x.a.A x.a.l.length x.a.c, .string p, .slice L.A L.l.length L.c] (by show [a'.eval (.tmp 19), a'.eval (.tmp 20), a'.eval (.tmp 21)] = _; rw [show a'.eval (.tmp 19) = _ from e1, hF.eval (by decide), hF.eval (by decide)]; kernel_rfl) hc ?_
      rintro e w2 ⟨⟨B, d, K', rfl, ht, he⟩, hb2⟩
      exact ⟨_, rfl, hK _ _ hb2 trivial ⟨B, d, K', rfl, ht, he⟩ fun _ _ _ _ => ⟨trivial, trivial⟩⟩
    · refine ⟨_, rfl, rfl, fun K hK => ?_⟩
      refine oper_load_tree (t := 26) (p := ⟨R, 2, none⟩) (by rfl) (by rw [hF.eval (by decide)]; kernel_rfl) (HD.out.below hb').cells.2.2.1 ?_
      exact hK _ _ (Below.refl _ _) trivial rfl fun _ _ _ _ => ⟨trivial, trivial⟩
    · refine ⟨_, rfl, rfl, fun K hK => ?_⟩
      have e1 : a'.tmps.getD 27 undef = .slice x.o.A x.o.l.length x.o.c := hpre 14 (by simp) (by kernel_rfl)
      have hc := set_walk x.o p L w' ((HD.out.below hb').o) (HLT.out.below hb') HS.out.no HLn.out HS.out.so HLd.out HLw.out
      refine oper_call3 148 _ _ (by rfl) Tryz.func148 (by kernel_rfl) (by kernel_rfl) [.slice x.o.A x.o.l.length x.o.c, .string p, .slice L.A L.l.length L.c] (by show [a'.eval (.tmp 27), a'.eval (.tmp 28), a'.eval (.tmp 29)] = _; rw [show a'.eval (.tmp 27) = _ from e1, hF.eval (by decide), hF.eval (by decide)]; kernel_rfl) hc ?_
      rintro e w2 ⟨⟨B, d, K', rfl, ht, he⟩, hb2⟩
      exact ⟨_, rfl, hK _ _ hb2 trivial ⟨B, d, K', rfl, ht, he⟩ fun _ _ _ _ => ⟨trivial, trivial⟩⟩
  case fin =>
    intro a' w' hF _ hG _
    have hb' : Below W0.heap.size W0 w' := ⟨hF.below.os, hF.below.tape, hF.below.output, hF.below.size, hF.below.block⟩
    have l0 : a'.tmps.getD 19 undef = .slice x.a.A x.a.l.length x.a.c := hG 6 (by simp)
    have g0 : TreeG (setA (x.a.l.map Itm.abs) p.toList (L.l.map Itm.abs)) (a'.tmps.getD 22 undef) w' := hG 9 (by simp)
    obtain ⟨B0, d0, K0, e0, ht0, he0⟩ := g0
    have l1 : a'.tmps.getD 27 undef = .slice x.o.A x.o.l.length x.o.c := hG 14 (by simp)
    have g1 : TreeG (setA (x.o.l.map Itm.abs) p.toList (L.l.map Itm.abs)) (a'.tmps.getD 30 undef) w' := hG 17 (by simp)
    obtain ⟨B1, d1, K1, e1, ht1, he1⟩ := g1
    have hact := hF.act
    simp only [List.foldl_cons, List.foldl_nil, dsecondDst, l0, e0, l1, e1, List.setIfInBounds_toArray, List.set_cons_zero, List.set_cons_succ] at hact
    clear hF hG l0 e0 l1 e1
    subst hact
    have HD0 := hid (HD.out.below hb')
    have HK0 := hid (KR.then (Keep.refl (fun k => k ≠ R) W0) hb')
    clear hb'
    have HT0 := hid ht0
    have HE0 := hid he0
    have HT1 := hid ht1
    have HE1 := hid he1
    clear ht0 he0 ht1 he1
    refine take_slot 18 31 (v := ?_) rfl rfl (by kernel_rfl) (by kernel_rfl) (by kernel_rfl) (fun _ _ _ h => h) (Or.inl ⟨by rfl, by intro W hSw; (try dsimp only at hSw); go_simp; try with_reducible rfl⟩) (by assumption) ?_
    simp only [Act.put, List.setIfInBounds_toArray, List.set_cons_zero, List.set_cons_succ]
    refine take_slot 19 32 (v := ?_) rfl rfl (by kernel_rfl) (by kernel_rfl) (by kernel_rfl) (fun _ _ _ h => h) (Or.inl ⟨by rfl, by intro W hSw; (try dsimp only at hSw); go_simp; try with_reducible rfl⟩) (by assumption) ?_
    simp only [Act.put, List.setIfInBounds_toArray, List.set_cons_zero, List.set_cons_succ]
    refine take_slot 20 33 (v := ?_) rfl rfl (by kernel_rfl) (by kernel_rfl) (by kernel_rfl) (fun _ _ _ h => h) (Or.inl ⟨by rfl, by intro W hSw; (try dsimp only at hSw); go_simp; try with_reducible rfl⟩) (by assumption) ?_
    simp only [Act.put, List.setIfInBounds_toArray, List.set_cons_zero, List.set_cons_succ]
    obtain ⟨s0, s1, s2, s3, sf⟩ := HD0.out.cells
    have f0 := sf 0
    refine wpAnyH_ready (rs := [21]) (by kernel_rfl) (by simp) ?_
    refine AllReadyH.cons (o := _) rfl (fun K hK => ?_) AllReadyH.nil
    go_simp
    refine hK.out _ _ trivial (fun _ => ?_)
    try simp only [Act.put]
    have hk1 : KR R w' (w'.setCell ⟨R, 0, none⟩ (.slice B0 K0.length d0)) := KR.setR (Keep.refl _ _) 0 _
    have HD1 := hid (HD0.out.setA HT0.out)
    have HK1 := hid (HK0.out.trans hk1)
    replace HT1 := hid (HD0.out.tree HT1.out hk1)
    clear hK K s0 s1 s2 s3 sf f0 hk1 HD0 HK0
    generalize (w'.setCell ⟨R, 0, none⟩ (.slice B0 K0.length d0)) = v1 at *
    refine take_slot 22 34 (v := ?_) rfl rfl (by kernel_rfl) (by kernel_rfl) (by kernel_rfl) (fun _ _ _ h => h) (Or.inl ⟨by rfl, by intro W hSw; (try dsimp only at hSw); go_simp; try with_reducible rfl⟩) (by assumption) ?_
    simp only [Act.put, List.setIfInBounds_toArray, List.set_cons_zero, List.set_cons_succ]
    refine take_slot 23 35 (v := ?_) rfl rfl (by kernel_rfl) (by kernel_rfl) (by kernel_rfl) (fun _ _ _ h => h) (Or.inl ⟨by rfl, by intro W hSw; (try dsimp only at hSw); go_simp; try with_reducible rfl⟩) (by assumption) ?_
    simp only [Act.put, List.setIfInBounds_toArray, List.set_cons_zero, List.set_cons_succ]
    refine take_slot 24 36 (v := ?_) rfl rfl (by kernel_rfl) (by kernel_rfl) (by kernel_rfl) (fun _ _ _ h => h) (Or.inl ⟨by rfl, by intro W hSw; (try dsimp only at hSw); go_simp; try with_reducible rfl⟩) (by assumption) ?_
    simp only [Act.put, List.setIfInBounds_toArray, List.set_cons_zero, List.set_cons_succ]
    obtain ⟨s0, s1, s2, s3, sf⟩ := HD1.out.cells
    have f0 := sf 2
    refine wpAnyH_ready (rs := [25]) (by kernel_rfl) (by simp) ?_
    refine AllReadyH.cons (o := _) rfl (fun K hK => ?_) AllReadyH.nil
    go_simp
    refine hK.out _ _ trivial (fun _ => ?_)
    try simp only [Act.put]
    have hk2 : KR R v1 (v1.setCell ⟨R, 2, none⟩ (.slice B1 K1.length d1)) := KR.setR (Keep.refl _ _) 2 _
    have HD2 := hid (HD1.out.setO HT1.out)
    have HK2 := hid (HK1.out.trans hk2)
    clear hK K s0 s1 s2 s3 sf f0 hk2 HD1 HK1
    generalize (v1.setCell ⟨R, 2, none⟩ (.slice B1 K1.length d1)) = v2 at *
    refine wpAnyH_done (by kernel_rfl) ?_ _
    clear hHeld
    have HAB : HidP (RI.abs { x with a := ⟨B0, d0, K0⟩, o := ⟨B1, d1, K1⟩ } = secondA x.abs p.toList) := hid (by
      unfold secondA RI.abs
      simp only
      rw [HE0.out, HE1.out, HLe.out])
    go_wp2_with fail
    go_ret
    exact ⟨rfl, ⟨_, HD2.out, HAB.out, rfl⟩, HKW.out.trans HK2.out⟩

def dnoneDst : Nat → Nat
  | 7 => 12 | 9 => 14
  | 14 => 19 | 16 => 21
  | 21 => 26 | 23 => 28
  | _ => 0
def dnoneG (x : RI) (p : Txt) (l : List AIt) : Nat → Value → World → Prop
  | 7 => fun v _ => v = .slice x.a.A x.a.l.length x.a.c | 9 => TreeG (setA (x.a.l.map Itm.abs) p l)
  | 14 => fun v _ => v = .slice x.b.A x.b.l.length x.b.c | 16 => TreeG (setA (x.b.l.map Itm.abs) p l)
  | 21 => fun v _ => v = .slice x.o.A x.o.l.length x.o.c | 23 => TreeG (setA (x.o.l.map Itm.abs) p l)
  | _ => fun _ _ => True
theorem dnoneG_mono {x : RI} {p : Txt} {l : List AIt} (j : Nat) (v : Value) (w w' : World) (hb : Below w.heap.size w w') (h : dnoneG x p l j v w) : dnoneG x p l j v w' := by
  unfold dnoneG at h ⊢
  split at h <;> first | exact h | exact TreeG.mono hb h
set_option maxRecDepth 100000 in
set_option maxHeartbeats 4000000 in
theorem dnone_walk (R : Nat) (x : RI) (p : ByteArray) (W0 : World) (h : DB R x W0) (hs : DS x) :
    Calls Tryz.prog 117 #[.pointer (some ⟨R, 0, none⟩), .string p] W0 fun e w' => e = .returned (.bool true) ∧ (∃ x', DB R x' w' ∧ x'.abs = noneA x.abs p.toList ∧ x'.con = x.con) ∧ KR R W0 w' := by
  have HD := hid h
  have HS := hid hs
  have HLT : HidP (Tr W0 (⟨none, 0, []⟩ : TrI).A (⟨none, 0, []⟩ : TrI).c (⟨none, 0, []⟩ : TrI).l) := hid (Tr.none _)
  have HLn : HidP ((⟨none, 0, []⟩ : TrI).l.length ≤ 100000) := hid (by simp)
  have HLd : HidP (((⟨none, 0, []⟩ : TrI).l.map Itm.abs).Pairwise fun x y => x.p ≠ y.p) := hid List.Pairwise.nil
  have HLw : HidP (∀ x ∈ (⟨none, 0, []⟩ : TrI).l.map Itm.abs, withinA p.toList x.p = true) := hid (by simp)
  clear h hs
  go_enter Tryz.func117, Tryz.ntmps117
  go_wp2_with fail
  refine wp_region_held_drew (S := fun _ => True) (by kernel_rfl) trivial (fun hHeld => ?_)
  refine take_slot 0 5 (v := ?_) rfl rfl (by kernel_rfl) (by kernel_rfl) (by kernel_rfl) (fun _ _ _ h => h) (Or.inl ⟨by rfl, by intro W hSw; (try dsimp only at hSw); go_simp; try with_reducible rfl⟩) (by assumption) ?_
  simp only [Act.put, List.setIfInBounds_toArray, List.set_cons_zero, List.set_cons_succ]
  refine take_slot 1 6 (v := ?_) rfl rfl (by kernel_rfl) (by kernel_rfl) (by kernel_rfl) (fun _ _ _ h => h) (Or.inl ⟨by rfl, by intro W hSw; (try dsimp only at hSw); go_simp; try with_reducible rfl⟩) (by assumption) ?_
  simp only [Act.put, List.setIfInBounds_toArray, List.set_cons_zero, List.set_cons_succ]
  refine take_slot 2 7 (v := ?_) rfl rfl (by kernel_rfl) (by kernel_rfl) (by kernel_rfl) (fun _ _ _ h => h) (Or.inl ⟨by rfl, by intro W hSw; (try dsimp only at hSw); go_simp; try with_reducible rfl⟩) (by assumption) ?_
  simp only [Act.put, List.setIfInBounds_toArray, List.set_cons_zero, List.set_cons_succ]
  refine take_slot 3 8 (v := ?_) rfl rfl (by kernel_rfl) (by kernel_rfl) (by kernel_rfl) (fun _ _ _ h => h) (Or.inl ⟨by rfl, by intro W hSw; (try dsimp only at hSw); go_simp; try with_reducible rfl⟩) (by assumption) ?_
  simp only [Act.put, List.setIfInBounds_toArray, List.set_cons_zero, List.set_cons_succ]
  refine take_slot 4 9 (v := ?_) rfl rfl (by kernel_rfl) (by kernel_rfl) (by kernel_rfl) (fun _ _ _ h => h) (Or.inl ⟨by rfl, by intro W hSw; (try dsimp only at hSw); go_simp; try with_reducible rfl⟩) (by assumption) ?_
  simp only [Act.put, List.setIfInBounds_toArray, List.set_cons_zero, List.set_cons_succ]
  refine take_slot 5 10 (v := ?_) rfl rfl (by kernel_rfl) (by kernel_rfl) (by kernel_rfl) (fun _ _ _ h => h) (Or.inl ⟨by rfl, by intro W hSw; (try dsimp only at hSw); go_simp; try with_reducible rfl⟩) (by assumption) ?_
  simp only [Act.put, List.setIfInBounds_toArray, List.set_cons_zero, List.set_cons_succ]
  refine take_slot 6 11 (v := ?_) rfl rfl (by kernel_rfl) (by kernel_rfl) (by kernel_rfl) (fun _ _ _ h => h) (Or.inl ⟨by rfl, by intro W hSw; (try dsimp only at hSw); go_simp; try with_reducible rfl⟩) (by assumption) ?_
  simp only [Act.put, List.setIfInBounds_toArray, List.set_cons_zero, List.set_cons_succ]
  refine take_slot 8 13 (v := ?_) rfl rfl (by kernel_rfl) (by kernel_rfl) (by kernel_rfl) (fun _ _ _ h => h) (Or.inl ⟨by rfl, by intro W hSw; (try dsimp only at hSw); go_simp; try with_reducible rfl⟩) (by assumption) ?_
  simp only [Act.put, List.setIfInBounds_toArray, List.set_cons_zero, List.set_cons_succ]
  refine take_slot 10 15 (v := ?_) rfl rfl (by kernel_rfl) (by kernel_rfl) (by kernel_rfl) (fun _ _ _ h => h) (Or.inl ⟨by rfl, by intro W hSw; (try dsimp only at hSw); go_simp; try with_reducible rfl⟩) (by assumption) ?_
  simp only [Act.put, List.setIfInBounds_toArray, List.set_cons_zero, List.set_cons_succ]
  refine take_slot 11 16 (v := ?_) rfl rfl (by kernel_rfl) (by kernel_rfl) (by kernel_rfl) (fun _ _ _ h => h) (Or.inl ⟨by rfl, by intro W hSw; (try dsimp only at hSw); go_simp; try with_reducible rfl⟩) (by assumption) ?_
  simp only [Act.put, List.setIfInBounds_toArray, List.set_cons_zero, List.set_cons_succ]
  refine take_slot 12 17 (v := ?_) rfl rfl (by kernel_rfl) (by kernel_rfl) (by kernel_rfl) (fun _ _ _ h => h) (Or.inl ⟨by rfl, by intro W hSw; (try dsimp only at hSw); go_simp; try with_reducible rfl⟩) (by assumption) ?_
  simp only [Act.put, List.setIfInBounds_toArray, List.set_cons_zero, List.set_cons_succ]
  refine take_slot 13 18 (v := ?_) rfl rfl (by kernel_rfl) (by kernel_rfl) (by kernel_rfl) (fun _ _ _ h => h) (Or.inl ⟨by rfl, by intro W hSw; (try dsimp only at hSw); go_simp; try with_reducible rfl⟩) (by assumption) ?_
  simp only [Act.put, List.setIfInBounds_toArray, List.set_cons_zero, List.set_cons_succ]
  refine take_slot 15 20 (v := ?_) rfl rfl (by kernel_rfl) (by kernel_rfl) (by kernel_rfl) (fun _ _ _ h => h) (Or.inl ⟨by rfl, by intro W hSw; (try dsimp only at hSw); go_simp; try with_reducible rfl⟩) (by assumption) ?_
  simp only [Act.put, List.setIfInBounds_toArray, List.set_cons_zero, List.set_cons_succ]
  refine take_slot 17 22 (v := ?_) rfl rfl (by kernel_rfl) (by kernel_rfl) (by kernel_rfl) (fun _ _ _ h => h) (Or.inl ⟨by rfl, by intro W hSw; (try dsimp only at hSw); go_simp; try with_reducible rfl⟩) (by assumption) ?_
  simp only [Act.put, List.setIfInBounds_toArray, List.set_cons_zero, List.set_cons_succ]
  refine take_slot 18 23 (v := ?_) rfl rfl (by kernel_rfl) (by kernel_rfl) (by kernel_rfl) (fun _ _ _ h => h) (Or.inl ⟨by rfl, by intro W hSw; (try dsimp only at hSw); go_simp; try with_reducible rfl⟩) (by assumption) ?_
  simp only [Act.put, List.setIfInBounds_toArray, List.set_cons_zero, List.set_cons_succ]
  refine take_slot 19 24 (v := ?_) rfl rfl (by kernel_rfl) (by kernel_rfl) (by kernel_rfl) (fun _ _ _ h => h) (Or.inl ⟨by rfl, by intro W hSw; (try dsimp only at hSw); go_simp; try with_reducible rfl⟩) (by assumption) ?_
  simp only [Act.put, List.setIfInBounds_toArray, List.set_cons_zero, List.set_cons_succ]
  refine take_slot 20 25 (v := ?_) rfl rfl (by kernel_rfl) (by kernel_rfl) (by kernel_rfl) (fun _ _ _ h => h) (Or.inl ⟨by rfl, by intro W hSw; (try dsimp only at hSw); go_simp; try with_reducible rfl⟩) (by assumption) ?_
  simp only [Act.put, List.setIfInBounds_toArray, List.set_cons_zero, List.set_cons_succ]
  refine take_slot 22 27 (v := ?_) rfl rfl (by kernel_rfl) (by kernel_rfl) (by kernel_rfl) (fun _ _ _ h => h) (Or.inl ⟨by rfl, by intro W hSw; (try dsimp only at hSw); go_simp; try with_reducible rfl⟩) (by assumption) ?_
  simp only [Act.put, List.setIfInBounds_toArray, List.set_cons_zero, List.set_cons_succ]
  refine flow_region (ks := [7, 9, 14, 16, 21, 23]) dnoneDst (dnoneG x p.toList ((⟨none, 0, []⟩ : TrI).l.map Itm.abs)) (fun _ _ _ _ => True) 12 (by kernel_rfl) (by kernel_rfl) (by kernel_rfl) (by decide) (by simp [dnoneDst]) (by decide) trivial dnoneG_mono ?step ?fin
  case step =>
    intro i' hi' a' w' hF _ hpre
    have hb' : Below W0.heap.size W0 w' := ⟨hF.below.os, hF.below.tape, hF.below.output, hF.below.size, hF.below.block⟩
    simp only [List.mem_cons, List.not_mem_nil, or_false] at hi'
    rcases hi' with rfl | rfl | rfl | rfl | rfl | rfl
    · refine ⟨_, rfl, rfl, fun K hK => ?_⟩
      refine oper_load_tree (t := 11) (p := ⟨R, 0, none⟩) (by rfl) (by rw [hF.eval (by decide)]; kernel_rfl) (HD.out.below hb').cells.1 ?_
      exact hK _ _ (Below.refl _ _) trivial rfl fun _ _ _ _ => ⟨trivial, trivial⟩
    · refine ⟨_, rfl, rfl, fun K hK => ?_⟩
      have e1 : a'.tmps.getD 12 undef = .slice x.a.A x.a.l.length x.a.c := hpre 7 (by simp) (by kernel_rfl)
      have hc := set_walk x.a p (⟨none, 0, []⟩ : TrI) w' ((HD.out.below hb').a) (HLT.out.below hb') HS.out.na HLn.out HS.out.sa HLd.out HLw.out
      refine oper_call3 148 _ _ (by rfl) Tryz.func148 (by kernel_rfl) (by kernel_rfl) [.slice x.a.A x.a.l.length x.a.c, .string p, .slice (⟨none, 0, []⟩ : TrI).A (⟨none, 0, []⟩ : TrI).l.length (⟨none, 0, []⟩ : TrI).c] (by show [a'.eval (.tmp 12), a'.eval (.tmp 13), a'.eval (.const (.slice none 0 0))] = _; rw [show a'.eval (.tmp 12) = _ from e1, hF.eval (by decide), ]; kernel_rfl) hc ?_
      rintro e w2 ⟨⟨B, d, K', rfl, ht, he⟩, hb2⟩
      exact ⟨_, rfl, hK _ _ hb2 trivial ⟨B, d, K', rfl, ht, he⟩ fun _ _ _ _ => ⟨trivial, trivial⟩⟩
    · refine ⟨_, rfl, rfl, fun K hK => ?_⟩
      refine oper_load_tree (t := 18) (p := ⟨R, 1, none⟩) (by rfl) (by rw [hF.eval (by decide)]; kernel_rfl) (HD.out.below hb').cells.2.1 ?_
      exact hK _ _ (Below.refl _ _) trivial rfl fun _ _ _ _ => ⟨trivial, trivial⟩
    · refine ⟨_, rfl, rfl, fun K hK => ?_⟩
      have e1 : a'.tmps.getD 19 undef = .slice x.b.A x.b.l.length x.b.c := hpre 14 (by simp) (by kernel_rfl)
      have hc := set_walk x.b p (⟨none, 0, []⟩ : TrI) w' ((HD.out.below hb').b) (HLT.out.below hb') HS.out.nb HLn.out HS.out.sb HLd.out HLw.out
      refine oper_call3 148 _ _ (by rfl) Tryz.func148 (by kernel_rfl) (by kernel_rfl) [.slice x.b.A x.b.l.length x.b.c, .string p, .slice (⟨none, 0, []⟩ : TrI).A (⟨none, 0, []⟩ : TrI).l.length (⟨none, 0, []⟩ : TrI).c] (by show [a'.eval (.tmp 19), a'.eval (.tmp 20), a'.eval (.const (.slice none 0 0))] = _; rw [show a'.eval (.tmp 19) = _ from e1, hF.eval (by decide), ]; kernel_rfl) hc ?_
      rintro e w2 ⟨⟨B, d, K', rfl, ht, he⟩, hb2⟩
      exact ⟨_, rfl, hK _ _ hb2 trivial ⟨B, d, K', rfl, ht, he⟩ fun _ _ _ _ => ⟨trivial, trivial⟩⟩
    · refine ⟨_, rfl, rfl, fun K hK => ?_⟩
      refine oper_load_tree (t := 25) (p := ⟨R, 2, none⟩) (by rfl) (by rw [hF.eval (by decide)]; kernel_rfl) (HD.out.below hb').cells.2.2.1 ?_
      exact hK _ _ (Below.refl _ _) trivial rfl fun _ _ _ _ => ⟨trivial, trivial⟩
    · refine ⟨_, rfl, rfl, fun K hK => ?_⟩
      have e1 : a'.tmps.getD 26 undef = .slice x.o.A x.o.l.length x.o.c := hpre 21 (by simp) (by kernel_rfl)
      have hc := set_walk x.o p (⟨none, 0, []⟩ : TrI) w' ((HD.out.below hb').o) (HLT.out.below hb') HS.out.no HLn.out HS.out.so HLd.out HLw.out
      refine oper_call3 148 _ _ (by rfl) Tryz.func148 (by kernel_rfl) (by kernel_rfl) [.slice x.o.A x.o.l.length x.o.c, .string p, .slice (⟨none, 0, []⟩ : TrI).A (⟨none, 0, []⟩ : TrI).l.length (⟨none, 0, []⟩ : TrI).c] (by show [a'.eval (.tmp 26), a'.eval (.tmp 27), a'.eval (.const (.slice none 0 0))] = _; rw [show a'.eval (.tmp 26) = _ from e1, hF.eval (by decide), ]; kernel_rfl) hc ?_
      rintro e w2 ⟨⟨B, d, K', rfl, ht, he⟩, hb2⟩
      exact ⟨_, rfl, hK _ _ hb2 trivial ⟨B, d, K', rfl, ht, he⟩ fun _ _ _ _ => ⟨trivial, trivial⟩⟩
  case fin =>
    intro a' w' hF _ hG _
    have hb' : Below W0.heap.size W0 w' := ⟨hF.below.os, hF.below.tape, hF.below.output, hF.below.size, hF.below.block⟩
    have l0 : a'.tmps.getD 12 undef = .slice x.a.A x.a.l.length x.a.c := hG 7 (by simp)
    have g0 : TreeG (setA (x.a.l.map Itm.abs) p.toList ((⟨none, 0, []⟩ : TrI).l.map Itm.abs)) (a'.tmps.getD 14 undef) w' := hG 9 (by simp)
    obtain ⟨B0, d0, K0, e0, ht0, he0⟩ := g0
    have l1 : a'.tmps.getD 19 undef = .slice x.b.A x.b.l.length x.b.c := hG 14 (by simp)
    have g1 : TreeG (setA (x.b.l.map Itm.abs) p.toList ((⟨none, 0, []⟩ : TrI).l.map Itm.abs)) (a'.tmps.getD 21 undef) w' := hG 16 (by simp)
    obtain ⟨B1, d1, K1, e1, ht1, he1⟩ := g1
    have l2 : a'.tmps.getD 26 undef = .slice x.o.A x.o.l.length x.o.c := hG 21 (by simp)
    have g2 : TreeG (setA (x.o.l.map Itm.abs) p.toList ((⟨none, 0, []⟩ : TrI).l.map Itm.abs)) (a'.tmps.getD 28 undef) w' := hG 23 (by simp)
    obtain ⟨B2, d2, K2, e2, ht2, he2⟩ := g2
    have hact := hF.act
    simp only [List.foldl_cons, List.foldl_nil, dnoneDst, l0, e0, l1, e1, l2, e2, List.setIfInBounds_toArray, List.set_cons_zero, List.set_cons_succ] at hact
    clear hF hG l0 e0 l1 e1 l2 e2
    subst hact
    have HD0 := hid (HD.out.below hb')
    have HK0 := hid (KR.then (Keep.refl (fun k => k ≠ R) W0) hb')
    clear hb'
    have HT0 := hid ht0
    have HE0 := hid he0
    have HT1 := hid ht1
    have HE1 := hid he1
    have HT2 := hid ht2
    have HE2 := hid he2
    clear ht0 he0 ht1 he1 ht2 he2
    refine take_slot 24 29 (v := ?_) rfl rfl (by kernel_rfl) (by kernel_rfl) (by kernel_rfl) (fun _ _ _ h => h) (Or.inl ⟨by rfl, by intro W hSw; (try dsimp only at hSw); go_simp; try with_reducible rfl⟩) (by assumption) ?_
    simp only [Act.put, List.setIfInBounds_toArray, List.set_cons_zero, List.set_cons_succ]
    refine take_slot 25 30 (v := ?_) rfl rfl (by kernel_rfl) (by kernel_rfl) (by kernel_rfl) (fun _ _ _ h => h) (Or.inl ⟨by rfl, by intro W hSw; (try dsimp only at hSw); go_simp; try with_reducible rfl⟩) (by assumption) ?_
    simp only [Act.put, List.setIfInBounds_toArray, List.set_cons_zero, List.set_cons_succ]
    refine take_slot 26 31 (v := ?_) rfl rfl (by kernel_rfl) (by kernel_rfl) (by kernel_rfl) (fun _ _ _ h => h) (Or.inl ⟨by rfl, by intro W hSw; (try dsimp only at hSw); go_simp; try with_reducible rfl⟩) (by assumption) ?_
    simp only [Act.put, List.setIfInBounds_toArray, List.set_cons_zero, List.set_cons_succ]
    obtain ⟨s0, s1, s2, s3, sf⟩ := HD0.out.cells
    have f0 := sf 0
    refine wpAnyH_ready (rs := [27]) (by kernel_rfl) (by simp) ?_
    refine AllReadyH.cons (o := _) rfl (fun K hK => ?_) AllReadyH.nil
    go_simp
    refine hK.out _ _ trivial (fun _ => ?_)
    try simp only [Act.put]
    have hk1 : KR R w' (w'.setCell ⟨R, 0, none⟩ (.slice B0 K0.length d0)) := KR.setR (Keep.refl _ _) 0 _
    have HD1 := hid (HD0.out.setA HT0.out)
    have HK1 := hid (HK0.out.trans hk1)
    replace HT1 := hid (HD0.out.tree HT1.out hk1)
    replace HT2 := hid (HD0.out.tree HT2.out hk1)
    clear hK K s0 s1 s2 s3 sf f0 hk1 HD0 HK0
    generalize (w'.setCell ⟨R, 0, none⟩ (.slice B0 K0.length d0)) = v1 at *
    refine take_slot 28 32 (v := ?_) rfl rfl (by kernel_rfl) (by kernel_rfl) (by kernel_rfl) (fun _ _ _ h => h) (Or.inl ⟨by rfl, by intro W hSw; (try dsimp only at hSw); go_simp; try with_reducible rfl⟩) (by assumption) ?_
    simp only [Act.put, List.setIfInBounds_toArray, List.set_cons_zero, List.set_cons_succ]
    refine take_slot 29 33 (v := ?_) rfl rfl (by kernel_rfl) (by kernel_rfl) (by kernel_rfl) (fun _ _ _ h => h) (Or.inl ⟨by rfl, by intro W hSw; (try dsimp only at hSw); go_simp; try with_reducible rfl⟩) (by assumption) ?_
    simp only [Act.put, List.setIfInBounds_toArray, List.set_cons_zero, List.set_cons_succ]
    refine take_slot 30 34 (v := ?_) rfl rfl (by kernel_rfl) (by kernel_rfl) (by kernel_rfl) (fun _ _ _ h => h) (Or.inl ⟨by rfl, by intro W hSw; (try dsimp only at hSw); go_simp; try with_reducible rfl⟩) (by assumption) ?_
    simp only [Act.put, List.setIfInBounds_toArray, List.set_cons_zero, List.set_cons_succ]
    obtain ⟨s0, s1, s2, s3, sf⟩ := HD1.out.cells
    have f0 := sf 1
    refine wpAnyH_ready (rs := [31]) (by kernel_rfl) (by simp) ?_
    refine AllReadyH.cons (o := _) rfl (fun K hK => ?_) AllReadyH.nil
    go_simp
    refine hK.out _ _ trivial (fun _ => ?_)
    try simp only [Act.put]
    have hk2 : KR R v1 (v1.setCell ⟨R, 1, none⟩ (.slice B1 K1.length d1)) := KR.setR (Keep.refl _ _) 1 _
    have HD2 := hid (HD1.out.setB HT1.out)
    have HK2 := hid (HK1.out.trans hk2)
    replace HT2 := hid (HD1.out.tree HT2.out hk2)
    clear hK K s0 s1 s2 s3 sf f0 hk2 HD1 HK1
    generalize (v1.setCell ⟨R, 1, none⟩ (.slice B1 K1.length d1)) = v2 at *
    refine take_slot 32 35 (v := ?_) rfl rfl (by kernel_rfl) (by kernel_rfl) (by kernel_rfl) (fun _ _ _ h => h) (Or.inl ⟨by rfl, by intro W hSw; (try dsimp only at hSw); go_simp; try with_reducible rfl⟩) (by assumption) ?_
    simp only [Act.put, List.setIfInBounds_toArray, List.set_cons_zero, List.set_cons_succ]
    refine take_slot 33 36 (v := ?_) rfl rfl (by kernel_rfl) (by kernel_rfl) (by kernel_rfl) (fun _ _ _ h => h) (Or.inl ⟨by rfl, by intro W hSw; (try dsimp only at hSw); go_simp; try with_reducible rfl⟩) (by assumption) ?_
    simp only [Act.put, List.setIfInBounds_toArray, List.set_cons_zero, List.set_cons_succ]
    refine take_slot 34 37 (v := ?_) rfl rfl (by kernel_rfl) (by kernel_rfl) (by kernel_rfl) (fun _ _ _ h => h) (Or.inl ⟨by rfl, by intro W hSw; (try dsimp only at hSw); go_simp; try with_reducible rfl⟩) (by assumption) ?_
    simp only [Act.put, List.setIfInBounds_toArray, List.set_cons_zero, List.set_cons_succ]
    obtain ⟨s0, s1, s2, s3, sf⟩ := HD2.out.cells
    have f0 := sf 2
    refine wpAnyH_ready (rs := [35]) (by kernel_rfl) (by simp) ?_
    refine AllReadyH.cons (o := _) rfl (fun K hK => ?_) AllReadyH.nil
    go_simp
    refine hK.out _ _ trivial (fun _ => ?_)
    try simp only [Act.put]
    have hk3 : KR R v2 (v2.setCell ⟨R, 2, none⟩ (.slice B2 K2.length d2)) := KR.setR (Keep.refl _ _) 2 _
    have HD3 := hid (HD2.out.setO HT2.out)
    have HK3 := hid (HK2.out.trans hk3)
    clear hK K s0 s1 s2 s3 sf f0 hk3 HD2 HK2
    generalize (v2.setCell ⟨R, 2, none⟩ (.slice B2 K2.length d2)) = v3 at *
    refine wpAnyH_done (by kernel_rfl) ?_ _
    clear hHeld
    have HAB : HidP (RI.abs { x with a := ⟨B0, d0, K0⟩, b := ⟨B1, d1, K1⟩, o := ⟨B2, d2, K2⟩ } = noneA x.abs p.toList) := hid (by
      unfold noneA RI.abs
      simp only
      rw [HE0.out, HE1.out, HE2.out]
      rfl)
    go_wp2_with fail
    go_ret
    exact ⟨rfl, ⟨_, HD3.out, HAB.out, rfl⟩, HK3.out⟩

end Go.Proofs.YtfbbjfbnkcklgaaGreatDoor

/- the desk: Name, free, both (printed by gen/genJ4.py) -/
namespace Go.Proofs.YtfbbjfbnkcklgaaGreatDoor
open Go.RowKit

/-- the other path -/
def nameA (p : Txt) : Txt := if pathB p = true ∧ pathB (p ++ [126]) = true then p ++ [126] else []
set_option maxHeartbeats 1600000 in
theorem pname_walk (p : ByteArray) (w : World) (hp : p.size ≤ 100000) :
    Calls Tryz.prog 27 #[.string p] w fun e w' => (∃ q : ByteArray, e = .returned (.string q) ∧ q.toList = nameA p.toList) ∧ Below w.heap.size w w' := by
  have hsz : (p ++ ⟨#[126]⟩).size ≤ 100001 := by
    rw [ByteArray.size_append]
    show p.size + 1 ≤ _
    omega
  have htl : (p ++ ⟨#[126]⟩).toList = p.toList ++ [126] := by
    rw [app_toList]
    congr 1
    kernel_rfl
  have H1 := hid (path_walk p (by omega) w)
  have H2 := hid (fun W => path_walk (p ++ ⟨#[126]⟩) (by omega) W)
  rw [htl] at H2
  have hadd : ∀ W, (Op.stringOp .add p ⟨#[126]⟩).run Tryz.prog W = .ok (.string (p ++ ⟨#[126]⟩)) W := fun W => run_string_add_sum W _ _ (by show p.size + 1 ≤ _; omega)
  have HL := hid htl
  clear hsz htl hp
  cases h1 : pathB p.toList
  · have HN : HidP (nameA p.toList = []) := hid (by unfold nameA; rw [if_neg (by simp [h1])])
    rw [h1] at H1
    go_enter Tryz.func27, Tryz.ntmps27
    go_wp2_with fail
    refine H1.out.mono ?_
    rintro e w1 ⟨rfl, hb1⟩
    go_wp2_with fail
    go_ret
    exact ⟨⟨⟨#[]⟩, rfl, by rw [HN.out]; exact emptyB⟩, hb1⟩
  have H1' := hid h1
  rw [h1] at H1
  cases h2 : pathB (p.toList ++ [126])
  · have HN : HidP (nameA p.toList = []) := hid (by unfold nameA; rw [if_neg (by simp [h2])])
    rw [h2] at H2
    go_enter Tryz.func27, Tryz.ntmps27
    go_wp2_with fail
    refine H1.out.mono ?_
    rintro e w1 ⟨rfl, hb1⟩
    go_wp2_with fail
    refine (H2.out _).mono ?_
    rintro e w2 ⟨rfl, hb2⟩
    have hb := thenB hb1 hb2
    go_wp2_with fail
    go_ret
    exact ⟨⟨⟨#[]⟩, rfl, by rw [HN.out]; exact emptyB⟩, hb⟩
  · have HN : HidP (nameA p.toList = p.toList ++ [126]) := hid (by unfold nameA; rw [if_pos ⟨h1, h2⟩])
    rw [h2] at H2
    go_enter Tryz.func27, Tryz.ntmps27
    go_wp2_with fail
    refine H1.out.mono ?_
    rintro e w1 ⟨rfl, hb1⟩
    go_wp2_with fail
    refine (H2.out _).mono ?_
    rintro e w2 ⟨rfl, hb2⟩
    have hb := thenB hb1 hb2
    go_wp2_with fail
    go_ret
    exact ⟨⟨p ++ ⟨#[126]⟩, rfl, by rw [HN.out]; exact HL.out⟩, hb⟩

def freeDst : Nat → Nat
  | 4 => 9 | 6 => 11
  | 12 => 17 | 14 => 19
  | 21 => 26 | 23 => 28
  | 7 => 12
  | 15 => 20
  | 24 => 29
  | 16 => 21
  | _ => 0
def freeG (x : RI) (p : Txt) : Nat → Value → World → Prop
  | 4 => fun v _ => v = .slice x.a.A x.a.l.length x.a.c | 6 => TreeG (underA (x.a.l.map Itm.abs) p)
  | 12 => fun v _ => v = .slice x.b.A x.b.l.length x.b.c | 14 => TreeG (underA (x.b.l.map Itm.abs) p)
  | 21 => fun v _ => v = .slice x.o.A x.o.l.length x.o.c | 23 => TreeG (underA (x.o.l.map Itm.abs) p)
  | 7 => fun v _ => v = .int .i64 (underA (x.a.l.map Itm.abs) p).length
  | 15 => fun v _ => v = .int .i64 (underA (x.b.l.map Itm.abs) p).length
  | 24 => fun v _ => v = .int .i64 (underA (x.o.l.map Itm.abs) p).length
  | 16 => fun v _ => v = .int .i64 ((underA (x.a.l.map Itm.abs) p).length + (underA (x.b.l.map Itm.abs) p).length)
  | _ => fun _ _ => True
theorem freeG_mono {x : RI} {p : Txt} (j : Nat) (v : Value) (w w' : World) (hb : Below w.heap.size w w') (h : freeG x p j v w) : freeG x p j v w' := by
  unfold freeG at h ⊢
  split at h <;> first | exact h | exact TreeG.mono hb h
def freeB (v : Abs4) (q : Txt) : Bool := (underA v.1 q).isEmpty && (underA v.2.1 q).isEmpty && (underA v.2.2.1 q).isEmpty
theorem wrap_fit {x y : Int} (h1 : 0 ≤ x) (h2 : x ≤ 1000000) (h3 : 0 ≤ y) (h4 : y ≤ 1000000) : IntKind.i64.wrap (x + y) = x + y := by
  simp [IntKind.wrap, IntKind.bits, IntKind.signed]
  omega
theorem oper_len {o : Oper} {a : Act} {w : World} {K : Act → World → Prop} {Q : Exit → Act → World → Prop} {t : Tmp} {A : Option Addr} {n c : Nat} (ho : o.op = .call { callee := .builtin .len, args := #[.tmp t], argTypes := #[25] }) (he : a.tmps.getD t undef = .slice A n c) (h : K (a.put o.dst (.int .i64 n)) w) : Oper.wp Tryz.prog o a w K Q := by
  obtain ⟨dst, op, ty, pos, after, guard⟩ := o
  subst ho
  rw [Array.getD_eq_getD_getElem?] at he
  go_simp
  first | done | exact h
theorem oper_add {P : Program} {o : Oper} {a : Act} {w : World} {K : Act → World → Prop} {Q : Exit → Act → World → Prop} {s t : Tmp} {x y : Int} (ho : o.op = .binOp .add 3 (.tmp s) (.tmp t) 3) (hs : a.tmps.getD s undef = .int .i64 x) (ht : a.tmps.getD t undef = .int .i64 y) (hx : 0 ≤ x ∧ x ≤ 1000000) (hy : 0 ≤ y ∧ y ≤ 1000000) (h : K (a.put o.dst (.int .i64 (x + y))) w) : Oper.wp P o a w K Q := by
  obtain ⟨dst, op, ty, pos, after, guard⟩ := o
  subst ho
  have hw : IntKind.i64.wrap (x + y) = x + y := wrap_fit hx.1 hx.2 hy.1 hy.2
  rw [Array.getD_eq_getD_getElem?] at hs ht
  go_simp
  first | done | exact h
theorem free_nums {r : Bool} {a b c : Nat} (h : ((a : Int) + (b : Int) + (c : Int) == 0) = r) : r = (decide (a = 0) && decide (b = 0) && decide (c = 0)) := by
  subst h
  rw [Bool.eq_iff_iff]
  simp only [beq_iff_eq, Bool.and_eq_true, decide_eq_true_eq]
  omega
theorem under_len_le (T : List AIt) (p : Txt) : (underA T p).length ≤ T.length := List.length_filter_le _ _
set_option maxRecDepth 100000 in
set_option maxHeartbeats 4000000 in
theorem free_walk (R : Nat) (x : RI) (q : ByteArray) (W0 : World) (h : DB R x W0) (hs : DS x) :
    Calls Tryz.prog 149 #[.pointer (some ⟨R, 0, none⟩), .string q] W0 fun e w' => e = .returned (.bool (freeB x.abs q.toList)) ∧ Below W0.heap.size W0 w' := by
  have HD := hid h
  have HU : HidP ((0 ≤ ((underA (x.a.l.map Itm.abs) q.toList).length : Int) ∧ ((underA (x.a.l.map Itm.abs) q.toList).length : Int) ≤ 1000000) ∧ (0 ≤ ((underA (x.b.l.map Itm.abs) q.toList).length : Int) ∧ ((underA (x.b.l.map Itm.abs) q.toList).length : Int) ≤ 1000000) ∧ (0 ≤ ((underA (x.o.l.map Itm.abs) q.toList).length : Int) ∧ ((underA (x.o.l.map Itm.abs) q.toList).length : Int) ≤ 1000000)) := hid (by
    have h1 := under_len_le (x.a.l.map Itm.abs) q.toList
    have h2 := under_len_le (x.b.l.map Itm.abs) q.toList
    have h3 := under_len_le (x.o.l.map Itm.abs) q.toList
    rw [List.length_map] at h1 h2 h3
    have := hs.na
    have := hs.nb
    have := hs.no
    omega)
  clear h hs
  go_enter Tryz.func149, Tryz.ntmps149
  go_wp2_with fail
  refine wp_region_held_drew (S := fun _ => True) (by kernel_rfl) trivial (fun hHeld => ?_)
  refine take_slot 0 5 (v := ?_) rfl rfl (by kernel_rfl) (by kernel_rfl) (by kernel_rfl) (fun _ _ _ h => h) (Or.inl ⟨by rfl, by intro W hSw; (try dsimp only at hSw); go_simp; try with_reducible rfl⟩) (by assumption) ?_
  simp only [Act.put, List.setIfInBounds_toArray, List.set_cons_zero, List.set_cons_succ]
  refine take_slot 1 6 (v := ?_) rfl rfl (by kernel_rfl) (by kernel_rfl) (by kernel_rfl) (fun _ _ _ h => h) (Or.inl ⟨by rfl, by intro W hSw; (try dsimp only at hSw); go_simp; try with_reducible rfl⟩) (by assumption) ?_
  simp only [Act.put, List.setIfInBounds_toArray, List.set_cons_zero, List.set_cons_succ]
  refine take_slot 2 7 (v := ?_) rfl rfl (by kernel_rfl) (by kernel_rfl) (by kernel_rfl) (fun _ _ _ h => h) (Or.inl ⟨by rfl, by intro W hSw; (try dsimp only at hSw); go_simp; try with_reducible rfl⟩) (by assumption) ?_
  simp only [Act.put, List.setIfInBounds_toArray, List.set_cons_zero, List.set_cons_succ]
  refine take_slot 3 8 (v := ?_) rfl rfl (by kernel_rfl) (by kernel_rfl) (by kernel_rfl) (fun _ _ _ h => h) (Or.inl ⟨by rfl, by intro W hSw; (try dsimp only at hSw); go_simp; try with_reducible rfl⟩) (by assumption) ?_
  simp only [Act.put, List.setIfInBounds_toArray, List.set_cons_zero, List.set_cons_succ]
  refine take_slot 5 10 (v := ?_) rfl rfl (by kernel_rfl) (by kernel_rfl) (by kernel_rfl) (fun _ _ _ h => h) (Or.inl ⟨by rfl, by intro W hSw; (try dsimp only at hSw); go_simp; try with_reducible rfl⟩) (by assumption) ?_
  simp only [Act.put, List.setIfInBounds_toArray, List.set_cons_zero, List.set_cons_succ]
  refine take_slot 8 13 (v := ?_) rfl rfl (by kernel_rfl) (by kernel_rfl) (by kernel_rfl) (fun _ _ _ h => h) (Or.inl ⟨by rfl, by intro W hSw; (try dsimp only at hSw); go_simp; try with_reducible rfl⟩) (by assumption) ?_
  simp only [Act.put, List.setIfInBounds_toArray, List.set_cons_zero, List.set_cons_succ]
  refine take_slot 9 14 (v := ?_) rfl rfl (by kernel_rfl) (by kernel_rfl) (by kernel_rfl) (fun _ _ _ h => h) (Or.inl ⟨by rfl, by intro W hSw; (try dsimp only at hSw); go_simp; try with_reducible rfl⟩) (by assumption) ?_
  simp only [Act.put, List.setIfInBounds_toArray, List.set_cons_zero, List.set_cons_succ]
  refine take_slot 10 15 (v := ?_) rfl rfl (by kernel_rfl) (by kernel_rfl) (by kernel_rfl) (fun _ _ _ h => h) (Or.inl ⟨by rfl, by intro W hSw; (try dsimp only at hSw); go_simp; try with_reducible rfl⟩) (by assumption) ?_
  simp only [Act.put, List.setIfInBounds_toArray, List.set_cons_zero, List.set_cons_succ]
  refine take_slot 11 16 (v := ?_) rfl rfl (by kernel_rfl) (by kernel_rfl) (by kernel_rfl) (fun _ _ _ h => h) (Or.inl ⟨by rfl, by intro W hSw; (try dsimp only at hSw); go_simp; try with_reducible rfl⟩) (by assumption) ?_
  simp only [Act.put, List.setIfInBounds_toArray, List.set_cons_zero, List.set_cons_succ]
  refine take_slot 13 18 (v := ?_) rfl rfl (by kernel_rfl) (by kernel_rfl) (by kernel_rfl) (fun _ _ _ h => h) (Or.inl ⟨by rfl, by intro W hSw; (try dsimp only at hSw); go_simp; try with_reducible rfl⟩) (by assumption) ?_
  simp only [Act.put, List.setIfInBounds_toArray, List.set_cons_zero, List.set_cons_succ]
  refine take_slot 17 22 (v := ?_) rfl rfl (by kernel_rfl) (by kernel_rfl) (by kernel_rfl) (fun _ _ _ h => h) (Or.inl ⟨by rfl, by intro W hSw; (try dsimp only at hSw); go_simp; try with_reducible rfl⟩) (by assumption) ?_
  simp only [Act.put, List.setIfInBounds_toArray, List.set_cons_zero, List.set_cons_succ]
  refine take_slot 18 23 (v := ?_) rfl rfl (by kernel_rfl) (by kernel_rfl) (by kernel_rfl) (fun _ _ _ h => h) (Or.inl ⟨by rfl, by intro W hSw; (try dsimp only at hSw); go_simp; try with_reducible rfl⟩) (by assumption) ?_
  simp only [Act.put, List.setIfInBounds_toArray, List.set_cons_zero, List.set_cons_succ]
  refine take_slot 19 24 (v := ?_) rfl rfl (by kernel_rfl) (by kernel_rfl) (by kernel_rfl) (fun _ _ _ h => h) (Or.inl ⟨by rfl, by intro W hSw; (try dsimp only at hSw); go_simp; try with_reducible rfl⟩) (by assumption) ?_
  simp only [Act.put, List.setIfInBounds_toArray, List.set_cons_zero, List.set_cons_succ]
  refine take_slot 20 25 (v := ?_) rfl rfl (by kernel_rfl) (by kernel_rfl) (by kernel_rfl) (fun _ _ _ h => h) (Or.inl ⟨by rfl, by intro W hSw; (try dsimp only at hSw); go_simp; try with_reducible rfl⟩) (by assumption) ?_
  simp only [Act.put, List.setIfInBounds_toArray, List.set_cons_zero, List.set_cons_succ]
  refine take_slot 22 27 (v := ?_) rfl rfl (by kernel_rfl) (by kernel_rfl) (by kernel_rfl) (fun _ _ _ h => h) (Or.inl ⟨by rfl, by intro W hSw; (try dsimp only at hSw); go_simp; try with_reducible rfl⟩) (by assumption) ?_
  simp only [Act.put, List.setIfInBounds_toArray, List.set_cons_zero, List.set_cons_succ]
  refine flow_region (ks := [4, 6, 7, 12, 14, 15, 16, 21, 23, 24]) freeDst (freeG x q.toList) (fun _ _ _ _ => True) 3 (by kernel_rfl) (by kernel_rfl) (by kernel_rfl) (by decide) (by simp [freeDst]) (by decide) trivial freeG_mono ?step ?fin
  case step =>
    intro i' hi' a' w' hF _ hpre
    have hb' : Below W0.heap.size W0 w' := ⟨hF.below.os, hF.below.tape, hF.below.output, hF.below.size, hF.below.block⟩
    simp only [List.mem_cons, List.not_mem_nil, or_false] at hi'
    rcases hi' with rfl | rfl | rfl | rfl | rfl | rfl | rfl | rfl | rfl | rfl
    · refine ⟨_, rfl, rfl, fun K hK => ?_⟩
      refine oper_load_tree (t := 8) (p := ⟨R, 0, none⟩) (by rfl) (by rw [hF.eval (by decide)]; kernel_rfl) (HD.out.below hb').cells.1 ?_
      exact hK _ _ (Below.refl _ _) trivial rfl fun _ _ _ _ => ⟨trivial, trivial⟩
    · refine ⟨_, rfl, rfl, fun K hK => ?_⟩
      have e1 : a'.tmps.getD 9 undef = .slice x.a.A x.a.l.length x.a.c := hpre 4 (by simp) (by kernel_rfl)
      have hc := under_walk x.a.A x.a.c x.a.l q w' ((HD.out.below hb').a)
      refine oper_call3 37 _ _ (by rfl) Tryz.func37 (by kernel_rfl) (by kernel_rfl) [.slice x.a.A x.a.l.length x.a.c, .string q] (by show [a'.eval (.tmp 9), a'.eval (.tmp 10)] = _; rw [show a'.eval (.tmp 9) = _ from e1, hF.eval (by decide)]; kernel_rfl) hc ?_
      rintro e w2 ⟨⟨B, d, K', rfl, ht, he⟩, hb2⟩
      exact ⟨_, rfl, hK _ _ hb2 trivial ⟨B, d, K', rfl, ht, he⟩ fun _ _ _ _ => ⟨trivial, trivial⟩⟩
    · refine ⟨_, rfl, rfl, fun K hK => ?_⟩
      obtain ⟨B, d, K', e1, _, he⟩ : TreeG (underA (x.a.l.map Itm.abs) q.toList) (a'.tmps.getD 11 undef) w' := hpre 6 (by simp) (by kernel_rfl)
      refine oper_len (t := 11) (by rfl) e1 ?_
      exact hK _ _ (Below.refl _ _) trivial (by show Value.int .i64 (K'.length : Int) = .int .i64 _; rw [← he, List.length_map]) fun _ _ _ _ => ⟨trivial, trivial⟩
    · refine ⟨_, rfl, rfl, fun K hK => ?_⟩
      refine oper_load_tree (t := 16) (p := ⟨R, 1, none⟩) (by rfl) (by rw [hF.eval (by decide)]; kernel_rfl) (HD.out.below hb').cells.2.1 ?_
      exact hK _ _ (Below.refl _ _) trivial rfl fun _ _ _ _ => ⟨trivial, trivial⟩
    · refine ⟨_, rfl, rfl, fun K hK => ?_⟩
      have e1 : a'.tmps.getD 17 undef = .slice x.b.A x.b.l.length x.b.c := hpre 12 (by simp) (by kernel_rfl)
      have hc := under_walk x.b.A x.b.c x.b.l q w' ((HD.out.below hb').b)
      refine oper_call3 37 _ _ (by rfl) Tryz.func37 (by kernel_rfl) (by kernel_rfl) [.slice x.b.A x.b.l.length x.b.c, .string q] (by show [a'.eval (.tmp 17), a'.eval (.tmp 18)] = _; rw [show a'.eval (.tmp 17) = _ from e1, hF.eval (by decide)]; kernel_rfl) hc ?_
      rintro e w2 ⟨⟨B, d, K', rfl, ht, he⟩, hb2⟩
      exact ⟨_, rfl, hK _ _ hb2 trivial ⟨B, d, K', rfl, ht, he⟩ fun _ _ _ _ => ⟨trivial, trivial⟩⟩
    · refine ⟨_, rfl, rfl, fun K hK => ?_⟩
      obtain ⟨B, d, K', e1, _, he⟩ : TreeG (underA (x.b.l.map Itm.abs) q.toList) (a'.tmps.getD 19 undef) w' := hpre 14 (by simp) (by kernel_rfl)
      refine oper_len (t := 19) (by rfl) e1 ?_
      exact hK _ _ (Below.refl _ _) trivial (by show Value.int .i64 (K'.length : Int) = .int .i64 _; rw [← he, List.length_map]) fun _ _ _ _ => ⟨trivial, trivial⟩
    · refine ⟨_, rfl, rfl, fun K hK => ?_⟩
      have e1 : a'.tmps.getD 12 undef = .int .i64 (underA (x.a.l.map Itm.abs) q.toList).length := hpre 7 (by simp) (by kernel_rfl)
      have e2 : a'.tmps.getD 20 undef = .int .i64 (underA (x.b.l.map Itm.abs) q.toList).length := hpre 15 (by simp) (by kernel_rfl)
      refine oper_add (s := 12) (t := 20) (by rfl) e1 e2 HU.out.1 HU.out.2.1 ?_
      exact hK _ _ (Below.refl _ _) trivial rfl fun _ _ _ _ => ⟨trivial, trivial⟩
    · refine ⟨_, rfl, rfl, fun K hK => ?_⟩
      refine oper_load_tree (t := 25) (p := ⟨R, 2, none⟩) (by rfl) (by rw [hF.eval (by decide)]; kernel_rfl) (HD.out.below hb').cells.2.2.1 ?_
      exact hK _ _ (Below.refl _ _) trivial rfl fun _ _ _ _ => ⟨trivial, trivial⟩
    · refine ⟨_, rfl, rfl, fun K hK => ?_⟩
      have e1 : a'.tmps.getD 26 undef = .slice x.o.A x.o.l.length x.o.c := hpre 21 (by simp) (by kernel_rfl)
      have hc := under_walk x.o.A x.o.c x.o.l q w' ((HD.out.below hb').o)
      refine oper_call3 37 _ _ (by rfl) Tryz.func37 (by kernel_rfl) (by kernel_rfl) [.slice x.o.A x.o.l.length x.o.c, .string q] (by show [a'.eval (.tmp 26), a'.eval (.tmp 27)] = _; rw [show a'.eval (.tmp 26) = _ from e1, hF.eval (by decide)]; kernel_rfl) hc ?_
      rintro e w2 ⟨⟨B, d, K', rfl, ht, he⟩, hb2⟩
      exact ⟨_, rfl, hK _ _ hb2 trivial ⟨B, d, K', rfl, ht, he⟩ fun _ _ _ _ => ⟨trivial, trivial⟩⟩
    · refine ⟨_, rfl, rfl, fun K hK => ?_⟩
      obtain ⟨B, d, K', e1, _, he⟩ : TreeG (underA (x.o.l.map Itm.abs) q.toList) (a'.tmps.getD 28 undef) w' := hpre 23 (by simp) (by kernel_rfl)
      refine oper_len (t := 28) (by rfl) e1 ?_
      exact hK _ _ (Below.refl _ _) trivial (by show Value.int .i64 (K'.length : Int) = .int .i64 _; rw [← he, List.length_map]) fun _ _ _ _ => ⟨trivial, trivial⟩
  case fin =>
    intro a' w' hF _ hG _
    have hb' : Below W0.heap.size W0 w' := ⟨hF.below.os, hF.below.tape, hF.below.output, hF.below.size, hF.below.block⟩
    have l0 : a'.tmps.getD 9 undef = .slice x.a.A x.a.l.length x.a.c := hG 4 (by simp)
    obtain ⟨B0, d0, K0, e0, _, _⟩ : TreeG (underA (x.a.l.map Itm.abs) q.toList) (a'.tmps.getD 11 undef) w' := hG 6 (by simp)
    have g0 : a'.tmps.getD 12 undef = .int .i64 (underA (x.a.l.map Itm.abs) q.toList).length := hG 7 (by simp)
    have l1 : a'.tmps.getD 17 undef = .slice x.b.A x.b.l.length x.b.c := hG 12 (by simp)
    obtain ⟨B1, d1, K1, e1, _, _⟩ : TreeG (underA (x.b.l.map Itm.abs) q.toList) (a'.tmps.getD 19 undef) w' := hG 14 (by simp)
    have g1 : a'.tmps.getD 20 undef = .int .i64 (underA (x.b.l.map Itm.abs) q.toList).length := hG 15 (by simp)
    have l2 : a'.tmps.getD 26 undef = .slice x.o.A x.o.l.length x.o.c := hG 21 (by simp)
    obtain ⟨B2, d2, K2, e2, _, _⟩ : TreeG (underA (x.o.l.map Itm.abs) q.toList) (a'.tmps.getD 28 undef) w' := hG 23 (by simp)
    have g2 : a'.tmps.getD 29 undef = .int .i64 (underA (x.o.l.map Itm.abs) q.toList).length := hG 24 (by simp)
    have g3 : a'.tmps.getD 21 undef = .int .i64 ((underA (x.a.l.map Itm.abs) q.toList).length + (underA (x.b.l.map Itm.abs) q.toList).length) := hG 16 (by simp)
    have hwr : IntKind.i64.wrap (((underA (x.a.l.map Itm.abs) q.toList).length : Int) + ((underA (x.b.l.map Itm.abs) q.toList).length : Int) + ((underA (x.o.l.map Itm.abs) q.toList).length : Int)) = ((underA (x.a.l.map Itm.abs) q.toList).length : Int) + ((underA (x.b.l.map Itm.abs) q.toList).length : Int) + ((underA (x.o.l.map Itm.abs) q.toList).length : Int) := by
      have := HU.out
      simp [IntKind.wrap, IntKind.bits, IntKind.signed]
      omega
    have hact := hF.act
    simp only [List.foldl_cons, List.foldl_nil, freeDst, l0, e0, g0, l1, e1, g1, l2, e2, g2, g3, List.setIfInBounds_toArray, List.set_cons_zero, List.set_cons_succ] at hact
    clear hF hG l0 e0 g0 l1 e1 g1 l2 e2 g2 g3
    subst hact
    have HB := hid hb'
    clear hb'
    have HN : HidP (freeB x.abs q.toList = (decide ((underA (x.a.l.map Itm.abs) q.toList).length = 0) && decide ((underA (x.b.l.map Itm.abs) q.toList).length = 0) && decide ((underA (x.o.l.map Itm.abs) q.toList).length = 0))) := hid (by
      unfold freeB RI.abs
      simp only
      rw [Bool.eq_iff_iff]
      simp [and_assoc])
    obtain ⟨⟨u0, v0⟩, ⟨u1, v1⟩, ⟨u2, v2⟩⟩ := HU.out
    generalize (underA (x.a.l.map Itm.abs) q.toList).length = N0 at *
    generalize (underA (x.b.l.map Itm.abs) q.toList).length = N1 at *
    generalize (underA (x.o.l.map Itm.abs) q.toList).length = N2 at *
    refine take_slot 25 30 (v := ?_) rfl rfl (by kernel_rfl) (by kernel_rfl) (by kernel_rfl) (fun _ _ _ h => h) (Or.inl ⟨by rfl, by intro W hSw; (try dsimp only at hSw); go_simp; try with_reducible rfl⟩) (by assumption) ?_
    simp only [Act.put, List.setIfInBounds_toArray, List.set_cons_zero, List.set_cons_succ]
    refine take_slot 26 31 (v := ?_) rfl rfl (by kernel_rfl) (by kernel_rfl) (by kernel_rfl) (fun _ _ _ h => h) (Or.inl ⟨by rfl, by intro W hSw; (try dsimp only at hSw); go_simp; try with_reducible rfl⟩) (by assumption) ?_
    simp only [Act.put, List.setIfInBounds_toArray, List.set_cons_zero, List.set_cons_succ]
    refine take_slot 27 4 (v := ?_) rfl rfl (by kernel_rfl) (by kernel_rfl) (by kernel_rfl) (fun _ _ _ h => h) (Or.inl ⟨by rfl, by intro W hSw; (try dsimp only at hSw); go_simp; try with_reducible rfl⟩) (by assumption) ?_
    simp only [Act.put, List.setIfInBounds_toArray, List.set_cons_zero, List.set_cons_succ]
    refine wpAnyH_done (by kernel_rfl) ?_ _
    clear hHeld
    generalize hr : ((N0 : Int) + (N1 : Int) + (N2 : Int) == 0) = r
    have HR := hid (free_nums hr)
    clear hr
    go_wp2_with fail
    go_ret
    exact ⟨by rw [HR.out, HN.out]; rfl, HB.out⟩

def dbothDst : Nat → Nat
  | 7 => 77 | 10 => 80
  | 15 => 85 | 18 => 88
  | 23 => 93 | 26 => 96
  | _ => 0
def dbothG (x : RI) (p : Txt) (l : List AIt) : Nat → Value → World → Prop
  | 7 => fun v _ => v = .slice x.a.A x.a.l.length x.a.c | 10 => TreeG (setA (x.a.l.map Itm.abs) p l)
  | 15 => fun v _ => v = .slice x.b.A x.b.l.length x.b.c | 18 => TreeG (setA (x.b.l.map Itm.abs) p l)
  | 23 => fun v _ => v = .slice x.o.A x.o.l.length x.o.c | 26 => TreeG (setA (x.o.l.map Itm.abs) p l)
  | _ => fun _ _ => True
theorem dbothG_mono {x : RI} {p : Txt} {l : List AIt} (j : Nat) (v : Value) (w w' : World) (hb : Below w.heap.size w w') (h : dbothG x p l j v w) : dbothG x p l j v w' := by
  unfold dbothG at h ⊢
  split at h <;> first | exact h | exact TreeG.mono hb h

/-- what both does, and when -/
def bothOk (v : Abs4) (p : Txt) : Bool := !(nameA p).isEmpty && !(underA v.2.1 p).isEmpty && !(underA v.1 p).isEmpty && freeB v (nameA p) && (underA v.2.1 p).all fun x => pathB (mvA p (nameA p) x).p
def bothA (v : Abs4) (p : Txt) : Abs4 := (setA (firstA v p).1 (nameA p) ((underA v.2.1 p).map (mvA p (nameA p))), setA (firstA v p).2.1 (nameA p) ((underA v.2.1 p).map (mvA p (nameA p))), setA (firstA v p).2.2.1 (nameA p) ((underA v.2.1 p).map (mvA p (nameA p))), (firstA v p).2.2.2)
def bothR (v : Abs4) (p : Txt) : Abs4 := if bothOk v p = true then bothA v p else v
def mvI (p q : ByteArray) (x : Itm) : Itm := ⟨q ++ x.p.extract p.size x.p.size, x.d, x.dA, x.dc, x.bs⟩
theorem mvI_abs (p q : ByteArray) (x : Itm) : (mvI p q x).abs = mvA p.toList q.toList x.abs := by
  unfold mvI mvA Itm.abs
  simp only
  rw [app_toList, ext_drop, str_len]
theorem within_moved {p q : Txt} {x : AIt} (hp : p ≠ []) (h : withinA p x.p = true) : withinA q (mvA p q x).p = true := by
  rcases within_iff.1 h with e | e | ⟨s, e⟩
  · refine within_iff.2 (.inl ?_)
    unfold mvA
    rw [e, List.drop_length, List.append_nil]
  · exact absurd e hp
  · refine within_iff.2 (.inr (.inr ⟨s, ?_⟩))
    unfold mvA
    rw [e, List.drop_left]
theorem cells_set0 {l : List Itm} {i : Nat} (hi : i < l.length) (s : ByteArray) : (l.flatMap Itm.cells).set (i * 3) (.string s) = (l.set i ⟨s, l[i].d, l[i].dA, l[i].dc, l[i].bs⟩).flatMap Itm.cells := by
  induction l generalizing i with
  | nil => simp at hi
  | cons x r ih =>
    cases i with
    | zero => simp [Itm.cells]
    | succ i =>
      have h1 := ih (i := i) (by simpa using hi)
      simp only [List.flatMap_cons, List.set_cons_succ, List.getElem_cons_succ]
      rw [List.set_append_right _ _ (by simp [Itm.cells]; omega), show (i + 1) * 3 - x.cells.length = i * 3 by simp [Itm.cells]; omega, h1]
theorem set_len_le (T : List AIt) (p : Txt) (L : List AIt) : (setA T p L).length ≤ T.length + L.length := by
  have h1 := puts_len (restA T [p]) L
  have h2 : (restA T [p]).length ≤ T.length := List.length_filter_le _ _
  show (putsA (restA T [p]) L).length ≤ _
  omega
theorem set_sorted {T : List AIt} (h : sortedA T) (p : Txt) (L : List AIt) : sortedA (setA T p L) := puts_sorted (h.filter _) L
theorem DS.first {x x1 : RI} {p : Txt} (h : DS x) (ha : x.a.l.length ≤ 30000) (hb : x.b.l.length ≤ 30000) (ho : x.o.l.length ≤ 30000) (e : x1.abs = firstA x.abs p) : DS x1 := by
  have e1 : x1.a.l.map Itm.abs = x.a.l.map Itm.abs := congrArg (fun v : Abs4 => v.1) e
  have e2 : x1.b.l.map Itm.abs = setA (x.b.l.map Itm.abs) p (underA (x.a.l.map Itm.abs) p) := congrArg (fun v : Abs4 => v.2.1) e
  have e3 : x1.o.l.map Itm.abs = setA (x.o.l.map Itm.abs) p (underA (x.a.l.map Itm.abs) p) := congrArg (fun v : Abs4 => v.2.2.1) e
  have l0 := under_len_le (x.a.l.map Itm.abs) p
  have l1 := congrArg List.length e1
  have l2 := congrArg List.length e2
  have l3 := congrArg List.length e3
  have l4 := set_len_le (x.b.l.map Itm.abs) p (underA (x.a.l.map Itm.abs) p)
  have l5 := set_len_le (x.o.l.map Itm.abs) p (underA (x.a.l.map Itm.abs) p)
  rw [List.length_map] at l0 l1 l2 l3 l4 l5
  rw [List.length_map] at l1
  exact ⟨by omega, by omega, by omega, by rw [e1]; exact h.sa, by rw [e2]; exact set_sorted h.sb _ _, by rw [e3]; exact set_sorted h.so _ _⟩

set_option maxHeartbeats 1600000 in
theorem under_own (A : Option Addr) (c : Nat) (l : List Itm) (q : ByteArray) (w : World) (h : Tr w A c l) :
    Calls Tryz.prog 37 #[.slice A l.length c, .string q] w fun e w' => (∃ (B : Option Addr) (d : Nat) (l' : List Itm), e = .returned (.slice B l'.length d) ∧ Row w' 42 3 (.slice B l'.length d) (l'.flatMap Itm.cells) ∧ (∀ k, (Value.slice B l'.length d).ownBlock = some k → w.heap.size ≤ k) ∧
      l'.map Itm.abs = underA (l.map Itm.abs) q.toList ∧ (∀ x ∈ l', Good w' x ∧ ∀ k, (Value.slice x.dA x.bs.length x.dc).ownBlock = some k → (Value.slice B l'.length d).ownBlock ≠ some k)) ∧ Below w.heap.size w w' := by
  have H := hid (parted_walk A c l q w h)
  have hun : (l.filter fun x => withinA q.toList x.p.toList).map Itm.abs = underA (l.map Itm.abs) q.toList := by unfold underA; rw [List.filter_map]; rfl
  have HU := hid hun
  clear hun h
  go_enter Tryz.func37, Tryz.ntmps37
  go_wp2_with fail
  refine H.out.mono ?_
  rintro e w1 ⟨⟨B, d, C, u, rfl, ht, _⟩, hb⟩
  have HO := hid (own_walk B d _ w1 ht)
  go_wp2_with fail
  refine HO.out.mono ?_
  rintro e w2 ⟨⟨B', d', l', rfl, hr, hf, hm, hg⟩, hb2⟩
  have hb3 := thenB hb hb2
  have hsz := hb.size
  have HM := hid hm
  have HR := hid hr
  have HF := hid hf
  have HG := hid hg
  clear hm hr hf hg
  go_wp2_with fail
  go_ret
  exact ⟨⟨_, _, _, rfl, HR.out, fun k hk => Nat.le_trans hsz (HF.out k hk), by rw [HM.out, HU.out], fun x hx => ⟨(HG.out x hx).1, fun k hk => ((HG.out x hx).2 k hk).2⟩⟩, hb3⟩

set_option maxRecDepth 100000 in
set_option maxHeartbeats 8000000 in
theorem dboth_walk (R : Nat) (x : RI) (p : ByteArray) (W : World) (h : DB R x W) (hs : DS x) (ha : x.a.l.length ≤ 30000) (hb : x.b.l.length ≤ 30000) (ho : x.o.l.length ≤ 30000) (hp : p.size ≤ 1000) (hpp : pathB p.toList = true) (hz : ∀ y ∈ x.b.l.map Itm.abs, y.p.length ≤ 1000) :
    Calls Tryz.prog 116 #[.pointer (some ⟨R, 0, none⟩), .string p] W fun e w' => e = .returned (.bool (bothOk x.abs p.toList)) ∧ (∃ x', DB R x' w' ∧ x'.abs = bothR x.abs p.toList ∧ x'.con = x.con) ∧ KR R W w' := by
  have HNA := hid (pname_walk p W (by omega))
  have HD := hid h
  have HS := hid hs
  have HN : HidP (x.a.l.length ≤ 30000 ∧ x.b.l.length ≤ 30000 ∧ x.o.l.length ≤ 30000) := hid ⟨ha, hb, ho⟩
  have HZ := hid hz
  have HP := hid hp
  have HPP := hid hpp
  have HNO : HidP (∀ w', Below W.heap.size W w' → bothOk x.abs p.toList = false → (Ending.returned (.bool false) = Ending.returned (.bool (bothOk x.abs p.toList)) ∧ (∃ x', DB R x' w' ∧ x'.abs = bothR x.abs p.toList ∧ x'.con = x.con) ∧ KR R W w')) := hid (fun w' hw h0 => ⟨by rw [h0], ⟨x, h.below hw, by unfold bothR; rw [h0]; rfl, rfl⟩, KR.then (Keep.refl (fun k => k ≠ R) W) hw⟩)
  have HBO : HidP (bothOk x.abs p.toList = (!(nameA p.toList).isEmpty && !(underA (x.b.l.map Itm.abs) p.toList).isEmpty && !(underA (x.a.l.map Itm.abs) p.toList).isEmpty && freeB x.abs (nameA p.toList) && (underA (x.b.l.map Itm.abs) p.toList).all fun x => pathB (mvA p.toList (nameA p.toList) x).p)) := hid rfl
  clear h hs ha hb ho hp hpp hz
  go_enter Tryz.func116, Tryz.ntmps116
  go_wp2_with fail
  refine HNA.out.mono ?_
  rintro e w1 ⟨⟨q, rfl, hq⟩, hb1⟩
  have HQ := hid hq
  obtain ⟨p0, p1, p2, p3, pf⟩ := (HD.out.below hb1).cells
  have HUB := hid (under_own x.b.A x.b.c x.b.l p w1 (HD.out.below hb1).b)
  clear hq HNA
  go_wp2_with fail
  refine HUB.out.mono ?_
  rintro e w2 ⟨⟨B, d, l, rfl, hrow, hfresh, hle, hgood⟩, hb2'⟩
  have hb2 := thenB hb1 hb2'
  obtain ⟨p0, p1, p2, p3, pf⟩ := (HD.out.below hb2).cells
  have hsz1 := hb1.size
  have HROW := hid hrow
  have HFR : HidP (∀ k, (Value.slice B l.length d).ownBlock = some k → W.heap.size ≤ k) := hid (fun k hk => Nat.le_trans hsz1 (hfresh k hk))
  have HLE := hid hle
  have HGD := hid hgood
  have HLN : HidP (l.length ≤ 30000) := hid (by
    have h1 := congrArg List.length hle
    have h2 := under_len_le (x.b.l.map Itm.abs) p.toList
    rw [List.length_map] at h1 h2
    have := HN.out.2.1
    omega)
  have HL0 : HidP ((underA (x.b.l.map Itm.abs) p.toList).isEmpty = ((l.length : Int) == 0)) := hid (by
    rw [← hle, Bool.eq_iff_iff]
    simp)
  clear hrow hfresh hle hgood HUB hsz1 hb2'
  cases h1 : (q.toList == [])
  case true =>
    have HF : HidP (bothOk x.abs p.toList = false) := hid (by rw [HBO.out, ← HQ.out]; simp at h1; rw [h1]; rfl)
    go_wp2_with fail
    go_ret
    exact HNO.out _ hb2 HF.out
  case false =>
  have HQN : HidP ((nameA p.toList).isEmpty = false) := hid (by rw [← HQ.out]; cases hqq : q.toList with | nil => rw [hqq] at h1; cases h1 | cons _ _ => rfl)
  cases h2 : ((l.length : Int) == 0)
  case true =>
    have HF : HidP (bothOk x.abs p.toList = false) := hid (by rw [HBO.out, HL0.out, h2]; simp)
    go_wp2_with fail
    go_ret
    exact HNO.out _ hb2 HF.out
  case false =>
  have HUA := hid (under_walk x.a.A x.a.c x.a.l p w2 (HD.out.below hb2).a)
  have H2 := hid h2
  go_wp2_with fail
  refine HUA.out.mono ?_
  rintro e w3 ⟨⟨B3, d3, l3, rfl, _, hle3⟩, hb3'⟩
  have hb3 := thenB hb2 hb3'
  replace HROW := hid (HROW.out.below hb3')
  replace HGD := hid (fun y hy => (⟨(HGD.out y hy).1.below hb3', (HGD.out y hy).2⟩ : Good w3 y ∧ ∀ k, (Value.slice y.dA y.bs.length y.dc).ownBlock = some k → (Value.slice B l.length d).ownBlock ≠ some k))
  obtain ⟨p0, p1, p2, p3, pf⟩ := (HD.out.below hb3).cells
  have HL3 : HidP ((underA (x.a.l.map Itm.abs) p.toList).isEmpty = ((l3.length : Int) == 0)) := hid (by
    rw [← hle3, Bool.eq_iff_iff]
    simp)
  clear hle3 hb3' HUA
  cases h3 : ((l3.length : Int) == 0)
  case true =>
    have HF : HidP (bothOk x.abs p.toList = false) := hid (by rw [HBO.out, HL3.out, h3]; simp)
    go_wp2_with fail
    go_ret
    exact HNO.out _ hb3 HF.out
  case false =>
  have HFW := hid (free_walk R x q w3 (HD.out.below hb3) HS.out)
  have H3 := hid h3
  go_wp2_with fail
  refine HFW.out.mono ?_
  rintro e w4 ⟨rfl, hb4'⟩
  have hb4 := thenB hb3 hb4'
  replace HROW := hid (HROW.out.below hb4')
  replace HGD := hid (fun y hy => (⟨(HGD.out y hy).1.below hb4', (HGD.out y hy).2⟩ : Good w4 y ∧ ∀ k, (Value.slice y.dA y.bs.length y.dc).ownBlock = some k → (Value.slice B l.length d).ownBlock ≠ some k))
  clear hb4' HFW
  cases h4 : freeB x.abs q.toList
  case false =>
    have HF : HidP (bothOk x.abs p.toList = false) := hid (by rw [HBO.out, ← HQ.out, h4]; simp)
    go_wp2_with fail
    go_ret
    exact HNO.out _ hb4 HF.out
  case true =>
  have HOK : HidP (bothOk x.abs p.toList = l.all fun y => pathB (mvI p q y).p.toList) := hid (by
    have e : ∀ y : Itm, (mvI p q y).p.toList = (mvA p.toList (nameA p.toList) y.abs).p := fun y => by rw [← HQ.out, ← mvI_abs]; rfl
    rw [HBO.out, HQN.out, HL0.out, H2.out, HL3.out, H3.out, ← HQ.out, h4, ← HLE.out, List.all_map]
    simp only [Bool.not_false, Bool.true_and]
    congr 1
    funext y
    rw [Function.comp, ← HQ.out] at *
    rw [e, HQ.out])
  have HQS : HidP (q.size ≤ 1001) := hid (by
    rw [← str_len, HQ.out]
    unfold nameA
    split
    · rw [List.length_append, str_len]; have := HP.out; show p.size + 1 ≤ _; omega
    · simp)
  have HLW : HidP (∀ y ∈ l, prefB p.toList y.p.toList = true ∧ y.p.size ≤ 1000 ∧ withinA p.toList y.p.toList = true) := hid (fun y hy => by
    have h5 : y.abs ∈ underA (x.b.l.map Itm.abs) p.toList := by rw [← HLE.out]; exact List.mem_map_of_mem hy
    have h6 := HZ.out _ (mem_under.1 h5).1
    have h7 : y.p.toList.length ≤ 1000 := h6
    rw [str_len] at h7
    exact ⟨within_prefB (mem_under.1 h5).2, h7, (mem_under.1 h5).2⟩)
  clear h1 h2 h3 h4 p0 p1 p2 p3 pf hb1 hb2 hb3 HL0 HL3 H2 H3
  go_wp2_with fail
  go_loopg [43] l.length (fun k i wr => ∃ j : Nat, j ≤ l.length ∧ k = l.length - j ∧ i = .int .i64 j ∧ Row wr 42 3 (.slice B l.length d) (((l.take j).map (mvI p q) ++ l.drop j).flatMap Itm.cells) ∧ Below W.heap.size W wr ∧ (∀ y ∈ l, Good wr y) ∧ ((l.take j).all fun y => pathB (mvI p q y).p.toList) = true)
  case atStart => exact ⟨0, Nat.zero_le _, rfl, rfl, by simpa using HROW.out, hb4, fun y hy => (HGD.out y hy).1, by simp⟩
  case round =>
    obtain ⟨j, hj, rfl, rfl, hrow, hbr, hgr, hall⟩ := hrel
    have HAL := hid hall
    have HGR := hid hgr
    have hln := HLN.out
    clear hall hgr
    by_cases hlt : j < l.length
    · have i0 : (0 : Int) ≤ (j : Int) := by omega
      have i1 : (j : Int) < (l.length : Int) := by omega
      have hjM : j < ((l.take j).map (mvI p q) ++ l.drop j).length := by rw [List.length_append, List.length_map, List.length_take, List.length_drop]; omega
      have hml : ((l.take j).map (mvI p q)).length = j := by rw [List.length_map, List.length_take]; omega
      have hge : ((l.take j).map (mvI p q) ++ l.drop j)[j] = l[j] := by
        rw [List.getElem_append_right (by rw [hml]; exact Nat.le_refl _)]
        simp only [hml, Nat.sub_self, List.getElem_drop, Nat.add_zero]
      obtain ⟨b, off, hB, c0, c1, c2, hfr⟩ := hrow.at3 hjM
      rw [hge] at c0 c1 c2
      have hbf : W.heap.size ≤ b := HFR.out b (by rw [hB]; rfl)
      have f0 := hfr (off + j * 3)
      obtain ⟨hpf, hsx, hwx⟩ := HLW.out l[j] (List.getElem_mem hlt)
      have htp := fun W => trimprefix l[j].p p W
      simp only [hpf, if_true] at htp
      have HTP := hid htp
      have hqs : (q ++ l[j].p.extract p.size l[j].p.size).size ≤ 2001 := by
        have := HQS.out
        rw [ByteArray.size_append, ByteArray.size_extract]
        omega
      have hadd : ∀ W, (Op.stringOp .add q (l[j].p.extract p.size l[j].p.size)).run Tryz.prog W = .ok (.string (q ++ l[j].p.extract p.size l[j].p.size)) W := fun W => run_string_add_sum W _ _ (by have h1 := hqs; rw [ByteArray.size_append] at h1; omega)
      have hset : Row (wr.setCell ⟨b, off + j * 3, none⟩ (.string (q ++ l[j].p.extract p.size l[j].p.size))) 42 3 (.slice B l.length d) (((l.take (j + 1)).map (mvI p q) ++ l.drop (j + 1)).flatMap Itm.cells) := by
        subst hB
        have h1 := hrow.set (j * 3) (.string (q ++ l[j].p.extract p.size l[j].p.size))
        rw [cells_set0 hjM, hge, List.set_append_right _ _ (by rw [hml]; exact Nat.le_refl _), hml, Nat.sub_self, List.drop_eq_getElem_cons hlt, List.set_cons_zero] at h1
        rw [List.take_add_one, List.getElem?_eq_getElem hlt, List.map_append, List.append_assoc]
        exact h1
      have hgs : ∀ y ∈ l, Good (wr.setCell ⟨b, off + j * 3, none⟩ (.string (q ++ l[j].p.extract p.size l[j].p.size))) y := fun y hy => (HGR.out y hy).set (fun k hk e => (HGD.out y hy).2 k hk (by rw [hB]; show some b = some k; rw [e])) _
      have hbs : Below W.heap.size W (wr.setCell ⟨b, off + j * 3, none⟩ (.string (q ++ l[j].p.extract p.size l[j].p.size))) := hbr.setCell hbf _
      have hcs : (wr.setCell ⟨b, off + j * 3, none⟩ (.string (q ++ l[j].p.extract p.size l[j].p.size))).cell? ⟨b, off + j * 3, none⟩ = some (.string (q ++ l[j].p.extract p.size l[j].p.size)) := World.cell?_setCell_same' wr ⟨b, off + j * 3, none⟩ _ (by rw [c0]; rfl)
      have HPQ := hid (fun W => path_walk (q ++ l[j].p.extract p.size l[j].p.size) (by omega) W)
      have HAJ : HidP (((l.take (j + 1)).all fun y => pathB (mvI p q y).p.toList) = pathB (q ++ l[j].p.extract p.size l[j].p.size).toList) := hid (by
        rw [List.take_add_one, List.getElem?_eq_getElem hlt, List.all_append, HAL.out]
        simp only [Option.toList_some, List.all_cons, List.all_nil, Bool.true_and, Bool.and_true]
        rfl)
      have HAN : HidP (pathB (q ++ l[j].p.extract p.size l[j].p.size).toList = false → bothOk x.abs p.toList = false) := hid (fun h0 => by
        rw [HOK.out, List.all_eq_false]
        exact ⟨l[j], List.getElem_mem hlt, by rw [show (mvI p q l[j]).p = q ++ l[j].p.extract p.size l[j].p.size from rfl, h0]; simp⟩)
      have HSET := hid hset
      have HGS := hid hgs
      have HBS := hid hbs
      clear hset hgs hbs hrow hpf hsx hwx htp hqs hjM hml hge c1 c2 hfr
      subst hB
      generalize hE : l[j].p.extract p.size l[j].p.size = E at *
      generalize hQ : q ++ E = Q at *
      clear hE hQ
      cases hpq : pathB Q.toList
      · have HF : HidP (bothOk x.abs p.toList = false) := hid (HAN.out hpq)
        rw [hpq] at HPQ
        go_wp2_with fail
        refine (HTP.out _).mono ?_
        rintro e w5 ⟨rfl, rfl⟩
        go_wp2_with fail
        refine (HPQ.out _).mono ?_
        rintro e w6 ⟨rfl, hb6⟩
        have hb7 := thenB HBS.out hb6
        go_wp2_with fail
        go_ret
        exact HNO.out _ hb7 HF.out
      · rw [hpq] at HPQ HAJ
        go_wp2_with fail
        refine (HTP.out _).mono ?_
        rintro e w5 ⟨rfl, rfl⟩
        go_wp2_with fail
        refine (HPQ.out _).mono ?_
        rintro e w6 ⟨rfl, hb6⟩
        have hb7 := thenB HBS.out hb6
        have hrw6 := hid (HSET.out.below hb6)
        have hgd6 := hid (fun y hy => (HGS.out y hy).below hb6)
        clear hb6
        go_wp2_with fail
        go_roundg (l.length - (j + 1))
        case measure => omega
        case rel => exact ⟨j + 1, by omega, rfl, by go_num, hrw6.out, hb7, hgd6.out, HAJ.out⟩
    · obtain rfl : j = l.length := by omega
      rw [List.take_length, List.drop_length, List.append_nil] at hrow
      rw [List.take_length] at HAL
      have HT : HidP (Tr wr B d (l.map (mvI p q))) := hid (by
        have h1 := Tr.ofRow (A := B) (c := d) (n := l.length) hrow (fun y hy => by
          obtain ⟨z, hz, rfl⟩ := List.mem_map.1 hy
          have h2 := HGR.out z hz
          have h3 := (HLW.out z hz).2.1
          have h4 := HQS.out
          exact ⟨by show (q ++ z.p.extract p.size z.p.size).size ≤ _; rw [ByteArray.size_append, ByteArray.size_extract]; omega, h2.len, h2.src, h2.rng⟩) (by rw [List.length_map]; have := HLN.out; omega)
        exact h1.2)
      have HM : HidP ((l.map (mvI p q)).map Itm.abs = (underA (x.b.l.map Itm.abs) p.toList).map (mvA p.toList q.toList)) := hid (by
        rw [← HLE.out, List.map_map, List.map_map]
        congr 1
        funext y
        exact mvI_abs p q y)
      have HPD : HidP (((underA (x.b.l.map Itm.abs) p.toList).map (mvA p.toList q.toList)).Pairwise fun x y => x.p ≠ y.p) := hid (by
        rw [List.pairwise_map]
        refine ((under_facts HS.out.sb p.toList).1.imp_of_mem ?_)
        intro y z hy hz hne e
        apply hne
        have e2 : y.p.drop p.toList.length = z.p.drop p.toList.length := List.append_cancel_left e
        rw [← pref_app (within_prefB (mem_under.1 hy).2), ← pref_app (within_prefB (mem_under.1 hz).2), e2])
      have HWQ : HidP (∀ y ∈ (underA (x.b.l.map Itm.abs) p.toList).map (mvA p.toList q.toList), withinA q.toList y.p = true) := hid (fun y hy => by
        obtain ⟨z, hz, rfl⟩ := List.mem_map.1 hy
        exact within_moved (path_ne HPP.out) (mem_under.1 hz).2)
      have HDF := hid (dfirst_walk R x p wr (HD.out.below hbr) HS.out)
      have hkw := KR.then (Keep.refl (fun k => k ≠ R) W) hbr
      have HLN2 : HidP ((l.map (mvI p q)).length = l.length) := hid (List.length_map _)
      have HOK1 : HidP (bothOk x.abs p.toList = true) := hid (by rw [HOK.out]; exact HAL.out)
      clear hrow hlt HAL HGR HGD HROW HFR HLW HNO HBO HQN HQS HLN hln hb4 HZ HP HPP
      generalize hLL : l.map (mvI p q) = LL at *
      clear hLL
      have hn : l.length = LL.length := HLN2.out.symm
      rw [hn]
      obtain ⟨L, hL⟩ : ∃ L : TrI, L = ⟨B, d, LL⟩ := ⟨_, rfl⟩
      obtain rfl : B = L.A := by rw [hL]
      obtain rfl : d = L.c := by rw [hL]
      obtain rfl : LL = L.l := by rw [hL]
      have HLn : HidP (L.l.length ≤ 100000) := hid (by rw [← hn]; have h1 := congrArg List.length HLE.out; rw [List.length_map] at h1; have h2 := under_len_le (x.b.l.map Itm.abs) p.toList; rw [List.length_map] at h2; have := HN.out.2.1; omega)
      clear hL hn HLN2 HLE HOK
      go_wp2_with fail
      refine HDF.out.mono ?_
      rintro e W0 ⟨rfl, ⟨x1, hd1, he1, hcon⟩, hk1⟩
      have HCON := hid hcon
      have HLT := hid ((HD.out.below hbr).tree HT.out hk1)
      replace HS := hid (HS.out.first HN.out.1 HN.out.2.1 HN.out.2.2 he1)
      have HLd : HidP ((L.l.map Itm.abs).Pairwise fun x y => x.p ≠ y.p) := hid (by rw [HM.out]; exact HPD.out)
      have HLw : HidP (∀ x ∈ L.l.map Itm.abs, withinA q.toList x.p = true) := hid (by rw [HM.out]; exact HWQ.out)
      have HKW := hid (hkw.trans hk1)
      replace HD := hid hd1
      have HBA : HidP (bothR x.abs p.toList = (setA (x1.a.l.map Itm.abs) q.toList (L.l.map Itm.abs), setA (x1.b.l.map Itm.abs) q.toList (L.l.map Itm.abs), setA (x1.o.l.map Itm.abs) q.toList (L.l.map Itm.abs), x1.LC.map fun z : ByteArray => z.toList)) := hid (by
        unfold bothR bothA
        rw [HOK1.out, if_pos rfl, ← he1, ← HQ.out, HM.out]
        rfl)
      have HOK : HidP (Ending.returned (.bool true) = Ending.returned (.bool (bothOk x.abs p.toList))) := hid (by rw [HOK1.out])
      clear hcon he1 hk1 hkw hbr hd1 HT HM HPD HWQ HDF HN HOK1 HQ
      go_wp2_with fail
      refine wp_region_held_drew (S := fun _ => True) (by kernel_rfl) trivial (fun hHeld => ?_)
      refine take_slot 0 70 (v := ?_) rfl rfl (by kernel_rfl) (by kernel_rfl) (by kernel_rfl) (fun _ _ _ h => h) (Or.inl ⟨by rfl, by intro W hSw; (try dsimp only at hSw); go_simp; try with_reducible rfl⟩) (by assumption) ?_
      simp only [Act.put, List.setIfInBounds_toArray, List.set_cons_zero, List.set_cons_succ]
      refine take_slot 1 71 (v := ?_) rfl rfl (by kernel_rfl) (by kernel_rfl) (by kernel_rfl) (fun _ _ _ h => h) (Or.inl ⟨by rfl, by intro W hSw; (try dsimp only at hSw); go_simp; try with_reducible rfl⟩) (by assumption) ?_
      simp only [Act.put, List.setIfInBounds_toArray, List.set_cons_zero, List.set_cons_succ]
      refine take_slot 2 72 (v := ?_) rfl rfl (by kernel_rfl) (by kernel_rfl) (by kernel_rfl) (fun _ _ _ h => h) (Or.inl ⟨by rfl, by intro W hSw; (try dsimp only at hSw); go_simp; try with_reducible rfl⟩) (by assumption) ?_
      simp only [Act.put, List.setIfInBounds_toArray, List.set_cons_zero, List.set_cons_succ]
      refine take_slot 3 73 (v := ?_) rfl rfl (by kernel_rfl) (by kernel_rfl) (by kernel_rfl) (fun _ _ _ h => h) (Or.inl ⟨by rfl, by intro W hSw; (try dsimp only at hSw); go_simp; try with_reducible rfl⟩) (by assumption) ?_
      simp only [Act.put, List.setIfInBounds_toArray, List.set_cons_zero, List.set_cons_succ]
      refine take_slot 4 74 (v := ?_) rfl rfl (by kernel_rfl) (by kernel_rfl) (by kernel_rfl) (fun _ _ _ h => h) (Or.inl ⟨by rfl, by intro W hSw; (try dsimp only at hSw); go_simp; try with_reducible rfl⟩) (by assumption) ?_
      simp only [Act.put, List.setIfInBounds_toArray, List.set_cons_zero, List.set_cons_succ]
      refine take_slot 5 75 (v := ?_) rfl rfl (by kernel_rfl) (by kernel_rfl) (by kernel_rfl) (fun _ _ _ h => h) (Or.inl ⟨by rfl, by intro W hSw; (try dsimp only at hSw); go_simp; try with_reducible rfl⟩) (by assumption) ?_
      simp only [Act.put, List.setIfInBounds_toArray, List.set_cons_zero, List.set_cons_succ]
      refine take_slot 6 76 (v := ?_) rfl rfl (by kernel_rfl) (by kernel_rfl) (by kernel_rfl) (fun _ _ _ h => h) (Or.inl ⟨by rfl, by intro W hSw; (try dsimp only at hSw); go_simp; try with_reducible rfl⟩) (by assumption) ?_
      simp only [Act.put, List.setIfInBounds_toArray, List.set_cons_zero, List.set_cons_succ]
      refine take_slot 8 78 (v := ?_) rfl rfl (by kernel_rfl) (by kernel_rfl) (by kernel_rfl) (fun _ _ _ h => h) (Or.inl ⟨by rfl, by intro W hSw; (try dsimp only at hSw); go_simp; try with_reducible rfl⟩) (by assumption) ?_
      simp only [Act.put, List.setIfInBounds_toArray, List.set_cons_zero, List.set_cons_succ]
      refine take_slot 9 79 (v := ?_) rfl rfl (by kernel_rfl) (by kernel_rfl) (by kernel_rfl) (fun _ _ _ h => h) (Or.inl ⟨by rfl, by intro W hSw; (try dsimp only at hSw); go_simp; try with_reducible rfl⟩) (by assumption) ?_
      simp only [Act.put, List.setIfInBounds_toArray, List.set_cons_zero, List.set_cons_succ]
      refine take_slot 11 81 (v := ?_) rfl rfl (by kernel_rfl) (by kernel_rfl) (by kernel_rfl) (fun _ _ _ h => h) (Or.inl ⟨by rfl, by intro W hSw; (try dsimp only at hSw); go_simp; try with_reducible rfl⟩) (by assumption) ?_
      simp only [Act.put, List.setIfInBounds_toArray, List.set_cons_zero, List.set_cons_succ]
      refine take_slot 12 82 (v := ?_) rfl rfl (by kernel_rfl) (by kernel_rfl) (by kernel_rfl) (fun _ _ _ h => h) (Or.inl ⟨by rfl, by intro W hSw; (try dsimp only at hSw); go_simp; try with_reducible rfl⟩) (by assumption) ?_
      simp only [Act.put, List.setIfInBounds_toArray, List.set_cons_zero, List.set_cons_succ]
      refine take_slot 13 83 (v := ?_) rfl rfl (by kernel_rfl) (by kernel_rfl) (by kernel_rfl) (fun _ _ _ h => h) (Or.inl ⟨by rfl, by intro W hSw; (try dsimp only at hSw); go_simp; try with_reducible rfl⟩) (by assumption) ?_
      simp only [Act.put, List.setIfInBounds_toArray, List.set_cons_zero, List.set_cons_succ]
      refine take_slot 14 84 (v := ?_) rfl rfl (by kernel_rfl) (by kernel_rfl) (by kernel_rfl) (fun _ _ _ h => h) (Or.inl ⟨by rfl, by intro W hSw; (try dsimp only at hSw); go_simp; try with_reducible rfl⟩) (by assumption) ?_
      simp only [Act.put, List.setIfInBounds_toArray, List.set_cons_zero, List.set_cons_succ]
      refine take_slot 16 86 (v := ?_) rfl rfl (by kernel_rfl) (by kernel_rfl) (by kernel_rfl) (fun _ _ _ h => h) (Or.inl ⟨by rfl, by intro W hSw; (try dsimp only at hSw); go_simp; try with_reducible rfl⟩) (by assumption) ?_
      simp only [Act.put, List.setIfInBounds_toArray, List.set_cons_zero, List.set_cons_succ]
      refine take_slot 17 87 (v := ?_) rfl rfl (by kernel_rfl) (by kernel_rfl) (by kernel_rfl) (fun _ _ _ h => h) (Or.inl ⟨by rfl, by intro W hSw; (try dsimp only at hSw); go_simp; try with_reducible rfl⟩) (by assumption) ?_
      simp only [Act.put, List.setIfInBounds_toArray, List.set_cons_zero, List.set_cons_succ]
      refine take_slot 19 89 (v := ?_) rfl rfl (by kernel_rfl) (by kernel_rfl) (by kernel_rfl) (fun _ _ _ h => h) (Or.inl ⟨by rfl, by intro W hSw; (try dsimp only at hSw); go_simp; try with_reducible rfl⟩) (by assumption) ?_
      simp only [Act.put, List.setIfInBounds_toArray, List.set_cons_zero, List.set_cons_succ]
      refine take_slot 20 90 (v := ?_) rfl rfl (by kernel_rfl) (by kernel_rfl) (by kernel_rfl) (fun _ _ _ h => h) (Or.inl ⟨by rfl, by intro W hSw; (try dsimp only at hSw); go_simp; try with_reducible rfl⟩) (by assumption) ?_
      simp only [Act.put, List.setIfInBounds_toArray, List.set_cons_zero, List.set_cons_succ]
      refine take_slot 21 91 (v := ?_) rfl rfl (by kernel_rfl) (by kernel_rfl) (by kernel_rfl) (fun _ _ _ h => h) (Or.inl ⟨by rfl, by intro W hSw; (try dsimp only at hSw); go_simp; try with_reducible rfl⟩) (by assumption) ?_
      simp only [Act.put, List.setIfInBounds_toArray, List.set_cons_zero, List.set_cons_succ]
      refine take_slot 22 92 (v := ?_) rfl rfl (by kernel_rfl) (by kernel_rfl) (by kernel_rfl) (fun _ _ _ h => h) (Or.inl ⟨by rfl, by intro W hSw; (try dsimp only at hSw); go_simp; try with_reducible rfl⟩) (by assumption) ?_
      simp only [Act.put, List.setIfInBounds_toArray, List.set_cons_zero, List.set_cons_succ]
      refine take_slot 24 94 (v := ?_) rfl rfl (by kernel_rfl) (by kernel_rfl) (by kernel_rfl) (fun _ _ _ h => h) (Or.inl ⟨by rfl, by intro W hSw; (try dsimp only at hSw); go_simp; try with_reducible rfl⟩) (by assumption) ?_
      simp only [Act.put, List.setIfInBounds_toArray, List.set_cons_zero, List.set_cons_succ]
      refine take_slot 25 95 (v := ?_) rfl rfl (by kernel_rfl) (by kernel_rfl) (by kernel_rfl) (fun _ _ _ h => h) (Or.inl ⟨by rfl, by intro W hSw; (try dsimp only at hSw); go_simp; try with_reducible rfl⟩) (by assumption) ?_
      simp only [Act.put, List.setIfInBounds_toArray, List.set_cons_zero, List.set_cons_succ]
      refine flow_region (ks := [7, 10, 15, 18, 23, 26]) dbothDst (dbothG x1 q.toList (L.l.map Itm.abs)) (fun _ _ _ _ => True) 12 (by kernel_rfl) (by kernel_rfl) (by kernel_rfl) (by decide) (by simp [dbothDst]) (by decide) trivial dbothG_mono ?step ?fin
      case step =>
        intro i' hi' a' w' hF _ hpre
        have hb' : Below W0.heap.size W0 w' := ⟨hF.below.os, hF.below.tape, hF.below.output, hF.below.size, hF.below.block⟩
        simp only [List.mem_cons, List.not_mem_nil, or_false] at hi'
        rcases hi' with rfl | rfl | rfl | rfl | rfl | rfl
        · refine ⟨_, rfl, rfl, fun K hK => ?_⟩
          refine oper_load_tree (t := 76) (p := ⟨R, 0, none⟩) (by rfl) (by rw [hF.eval (by decide)]; kernel_rfl) (HD.out.below hb').cells.1 ?_
          exact hK _ _ (Below.refl _ _) trivial rfl fun _ _ _ _ => ⟨trivial, trivial⟩
        · refine ⟨_, rfl, rfl, fun K hK => ?_⟩
          have e1 : a'.tmps.getD 77 undef = .slice x1.a.A x1.a.l.length x1.a.c := hpre 7 (by simp) (by kernel_rfl)
          have hc := set_walk x1.a q L w' ((HD.out.below hb').a) (HLT.out.below hb') HS.out.na HLn.out HS.out.sa HLd.out HLw.out
          refine oper_call3 148 _ _ (by rfl) Tryz.func148 (by kernel_rfl) (by kernel_rfl) [.slice x1.a.A x1.a.l.length x1.a.c, .string q, .slice L.A L.l.length L.c] (by show [a'.eval (.tmp 77), a'.eval (.tmp 78), a'.eval (.tmp 79)] = _; rw [show a'.eval (.tmp 77) = _ from e1, hF.eval (by decide), hF.eval (by decide)]; kernel_rfl) hc ?_
          rintro e w2 ⟨⟨B, d, K', rfl, ht, he⟩, hb2⟩
          exact ⟨_, rfl, hK _ _ hb2 trivial ⟨B, d, K', rfl, ht, he⟩ fun _ _ _ _ => ⟨trivial, trivial⟩⟩
        · refine ⟨_, rfl, rfl, fun K hK => ?_⟩
          refine oper_load_tree (t := 84) (p := ⟨R, 1, none⟩) (by rfl) (by rw [hF.eval (by decide)]; kernel_rfl) (HD.out.below hb').cells.2.1 ?_
          exact hK _ _ (Below.refl _ _) trivial rfl fun _ _ _ _ => ⟨trivial, trivial⟩
        · refine ⟨_, rfl, rfl, fun K hK => ?_⟩
          have e1 : a'.tmps.getD 85 undef = .slice x1.b.A x1.b.l.length x1.b.c := hpre 15 (by simp) (by kernel_rfl)
          have hc := set_walk x1.b q L w' ((HD.out.below hb').b) (HLT.out.below hb') HS.out.nb HLn.out HS.out.sb HLd.out HLw.out
          refine oper_call3 148 _ _ (by rfl) Tryz.func148 (by kernel_rfl) (by kernel_rfl) [.slice x1.b.A x1.b.l.length x1.b.c, .string q, .slice L.A L.l.length L.c] (by show [a'.eval (.tmp 85), a'.eval (.tmp 86), a'.eval (.tmp 87)] = _; rw [show a'.eval (.tmp 85) = _ from e1, hF.eval (by decide), hF.eval (by decide)]; kernel_rfl) hc ?_
          rintro e w2 ⟨⟨B, d, K', rfl, ht, he⟩, hb2⟩
          exact ⟨_, rfl, hK _ _ hb2 trivial ⟨B, d, K', rfl, ht, he⟩ fun _ _ _ _ => ⟨trivial, trivial⟩⟩
        · refine ⟨_, rfl, rfl, fun K hK => ?_⟩
          refine oper_load_tree (t := 92) (p := ⟨R, 2, none⟩) (by rfl) (by rw [hF.eval (by decide)]; kernel_rfl) (HD.out.below hb').cells.2.2.1 ?_
          exact hK _ _ (Below.refl _ _) trivial rfl fun _ _ _ _ => ⟨trivial, trivial⟩
        · refine ⟨_, rfl, rfl, fun K hK => ?_⟩
          have e1 : a'.tmps.getD 93 undef = .slice x1.o.A x1.o.l.length x1.o.c := hpre 23 (by simp) (by kernel_rfl)
          have hc := set_walk x1.o q L w' ((HD.out.below hb').o) (HLT.out.below hb') HS.out.no HLn.out HS.out.so HLd.out HLw.out
          refine oper_call3 148 _ _ (by rfl) Tryz.func148 (by kernel_rfl) (by kernel_rfl) [.slice x1.o.A x1.o.l.length x1.o.c, .string q, .slice L.A L.l.length L.c] (by show [a'.eval (.tmp 93), a'.eval (.tmp 94), a'.eval (.tmp 95)] = _; rw [show a'.eval (.tmp 93) = _ from e1, hF.eval (by decide), hF.eval (by decide)]; kernel_rfl) hc ?_
          rintro e w2 ⟨⟨B, d, K', rfl, ht, he⟩, hb2⟩
          exact ⟨_, rfl, hK _ _ hb2 trivial ⟨B, d, K', rfl, ht, he⟩ fun _ _ _ _ => ⟨trivial, trivial⟩⟩
      case fin =>
        intro a' w' hF _ hG _
        have hb' : Below W0.heap.size W0 w' := ⟨hF.below.os, hF.below.tape, hF.below.output, hF.below.size, hF.below.block⟩
        have l0 : a'.tmps.getD 77 undef = .slice x1.a.A x1.a.l.length x1.a.c := hG 7 (by simp)
        have g0 : TreeG (setA (x1.a.l.map Itm.abs) q.toList (L.l.map Itm.abs)) (a'.tmps.getD 80 undef) w' := hG 10 (by simp)
        obtain ⟨B0, d0, K0, e0, ht0, he0⟩ := g0
        have l1 : a'.tmps.getD 85 undef = .slice x1.b.A x1.b.l.length x1.b.c := hG 15 (by simp)
        have g1 : TreeG (setA (x1.b.l.map Itm.abs) q.toList (L.l.map Itm.abs)) (a'.tmps.getD 88 undef) w' := hG 18 (by simp)
        obtain ⟨B1, d1, K1, e1, ht1, he1⟩ := g1
        have l2 : a'.tmps.getD 93 undef = .slice x1.o.A x1.o.l.length x1.o.c := hG 23 (by simp)
        have g2 : TreeG (setA (x1.o.l.map Itm.abs) q.toList (L.l.map Itm.abs)) (a'.tmps.getD 96 undef) w' := hG 26 (by simp)
        obtain ⟨B2, d2, K2, e2, ht2, he2⟩ := g2
        have hact := hF.act
        simp only [List.foldl_cons, List.foldl_nil, dbothDst, l0, e0, l1, e1, l2, e2, List.setIfInBounds_toArray, List.set_cons_zero, List.set_cons_succ] at hact
        clear hF hG l0 e0 l1 e1 l2 e2
        subst hact
        have HD0 := hid (HD.out.below hb')
        have HK0 := hid (KR.then (Keep.refl (fun k => k ≠ R) W0) hb')
        clear hb'
        have HT0 := hid ht0
        have HE0 := hid he0
        have HT1 := hid ht1
        have HE1 := hid he1
        have HT2 := hid ht2
        have HE2 := hid he2
        clear ht0 he0 ht1 he1 ht2 he2
        refine take_slot 27 97 (v := ?_) rfl rfl (by kernel_rfl) (by kernel_rfl) (by kernel_rfl) (fun _ _ _ h => h) (Or.inl ⟨by rfl, by intro W hSw; (try dsimp only at hSw); go_simp; try with_reducible rfl⟩) (by assumption) ?_
        simp only [Act.put, List.setIfInBounds_toArray, List.set_cons_zero, List.set_cons_succ]
        refine take_slot 28 98 (v := ?_) rfl rfl (by kernel_rfl) (by kernel_rfl) (by kernel_rfl) (fun _ _ _ h => h) (Or.inl ⟨by rfl, by intro W hSw; (try dsimp only at hSw); go_simp; try with_reducible rfl⟩) (by assumption) ?_
        simp only [Act.put, List.setIfInBounds_toArray, List.set_cons_zero, List.set_cons_succ]
        refine take_slot 29 99 (v := ?_) rfl rfl (by kernel_rfl) (by kernel_rfl) (by kernel_rfl) (fun _ _ _ h => h) (Or.inl ⟨by rfl, by intro W hSw; (try dsimp only at hSw); go_simp; try with_reducible rfl⟩) (by assumption) ?_
        simp only [Act.put, List.setIfInBounds_toArray, List.set_cons_zero, List.set_cons_succ]
        obtain ⟨s0, s1, s2, s3, sf⟩ := HD0.out.cells
        have f0 := sf 0
        refine wpAnyH_ready (rs := [30]) (by kernel_rfl) (by simp) ?_
        refine AllReadyH.cons (o := _) rfl (fun K hK => ?_) AllReadyH.nil
        go_simp
        refine hK.out _ _ trivial (fun _ => ?_)
        try simp only [Act.put]
        have hk1 : KR R w' (w'.setCell ⟨R, 0, none⟩ (.slice B0 K0.length d0)) := KR.setR (Keep.refl _ _) 0 _
        have HD1 := hid (HD0.out.setA HT0.out)
        have HK1 := hid (HK0.out.trans hk1)
        replace HT1 := hid (HD0.out.tree HT1.out hk1)
        replace HT2 := hid (HD0.out.tree HT2.out hk1)
        clear hK K s0 s1 s2 s3 sf f0 hk1 HD0 HK0
        generalize (w'.setCell ⟨R, 0, none⟩ (.slice B0 K0.length d0)) = v1 at *
        refine take_slot 31 100 (v := ?_) rfl rfl (by kernel_rfl) (by kernel_rfl) (by kernel_rfl) (fun _ _ _ h => h) (Or.inl ⟨by rfl, by intro W hSw; (try dsimp only at hSw); go_simp; try with_reducible rfl⟩) (by assumption) ?_
        simp only [Act.put, List.setIfInBounds_toArray, List.set_cons_zero, List.set_cons_succ]
        refine take_slot 32 101 (v := ?_) rfl rfl (by kernel_rfl) (by kernel_rfl) (by kernel_rfl) (fun _ _ _ h => h) (Or.inl ⟨by rfl, by intro W hSw; (try dsimp only at hSw); go_simp; try with_reducible rfl⟩) (by assumption) ?_
        simp only [Act.put, List.setIfInBounds_toArray, List.set_cons_zero, List.set_cons_succ]
        refine take_slot 33 102 (v := ?_) rfl rfl (by kernel_rfl) (by kernel_rfl) (by kernel_rfl) (fun _ _ _ h => h) (Or.inl ⟨by rfl, by intro W hSw; (try dsimp only at hSw); go_simp; try with_reducible rfl⟩) (by assumption) ?_
        simp only [Act.put, List.setIfInBounds_toArray, List.set_cons_zero, List.set_cons_succ]
        obtain ⟨s0, s1, s2, s3, sf⟩ := HD1.out.cells
        have f0 := sf 1
        refine wpAnyH_ready (rs := [34]) (by kernel_rfl) (by simp) ?_
        refine AllReadyH.cons (o := _) rfl (fun K hK => ?_) AllReadyH.nil
        go_simp
        refine hK.out _ _ trivial (fun _ => ?_)
        try simp only [Act.put]
        have hk2 : KR R v1 (v1.setCell ⟨R, 1, none⟩ (.slice B1 K1.length d1)) := KR.setR (Keep.refl _ _) 1 _
        have HD2 := hid (HD1.out.setB HT1.out)
        have HK2 := hid (HK1.out.trans hk2)
        replace HT2 := hid (HD1.out.tree HT2.out hk2)
        clear hK K s0 s1 s2 s3 sf f0 hk2 HD1 HK1
        generalize (v1.setCell ⟨R, 1, none⟩ (.slice B1 K1.length d1)) = v2 at *
        refine take_slot 35 103 (v := ?_) rfl rfl (by kernel_rfl) (by kernel_rfl) (by kernel_rfl) (fun _ _ _ h => h) (Or.inl ⟨by rfl, by intro W hSw; (try dsimp only at hSw); go_simp; try with_reducible rfl⟩) (by assumption) ?_
        simp only [Act.put, List.setIfInBounds_toArray, List.set_cons_zero, List.set_cons_succ]
        refine take_slot 36 104 (v := ?_) rfl rfl (by kernel_rfl) (by kernel_rfl) (by kernel_rfl) (fun _ _ _ h => h) (Or.inl ⟨by rfl, by intro W hSw; (try dsimp only at hSw); go_simp; try with_reducible rfl⟩) (by assumption) ?_
        simp only [Act.put, List.setIfInBounds_toArray, List.set_cons_zero, List.set_cons_succ]
        refine take_slot 37 105 (v := ?_) rfl rfl (by kernel_rfl) (by kernel_rfl) (by kernel_rfl) (fun _ _ _ h => h) (Or.inl ⟨by rfl, by intro W hSw; (try dsimp only at hSw); go_simp; try with_reducible rfl⟩) (by assumption) ?_
        simp only [Act.put, List.setIfInBounds_toArray, List.set_cons_zero, List.set_cons_succ]
        obtain ⟨s0, s1, s2, s3, sf⟩ := HD2.out.cells
        have f0 := sf 2
        refine wpAnyH_ready (rs := [38]) (by kernel_rfl) (by simp) ?_
        refine AllReadyH.cons (o := _) rfl (fun K hK => ?_) AllReadyH.nil
        go_simp
        refine hK.out _ _ trivial (fun _ => ?_)
        try simp only [Act.put]
        have hk3 : KR R v2 (v2.setCell ⟨R, 2, none⟩ (.slice B2 K2.length d2)) := KR.setR (Keep.refl _ _) 2 _
        have HD3 := hid (HD2.out.setO HT2.out)
        have HK3 := hid (HK2.out.trans hk3)
        clear hK K s0 s1 s2 s3 sf f0 hk3 HD2 HK2
        generalize (v2.setCell ⟨R, 2, none⟩ (.slice B2 K2.length d2)) = v3 at *
        refine wpAnyH_done (by kernel_rfl) ?_ _
        clear hHeld
        have HAB : HidP (RI.abs { x1 with a := ⟨B0, d0, K0⟩, b := ⟨B1, d1, K1⟩, o := ⟨B2, d2, K2⟩ } = bothR x.abs p.toList) := hid (by
          rw [HBA.out]
          unfold RI.abs
          simp only
          rw [HE0.out, HE1.out, HE2.out])
        go_wp2_with fail
        go_ret
        exact ⟨HOK.out, ⟨_, HD3.out, HAB.out, HCON.out⟩, HKW.out.trans HK3.out⟩


end Go.Proofs.YtfbbjfbnkcklgaaGreatDoor

/- the desk: holds, fits (printed by gen/genJ5.py) -/
namespace Go.Proofs.YtfbbjfbnkcklgaaGreatDoor
open Go.RowKit

theorem sprefix_walk (s p : ByteArray) (w : World) : Calls Tryz.prog 108 #[.string s, .string p] w fun e w' => e = .returned (.bool (prefB p.toList s.toList)) ∧ w = w' := by
  have H := hid (hasprefix s p w)
  generalize prefB p.toList s.toList = r at *
  go_enter Tryz.func108, Tryz.ntmps108
  go_wp2_with fail
  refine H.out.mono ?_
  rintro e w' ⟨rfl, rfl⟩
  go_wp2_with fail
  go_ret
  exact ⟨rfl, rfl⟩

/-- has a tree the directory of a path? -/
def holdsB (T : List AIt) (p : Txt) : Bool := (splitL p).1 == [] || foundDir T (splitL p).1
set_option maxHeartbeats 2000000 in
theorem holds_walk (t : TrI) (p : ByteArray) (w : World) (hp : p.size ≤ 140737488351232) (h : Tr w t.A t.c t.l) (hs : sortedA (t.l.map Itm.abs)) :
    Calls Tryz.prog 109 #[.slice t.A t.l.length t.c, .string p] w fun e w' => e = .returned (.bool (holdsB (t.l.map Itm.abs) p.toList)) ∧ Below w.heap.size w w' := by
  have HS := hid (split_walk p w hp)
  have HT := hid h
  have HI := hid (sortedI_of hs)
  clear h hs
  go_enter Tryz.func109, Tryz.ntmps109
  go_wp2_with fail
  refine HS.out.mono ?_
  rintro e w1 ⟨⟨d, n, rfl, hdn⟩, hb1⟩
  have hd : d.toList = (splitL p.toList).1 := congrArg Prod.fst hdn
  have HF := hid (find_walk t.A t.c t.l d w1 (HT.out.below hb1))
  have HB : HidP (holdsB (t.l.map Itm.abs) p.toList = (d.toList == [] || foundDir (t.l.map Itm.abs) d.toList)) := hid (by unfold holdsB; rw [hd])
  clear hdn hd
  go_wp2_with fail
  refine HF.out.mono ?_
  rintro e w2 ⟨⟨x, is, rfl, hg, h0, h1⟩, hb2'⟩
  have hb2 := thenB hb1 hb2'
  have hfd : HidP (foundDir (t.l.map Itm.abs) d.toList = x.d) := hid (by
    obtain ⟨h2, h3⟩ := h1 HI.out
    unfold foundDir
    cases is
    · have e0 : findA (t.l.map Itm.abs) d.toList = none := by simpa using h2
      rw [e0]
      exact (congrArg AIt.d (h0 rfl)).symm
    · rw [h3 rfl]
      rfl)
  have hb3 := thenA hb2 (.cells #[.string x.p, .bool x.d, .slice x.dA x.bs.length x.dc] 42 (0, 0))
  clear h0 h1 hg hb2' hb1 HF
  cases hdd : (d.toList == [])
  · have HR : HidP (holdsB (t.l.map Itm.abs) p.toList = x.d) := hid (by rw [HB.out, hdd, hfd.out]; rfl)
    go_wp2_with fail
    go_ret
    exact ⟨by rw [HR.out]; rfl, hb3⟩
  · have HR : HidP (holdsB (t.l.map Itm.abs) p.toList = true) := hid (by rw [HB.out, hdd]; rfl)
    go_wp2_with fail
    go_ret
    exact ⟨by rw [HR.out]; rfl, hb3⟩

set_option maxHeartbeats 1600000 in
theorem fits1_walk (q p : ByteArray) (b : Nat) (w : World) (hc : w.cell? ⟨b, 0, none⟩ = some (.string p)) (hq : q.size ≤ 1000) (h1 : Op.bytesLess q.toList p.toList = true) (h2 : prefB (q.toList ++ [47]) p.toList = false) :
    Calls Tryz.prog 107 #[.string q, .pointer (some ⟨b, 0, none⟩)] w fun e w' => e = .returned (.bool false) ∧ w = w' := by
  have hadd : ∀ W, (Op.stringOp .add q ⟨#[47]⟩).run Tryz.prog W = .ok (.string (q ++ ⟨#[47]⟩)) W := fun W => run_string_add_sum W _ _ (by show q.size + 1 ≤ _; omega)
  have htl : (q ++ ⟨#[47]⟩).toList = q.toList ++ [47] := by
    rw [app_toList]
    congr 1
    kernel_rfl
  have HW := hid (fun W => sprefix_walk p (q ++ ⟨#[47]⟩) W)
  rw [htl, h2] at HW
  clear htl h2
  go_enter Tryz.func107, Tryz.ntmps107
  go_wp2_with fail
  refine (HW.out _).mono ?_
  rintro e w' ⟨rfl, rfl⟩
  go_wp2_with fail
  go_ret
  exact ⟨rfl, rfl⟩

/-- rising, and none within another one -/
def Apart (L : List Txt) : Prop := L.Pairwise fun c d => Op.bytesLess c d = true ∧ prefB (c ++ [47]) d = false
set_option maxHeartbeats 1600000 in
theorem ixstr_walk (A : Option Addr) (c : Nat) (l : List ByteArray) (p : ByteArray) (b : Nat) (w : World) (hr : Row w 9 1 (.slice A l.length c) (l.map .string)) (hc : w.cell? ⟨b, 0, none⟩ = some (.string p)) (hl : ∀ q ∈ l, q.size ≤ 1000 ∧ Op.bytesLess q.toList p.toList = true ∧ prefB (q.toList ++ [47]) p.toList = false) (hn : l.length ≤ 1000000) :
    Calls Tryz.prog 147 #[.slice A l.length c, .func (.func 107) #[] #[.pointer (some ⟨b, 0, none⟩)]] w fun e w' => e = .returned (.int .i64 (-1)) ∧ w = w' := by
  have HR := hid hr
  have HL := hid hl
  have HC := hid hc
  clear hr hl hc
  go_enter Tryz.func147, Tryz.ntmps147
  go_wp2_with fail
  go_loopg [8] l.length (fun k i wr => ∃ j : Nat, j ≤ l.length ∧ k = l.length - j ∧ i = .int .i64 j ∧ wr = w)
  case atStart => exact ⟨0, Nat.zero_le _, rfl, rfl, rfl⟩
  case round =>
    obtain ⟨j, hj, rfl, rfl, rfl⟩ := hrel
    by_cases hlt : j < l.length
    · have i0 : (0 : Int) ≤ (j : Int) := by omega
      have i1 : (j : Int) < (l.length : Int) := by omega
      obtain ⟨b1, o1, hA, k1⟩ := HR.out.str hlt
      obtain ⟨q1, q2, q3⟩ := HL.out l[j] (List.getElem_mem hlt)
      have HW := hid (fits1_walk l[j] p b wr HC.out q1 q2 q3)
      clear q1 q2 q3
      subst hA
      go_wp2_with fail
      refine HW.out.mono ?_
      rintro e w' ⟨rfl, rfl⟩
      go_wp2_with fail
      go_roundg (l.length - (j + 1))
      case measure => omega
      case rel => exact ⟨j + 1, by omega, rfl, by go_num, rfl⟩
    · obtain rfl : j = l.length := by omega
      go_wp2_with fail
      go_ret
      exact ⟨rfl, rfl⟩
theorem constr_walk (A : Option Addr) (c : Nat) (l : List ByteArray) (p : ByteArray) (b : Nat) (w : World) (hr : Row w 9 1 (.slice A l.length c) (l.map .string)) (hc : w.cell? ⟨b, 0, none⟩ = some (.string p)) (hl : ∀ q ∈ l, q.size ≤ 1000 ∧ Op.bytesLess q.toList p.toList = true ∧ prefB (q.toList ++ [47]) p.toList = false) (hn : l.length ≤ 1000000) :
    Calls Tryz.prog 110 #[.slice A l.length c, .func (.func 107) #[] #[.pointer (some ⟨b, 0, none⟩)]] w fun e w' => e = .returned (.bool false) ∧ w = w' := by
  have HI := hid (ixstr_walk A c l p b w hr hc hl hn)
  clear hr hc hl
  go_enter Tryz.func110, Tryz.ntmps110
  go_wp2_with fail
  refine HI.out.mono ?_
  rintro e w' ⟨rfl, rfl⟩
  go_wp2_with fail
  go_ret
  exact ⟨rfl, rfl⟩


/-- a result that fits -/
structure Fit (v : Abs4) : Prop where
  ra : rightA v.1 = true
  rb : rightA v.2.1 = true
  ro : rightA v.2.2.1 = true
  path : ∀ c ∈ v.2.2.2, pathB c = true
  ha : ∀ c ∈ v.2.2.2, holdsB v.1 c = true
  hb : ∀ c ∈ v.2.2.2, holdsB v.2.1 c = true
  ho : ∀ c ∈ v.2.2.2, holdsB v.2.2.1 c = true
  apart : Apart v.2.2.2
theorem apart_take {L : List ByteArray} (h : Apart (L.map fun z : ByteArray => z.toList)) {j : Nat} (hj : j < L.length) : ∀ q ∈ L.take j, Op.bytesLess q.toList L[j].toList = true ∧ prefB (q.toList ++ [47]) L[j].toList = false := by
  intro q hq
  unfold Apart at h
  rw [List.pairwise_map] at h
  obtain ⟨i, hi, rfl⟩ := List.getElem_of_mem hq
  rw [List.length_take] at hi
  rw [List.getElem_take]
  exact List.pairwise_iff_getElem.1 h i j (by omega) hj (by omega)
set_option maxRecDepth 100000 in
set_option maxHeartbeats 8000000 in
theorem fits_walk (R : Nat) (x : RI) (W : World) (h : DB R x W) (hf : Fit x.abs) (hn : x.LC.length ≤ 100000) :
    Calls Tryz.prog 80 #[.pointer (some ⟨R, 0, none⟩)] W fun e w' => e = .returned (.bool true) ∧ Below W.heap.size W w' := by
  have HD := hid h
  have HF := hid hf
  have HRA := hid (right_walk x.a.A x.a.c x.a.l W h.a)
  have HRB := hid (fun W' (hb : Below W.heap.size W W') => right_walk x.b.A x.b.c x.b.l W' (h.b.below hb))
  have HRO := hid (fun W' (hb : Below W.heap.size W W') => right_walk x.o.A x.o.c x.o.l W' (h.o.below hb))
  rw [show rightA (x.a.l.map Itm.abs) = true from hf.ra] at HRA
  rw [show rightA (x.b.l.map Itm.abs) = true from hf.rb] at HRB
  rw [show rightA (x.o.l.map Itm.abs) = true from hf.ro] at HRO
  obtain ⟨p0, p1, p2, p3, pf⟩ := h.cells
  clear h hf
  obtain ⟨ti, hi0, hz0, hz1, hz2⟩ := info_parts infoStr
  go_enter Tryz.func80, Tryz.ntmps80
  go_wp2_with fail
  refine HRA.out.mono ?_
  rintro e w1 ⟨rfl, hb1⟩
  obtain ⟨p0, p1, p2, p3, pf⟩ := (HD.out.below hb1).cells
  go_wp2_with fail
  refine (HRB.out _ hb1).mono ?_
  rintro e w2 ⟨rfl, hb2'⟩
  have hb2 := thenB hb1 hb2'
  obtain ⟨p0, p1, p2, p3, pf⟩ := (HD.out.below hb2).cells
  clear hb2'
  go_wp2_with fail
  refine (HRO.out _ hb2).mono ?_
  rintro e w3 ⟨rfl, hb3'⟩
  have hb3 := thenB hb2 hb3'
  obtain ⟨p0, p1, p2, p3, pf⟩ := (HD.out.below hb3).cells
  clear hb3' HRA HRB HRO hb1 hb2
  go_wp2_with fail
  go_loopg [3, 38] x.LC.length (fun k last i wr => ∃ (j : Nat) (LA : Option Addr) (Lc : Nat) (M : List ByteArray), j ≤ x.LC.length ∧ k = x.LC.length - j ∧ i = .int .i64 j ∧ last = .slice LA M.length Lc ∧ M = x.LC.take j ∧ Row wr 9 1 (.slice LA M.length Lc) (M.map .string) ∧ (∀ k, (Value.slice LA M.length Lc).ownBlock = some k → W.heap.size ≤ k) ∧ Below W.heap.size W wr)
  case atStart => exact ⟨0, none, 0, [], Nat.zero_le _, rfl, rfl, rfl, rfl, Row.nil _ _ _, by simp [Value.ownBlock], hb3⟩
  case round =>
    obtain ⟨j, LA, Lc, M, hj, rfl, rfl, rfl, hM, hrow, hfr, hbr⟩ := hrel
    have HM := hid hM
    have HROW := hid hrow
    have HFR := hid hfr
    clear hM hrow hfr p0 p1 p2 p3 pf
    obtain ⟨p0, p1, p2, p3, pf⟩ := (HD.out.below hbr).cells
    by_cases hlt : j < x.LC.length
    · have i0 : (0 : Int) ≤ (j : Int) := by omega
      have i1 : (j : Int) < (x.LC.length : Int) := by omega
      obtain ⟨cb, co, hcA, ck⟩ := (HD.out.below hbr).c.str hlt
      have HP : HidP (pathB x.LC[j].toList = true) := hid (HF.out.path _ (List.mem_map_of_mem (List.getElem_mem hlt)))
      have HHOL : HidP (holdsB (x.a.l.map Itm.abs) x.LC[j].toList = true ∧ holdsB (x.b.l.map Itm.abs) x.LC[j].toList = true ∧ holdsB (x.o.l.map Itm.abs) x.LC[j].toList = true) := hid ⟨HF.out.ha _ (List.mem_map_of_mem (List.getElem_mem hlt)), HF.out.hb _ (List.mem_map_of_mem (List.getElem_mem hlt)), HF.out.ho _ (List.mem_map_of_mem (List.getElem_mem hlt))⟩
      have HQ : HidP (∀ q ∈ M, q.size ≤ 1000 ∧ Op.bytesLess q.toList x.LC[j].toList = true ∧ prefB (q.toList ++ [47]) x.LC[j].toList = false) := hid (fun q hq => by
        rw [HM.out] at hq
        have h1 := HF.out.path q.toList (List.mem_map_of_mem (List.mem_of_mem_take hq))
        have h2 := pathB_short h1
        rw [str_len] at h2
        exact ⟨by omega, apart_take HF.out.apart hlt q hq⟩)
      have HML : HidP (M.length ≤ 100000 ∧ M.length = j) := hid (by rw [HM.out, List.length_take]; omega)
      have HMN : HidP (M ++ [x.LC[j]] = x.LC.take (j + 1)) := hid (by rw [HM.out, List.take_add_one, List.getElem?_eq_getElem hlt]; rfl)
      have hb5' := (thenA hbr (.cells #[.string x.LC[j]] 9 (0, 0)))
      have hk5 := heap_alloc_new wr (.cells #[.string x.LC[j]] 9 (0, 0))
      have hbw : Below wr.heap.size wr (wr.alloc (.cells #[.string x.LC[j]] 9 (0, 0))) := thenA (Below.refl _ wr) _
      have HCA := hid hcA
      rw [hcA]
      go_wp2_with fail
      have k5 : (wr.alloc (.cells #[.string x.LC[j]] 9 (0, 0))).cell? ⟨wr.heap.size, 0, none⟩ = some (.string x.LC[j]) := (blkCell hk5 0).trans rfl
      have hlt5 : wr.heap.size < (wr.alloc (.cells #[.string x.LC[j]] 9 (0, 0))).heap.size := blkLt hk5
      clear hk5
      generalize (wr.alloc (.cells #[.string x.LC[j]] 9 (0, 0))) = w5 at *
      have HST : HidP (∀ W' w'', (Below w5.heap.size w5 W' ∧ W'.cell? ⟨R, 0, none⟩ = some (.slice x.a.A x.a.l.length x.a.c) ∧ W'.cell? ⟨R, 1, none⟩ = some (.slice x.b.A x.b.l.length x.b.c) ∧ W'.cell? ⟨R, 2, none⟩ = some (.slice x.o.A x.o.l.length x.o.c) ∧ W'.cell? ⟨wr.heap.size, 0, none⟩ = some (.string x.LC[j])) → Below W'.heap.size W' w'' → (Below w5.heap.size w5 w'' ∧ w''.cell? ⟨R, 0, none⟩ = some (.slice x.a.A x.a.l.length x.a.c) ∧ w''.cell? ⟨R, 1, none⟩ = some (.slice x.b.A x.b.l.length x.b.c) ∧ w''.cell? ⟨R, 2, none⟩ = some (.slice x.o.A x.o.l.length x.o.c) ∧ w''.cell? ⟨wr.heap.size, 0, none⟩ = some (.string x.LC[j]))) := hid (fun W' w'' hW hb => ⟨thenB hW.1 hb, cellB hb hW.2.1, cellB hb hW.2.2.1, cellB hb hW.2.2.2.1, cellB hb hW.2.2.2.2⟩)
      have hs0 : Below w5.heap.size w5 w5 ∧ w5.cell? ⟨R, 0, none⟩ = some (.slice x.a.A x.a.l.length x.a.c) ∧ w5.cell? ⟨R, 1, none⟩ = some (.slice x.b.A x.b.l.length x.b.c) ∧ w5.cell? ⟨R, 2, none⟩ = some (.slice x.o.A x.o.l.length x.o.c) ∧ w5.cell? ⟨wr.heap.size, 0, none⟩ = some (.string x.LC[j]) := ⟨Below.refl _ _, cellB hbw p0, cellB hbw p1, cellB hbw p2, k5⟩
      have HROW5 := hid (HROW.out.below hbw)
      have HPA : HidP (∀ W', (Below w5.heap.size w5 W' ∧ W'.cell? ⟨R, 0, none⟩ = some (.slice x.a.A x.a.l.length x.a.c) ∧ W'.cell? ⟨R, 1, none⟩ = some (.slice x.b.A x.b.l.length x.b.c) ∧ W'.cell? ⟨R, 2, none⟩ = some (.slice x.o.A x.o.l.length x.o.c) ∧ W'.cell? ⟨wr.heap.size, 0, none⟩ = some (.string x.LC[j])) → Calls Tryz.prog 43 #[.string x.LC[j]] W' fun e w' => e = .returned (.bool true) ∧ (Below w5.heap.size w5 w' ∧ w'.cell? ⟨R, 0, none⟩ = some (.slice x.a.A x.a.l.length x.a.c) ∧ w'.cell? ⟨R, 1, none⟩ = some (.slice x.b.A x.b.l.length x.b.c) ∧ w'.cell? ⟨R, 2, none⟩ = some (.slice x.o.A x.o.l.length x.o.c) ∧ w'.cell? ⟨wr.heap.size, 0, none⟩ = some (.string x.LC[j]))) := hid (fun W' hW => (path_walk x.LC[j] (str_small HP.out) W').mono (by
        rintro e w' ⟨rfl, h3⟩
        exact ⟨by rw [HP.out], HST.out _ _ hW h3⟩))
      have HHa : HidP (∀ W', (Below w5.heap.size w5 W' ∧ W'.cell? ⟨R, 0, none⟩ = some (.slice x.a.A x.a.l.length x.a.c) ∧ W'.cell? ⟨R, 1, none⟩ = some (.slice x.b.A x.b.l.length x.b.c) ∧ W'.cell? ⟨R, 2, none⟩ = some (.slice x.o.A x.o.l.length x.o.c) ∧ W'.cell? ⟨wr.heap.size, 0, none⟩ = some (.string x.LC[j])) → Calls Tryz.prog 109 #[.slice x.a.A x.a.l.length x.a.c, .string x.LC[j]] W' fun e w' => e = .returned (.bool true) ∧ (Below w5.heap.size w5 w' ∧ w'.cell? ⟨R, 0, none⟩ = some (.slice x.a.A x.a.l.length x.a.c) ∧ w'.cell? ⟨R, 1, none⟩ = some (.slice x.b.A x.b.l.length x.b.c) ∧ w'.cell? ⟨R, 2, none⟩ = some (.slice x.o.A x.o.l.length x.o.c) ∧ w'.cell? ⟨wr.heap.size, 0, none⟩ = some (.string x.LC[j]))) := hid (fun W' hW => (holds_walk x.a x.LC[j] W' (str_small HP.out) ((HD.out.below hbr).a.below (thenB hbw hW.1)) (right_sorted HF.out.ra)).mono (by
        rintro e w' ⟨rfl, h3⟩
        exact ⟨by rw [HHOL.out.1], HST.out _ _ hW h3⟩))
      have HHb : HidP (∀ W', (Below w5.heap.size w5 W' ∧ W'.cell? ⟨R, 0, none⟩ = some (.slice x.a.A x.a.l.length x.a.c) ∧ W'.cell? ⟨R, 1, none⟩ = some (.slice x.b.A x.b.l.length x.b.c) ∧ W'.cell? ⟨R, 2, none⟩ = some (.slice x.o.A x.o.l.length x.o.c) ∧ W'.cell? ⟨wr.heap.size, 0, none⟩ = some (.string x.LC[j])) → Calls Tryz.prog 109 #[.slice x.b.A x.b.l.length x.b.c, .string x.LC[j]] W' fun e w' => e = .returned (.bool true) ∧ (Below w5.heap.size w5 w' ∧ w'.cell? ⟨R, 0, none⟩ = some (.slice x.a.A x.a.l.length x.a.c) ∧ w'.cell? ⟨R, 1, none⟩ = some (.slice x.b.A x.b.l.length x.b.c) ∧ w'.cell? ⟨R, 2, none⟩ = some (.slice x.o.A x.o.l.length x.o.c) ∧ w'.cell? ⟨wr.heap.size, 0, none⟩ = some (.string x.LC[j]))) := hid (fun W' hW => (holds_walk x.b x.LC[j] W' (str_small HP.out) ((HD.out.below hbr).b.below (thenB hbw hW.1)) (right_sorted HF.out.rb)).mono (by
        rintro e w' ⟨rfl, h3⟩
        exact ⟨by rw [HHOL.out.2.1], HST.out _ _ hW h3⟩))
      have HHo : HidP (∀ W', (Below w5.heap.size w5 W' ∧ W'.cell? ⟨R, 0, none⟩ = some (.slice x.a.A x.a.l.length x.a.c) ∧ W'.cell? ⟨R, 1, none⟩ = some (.slice x.b.A x.b.l.length x.b.c) ∧ W'.cell? ⟨R, 2, none⟩ = some (.slice x.o.A x.o.l.length x.o.c) ∧ W'.cell? ⟨wr.heap.size, 0, none⟩ = some (.string x.LC[j])) → Calls Tryz.prog 109 #[.slice x.o.A x.o.l.length x.o.c, .string x.LC[j]] W' fun e w' => e = .returned (.bool true) ∧ (Below w5.heap.size w5 w' ∧ w'.cell? ⟨R, 0, none⟩ = some (.slice x.a.A x.a.l.length x.a.c) ∧ w'.cell? ⟨R, 1, none⟩ = some (.slice x.b.A x.b.l.length x.b.c) ∧ w'.cell? ⟨R, 2, none⟩ = some (.slice x.o.A x.o.l.length x.o.c) ∧ w'.cell? ⟨wr.heap.size, 0, none⟩ = some (.string x.LC[j]))) := hid (fun W' hW => (holds_walk x.o x.LC[j] W' (str_small HP.out) ((HD.out.below hbr).o.below (thenB hbw hW.1)) (right_sorted HF.out.ro)).mono (by
        rintro e w' ⟨rfl, h3⟩
        exact ⟨by rw [HHOL.out.2.2], HST.out _ _ hW h3⟩))
      have HCO : HidP (∀ W', (Below w5.heap.size w5 W' ∧ W'.cell? ⟨R, 0, none⟩ = some (.slice x.a.A x.a.l.length x.a.c) ∧ W'.cell? ⟨R, 1, none⟩ = some (.slice x.b.A x.b.l.length x.b.c) ∧ W'.cell? ⟨R, 2, none⟩ = some (.slice x.o.A x.o.l.length x.o.c) ∧ W'.cell? ⟨wr.heap.size, 0, none⟩ = some (.string x.LC[j])) → Calls Tryz.prog 110 #[.slice LA M.length Lc, .func (.func 107) #[] #[.pointer (some ⟨wr.heap.size, 0, none⟩)]] W' fun e w' => e = .returned (.bool false) ∧ (Below w5.heap.size w5 w' ∧ w'.cell? ⟨R, 0, none⟩ = some (.slice x.a.A x.a.l.length x.a.c) ∧ w'.cell? ⟨R, 1, none⟩ = some (.slice x.b.A x.b.l.length x.b.c) ∧ w'.cell? ⟨R, 2, none⟩ = some (.slice x.o.A x.o.l.length x.o.c) ∧ w'.cell? ⟨wr.heap.size, 0, none⟩ = some (.string x.LC[j]))) := hid (fun W' hW => (constr_walk LA Lc M x.LC[j] wr.heap.size W' (HROW5.out.below hW.1) hW.2.2.2.2 HQ.out (by have := HML.out.1; omega)).mono (by
        rintro e w' ⟨rfl, rfl⟩
        exact ⟨rfl, hW⟩))
      have hs1 := HST.out _ w5.drew hs0 ⟨rfl, rfl, rfl, Nat.le_refl _, fun _ _ => rfl⟩
      have HB5 := hid hb5'
      clear hs0 k5 p0 p1 p2 p3 pf hbw hb5' HROW HP HHOL HST ck hcA
      go_region_held3 (fun W' => Below w5.heap.size w5 W' ∧ W'.cell? ⟨R, 0, none⟩ = some (.slice x.a.A x.a.l.length x.a.c) ∧ W'.cell? ⟨R, 1, none⟩ = some (.slice x.b.A x.b.l.length x.b.c) ∧ W'.cell? ⟨R, 2, none⟩ = some (.slice x.o.A x.o.l.length x.o.c) ∧ W'.cell? ⟨wr.heap.size, 0, none⟩ = some (.string x.LC[j])) (assumption) (first | (refine step_callG 43 _ _ (by rfl) (by rfl) Tryz.func43 (by kernel_rfl) (by kernel_rfl) [.string x.LC[j]] (by rfl) (HPA.out _ (by assumption)) ?_; rintro e wk1 ⟨rfl, hK1⟩; refine ⟨_, rfl, ?_⟩) | (refine step_callG 109 _ _ (by rfl) (by rfl) Tryz.func109 (by kernel_rfl) (by kernel_rfl) [.slice x.a.A x.a.l.length x.a.c, .string x.LC[j]] (by rfl) (HHa.out _ (by assumption)) ?_; rintro e wk2 ⟨rfl, hK2⟩; refine ⟨_, rfl, ?_⟩) | (refine step_callG 109 _ _ (by rfl) (by rfl) Tryz.func109 (by kernel_rfl) (by kernel_rfl) [.slice x.b.A x.b.l.length x.b.c, .string x.LC[j]] (by rfl) (HHb.out _ (by assumption)) ?_; rintro e wk3 ⟨rfl, hK3⟩; refine ⟨_, rfl, ?_⟩) | (refine step_callG 109 _ _ (by rfl) (by rfl) Tryz.func109 (by kernel_rfl) (by kernel_rfl) [.slice x.o.A x.o.l.length x.o.c, .string x.LC[j]] (by rfl) (HHo.out _ (by assumption)) ?_; rintro e wk4 ⟨rfl, hK4⟩; refine ⟨_, rfl, ?_⟩) | (refine step_callG 110 _ _ (by rfl) (by rfl) Tryz.func110 (by kernel_rfl) (by kernel_rfl) [.slice LA M.length Lc, .func (.func 107) #[] #[.pointer (some ⟨wr.heap.size, 0, none⟩)]] (by rfl) (HCO.out _ (by assumption)) ?_; rintro e wk5 ⟨rfl, hK5⟩; refine ⟨_, rfl, ?_⟩))
      obtain ⟨hbk, k0, k1, k2, k3⟩ := hK5
      have hrow5 := (HROW5.out.below hbk)
      have hba := thenA (Below.refl _ wk5) (.cells #[.string x.LC[j]] 9 (0, 0))
      have hsi := str_src wk5 x.LC[j]
      have hb6 := thenB HB5.out hbk
      have hc1 : (M.map Value.string).length + [Value.string x.LC[j]].length ≤ maxLen := by
        have := HML.out.1
        rw [List.length_map]
        simp only [maxLen, List.length_singleton]
        omega
      have hc2 : ((M.map Value.string).length + [Value.string x.LC[j]].length) * 16 ≤ 140737488355328 := by
        have := HML.out.1
        rw [List.length_map]
        simp only [List.length_singleton]
        omega
      clear hK1 hK2 hK3 hK4 hs1 k0 k1 k2 hbk HPA HHa HHb HHo HCO
      go_wp2_with (at_builtin; refine wpList_append_row _ rfl _ _ 26 rfl 9 ti (.string ByteArray.empty) 1 16 Tryz.underlying26 hi0 hz0 hz1 hz2 rfl (by decide) (.slice LA M.length Lc) (M.map .string) rfl (by exact hrow5.below hba) (.slice (some ⟨wk5.heap.size, 0, none⟩) 1 1) [.string x.LC[j]] rfl (by exact hsi) (by simp [Value.oneCell']) hc1 hc2 ?_; intro cA cn cc w7 hr7 hg7 ha7)
      have hr8 : Row w7 9 1 (.slice cA cn cc) ((M ++ [x.LC[j]]).map .string) := by rw [List.map_append]; exact hr7
      have hcn := hr8.slen
      have hsz6 := hb6.size
      have hf7 := fresh_of ha7 HFR.out (by simp; omega)
      have hb7 : Below W.heap.size W w7 := Below.grownNew (thenB hb6 hba) hg7 (by simp; omega) HFR.out
      obtain ⟨M2, hM2⟩ : ∃ M2, M2 = M ++ [x.LC[j]] := ⟨_, rfl⟩
      rw [← hM2] at hr8 hcn
      subst hcn
      have HM2 : HidP (M2 = x.LC.take (j + 1)) := hid (by rw [hM2, HMN.out])
      have HR8 := hid hr8
      clear hr7 hg7 ha7 hr8 hM2 hrow5 hsi hc1 hc2 hba
      rw [← HCA.out]
      go_roundg (x.LC.length - (j + 1))
      case measure => omega
      case rel => exact ⟨j + 1, cA, cc, M2, by omega, rfl, by go_num, rfl, HM2.out, HR8.out, hf7, hb7⟩
    · obtain rfl : j = x.LC.length := by omega
      go_wp2_with fail
      go_ret
      exact ⟨rfl, hbr⟩

end Go.Proofs.YtfbbjfbnkcklgaaGreatDoor

/- the desk: right, find, wrong, way -/
namespace Go.Proofs.YtfbbjfbnkcklgaaGreatDoor
open Go.RowKit

def howB (n : Int) : Bool := decide (0 ≤ n) && decide (n < 5)
theorem pright_walk (n : Int) (w : World) : Calls Tryz.prog 50 #[.int .i64 n] w fun e w' => e = .returned (.bool (howB n)) ∧ w = w' := by
  unfold howB
  by_cases h0 : 0 ≤ n
  · by_cases h5 : n < 5
    · rw [decide_eq_true h0, decide_eq_true h5]
      have g0 : decide (n ≥ 0) = true := decide_eq_true h0
      have g5 : decide (n < 5) = true := decide_eq_true h5
      go_enter Tryz.func50, Tryz.ntmps50
      go_wp2_with fail
      go_ret
      exact ⟨rfl, rfl⟩
    · rw [decide_eq_true h0, decide_eq_false h5]
      have g0 : decide (n ≥ 0) = true := decide_eq_true h0
      have g5 : decide (n < 5) = false := decide_eq_false h5
      go_enter Tryz.func50, Tryz.ntmps50
      go_wp2_with fail
      go_ret
      exact ⟨rfl, rfl⟩
  · rw [decide_eq_false h0, Bool.false_and]
    have g0 : decide (n ≥ 0) = false := decide_eq_false h0
    go_enter Tryz.func50, Tryz.ntmps50
    go_wp2_with fail
    go_ret
    exact ⟨rfl, rfl⟩

/-- choices, one way for all -/
def chC (how : Int) (s : ByteArray) : List Value := [.string s, .int .i64 how]
theorem chC_len (how : Int) (s : ByteArray) : (chC how s).length = 2 := rfl
def Once (L : List ByteArray) : Prop := L.Pairwise fun a b => a.toList ≠ b.toList
theorem Once.ne {L : List ByteArray} (h : Once L) {i j : Nat} (hij : i < j) (hj : j < L.length) : (L[i].toList == L[j].toList) = false := by
  have := List.pairwise_iff_getElem.1 h i j (by omega) hj hij
  simpa using this

set_option maxHeartbeats 1600000 in
theorem find1_walk (s p : ByteArray) (how : Int) (b : Nat) (w : World) (hc : w.cell? ⟨b, 0, none⟩ = some (.string p)) :
    Calls Tryz.prog 113 #[.agg #[.string s, .int .i64 how], .pointer (some ⟨b, 0, none⟩)] w fun e w' => e = .returned (.bool (s.toList == p.toList)) ∧ Below w.heap.size w w' := by
  have hb := thenA (Below.refl _ w) (.cells #[.string s, .int .i64 how] 84 (0, 0))
  have hc1 := cellB hb hc
  have hk := heap_alloc_new w (.cells #[.string s, .int .i64 how] 84 (0, 0))
  have k0 : (w.alloc (.cells #[.string s, .int .i64 how] 84 (0, 0))).cell? ⟨w.heap.size, 0, none⟩ = some (.string s) := (blkCell hk 0).trans rfl
  clear hk
  go_enter Tryz.func113, Tryz.ntmps113
  go_wp2_with fail
  go_ret
  exact ⟨rfl, hb⟩

set_option maxRecDepth 100000 in
set_option maxHeartbeats 1600000 in
theorem ixch_walk (A : Option Addr) (c : Nat) (L : List ByteArray) (how : Int) (b : Nat) (w : World) (j : Nat) (hj : j < L.length) (h : Recs (chC how) 2 w A c L) (hc : w.cell? ⟨b, 0, none⟩ = some (.string L[j])) (ho : Once L) (hn : L.length ≤ 1000000) :
    Calls Tryz.prog 112 #[.slice A L.length c, .func (.func 113) #[] #[.pointer (some ⟨b, 0, none⟩)]] w fun e w' => e = .returned (.int .i64 j) ∧ Below w.heap.size w w' := by
  have HR := hid h
  have HC := hid hc
  have HO := hid ho
  clear h hc ho
  go_enter Tryz.func112, Tryz.ntmps112
  go_wp2_with fail
  go_loopg [8] L.length (fun k i wr => ∃ m : Nat, m ≤ j ∧ k = L.length - m ∧ i = .int .i64 m ∧ Below w.heap.size w wr)
  case atStart => exact ⟨0, Nat.zero_le _, rfl, rfl, Below.refl _ _⟩
  case round =>
    obtain ⟨m, hm, rfl, rfl, hb⟩ := hrel
    have hlt : m < L.length := by omega
    have i0 : (0 : Int) ≤ (m : Int) := by omega
    have i1 : (m : Int) < (L.length : Int) := by omega
    obtain ⟨b1, o1, hA, hk⟩ := (HR.out.below hb).cell m L[m] (List.getElem?_eq_getElem hlt)
    have k0 : wr.cell? ⟨b1, o1 + m * 2, none⟩ = some (.string L[m]) := hk 0 _ rfl
    have k1 : wr.cell? ⟨b1, o1 + m * 2 + 1, none⟩ = some (.int .i64 how) := hk 1 _ rfl
    have HW := hid (find1_walk L[m] L[j] how b wr (cellB hb HC.out))
    clear hk
    subst hA
    by_cases he : m = j
    · subst he
      rw [show (L[m].toList == L[m].toList) = true by simp] at HW
      go_wp2_with fail
      refine HW.out.mono ?_
      rintro e w' ⟨rfl, hb1⟩
      have hb2 := thenB hb hb1
      go_wp2_with fail
      go_ret
      exact ⟨rfl, hb2⟩
    · rw [HO.out.ne (by omega) hj] at HW
      go_wp2_with fail
      refine HW.out.mono ?_
      rintro e w' ⟨rfl, hb1⟩
      have hb2 := thenB hb hb1
      go_wp2_with fail
      go_roundg (L.length - (m + 1))
      case measure => omega
      case rel => exact ⟨m + 1, by omega, rfl, by go_num, hb2⟩

set_option maxHeartbeats 1600000 in
theorem pfind_walk (A : Option Addr) (c : Nat) (L : List ByteArray) (how : Int) (w : World) (j : Nat) (hj : j < L.length) (h : Recs (chC how) 2 w A c L) (ho : Once L) (hn : L.length ≤ 1000000) :
    Calls Tryz.prog 83 #[.slice A L.length c, .string L[j]] w fun e w' => e = .returned (.int .i64 j) ∧ Below w.heap.size w w' := by
  have hb := thenA (Below.refl _ w) (.cells #[.string L[j]] 9 (0, 0))
  have hk := heap_alloc_new w (.cells #[.string L[j]] 9 (0, 0))
  have HI := hid (ixch_walk A c L how w.heap.size _ j hj (h.below hb) ((blkCell hk 0).trans rfl) ho hn)
  clear h ho hk
  go_enter Tryz.func83, Tryz.ntmps83
  go_wp2_with fail
  refine HI.out.mono ?_
  rintro e w' ⟨rfl, hb1⟩
  have hb2 := thenB hb hb1
  go_wp2_with fail
  go_ret
  exact ⟨rfl, hb2⟩

set_option maxRecDepth 100000 in
set_option maxHeartbeats 1600000 in
theorem ixs_walk (A : Option Addr) (c : Nat) (L : List ByteArray) (w : World) (j : Nat) (hj : j < L.length) (h : Row w 9 1 (.slice A L.length c) (L.map .string)) (ho : Once L) (hn : L.length ≤ 1000000) :
    Calls Tryz.prog 54 #[.slice A L.length c, .string L[j]] w fun e w' => e = .returned (.int .i64 j) ∧ w = w' := by
  have HR := hid h
  have HO := hid ho
  clear h ho
  go_enter Tryz.func54, Tryz.ntmps54
  go_wp2_with fail
  go_loopg [8] L.length (fun k i wr => ∃ m : Nat, m ≤ j ∧ k = L.length - m ∧ i = .int .i64 m ∧ wr = w)
  case atStart => exact ⟨0, Nat.zero_le _, rfl, rfl, rfl⟩
  case round =>
    obtain ⟨m, hm, rfl, rfl, rfl⟩ := hrel
    have hlt : m < L.length := by omega
    have i0 : (0 : Int) ≤ (m : Int) := by omega
    have i1 : (m : Int) < (L.length : Int) := by omega
    obtain ⟨b1, o1, hA, k0⟩ := HR.out.str hlt
    subst hA
    by_cases he : m = j
    · subst he
      have e0 : (L[m].toList == L[m].toList) = true := by simp
      go_wp2_with fail
      go_ret
      exact ⟨rfl, rfl⟩
    · have e0 : (L[j].toList == L[m].toList) = false := by rw [BEq.comm]; exact HO.out.ne (by omega) hj
      go_wp2_with fail
      go_roundg (L.length - (m + 1))
      case measure => omega
      case rel => exact ⟨m + 1, by omega, rfl, by go_num, rfl⟩
theorem cons_walk (A : Option Addr) (c : Nat) (L : List ByteArray) (w : World) (j : Nat) (hj : j < L.length) (h : Row w 9 1 (.slice A L.length c) (L.map .string)) (ho : Once L) (hn : L.length ≤ 1000000) :
    Calls Tryz.prog 111 #[.slice A L.length c, .string L[j]] w fun e w' => e = .returned (.bool true) ∧ w = w' := by
  have HI := hid (ixs_walk A c L w j hj h ho hn)
  have i0 : (0 : Int) ≤ (j : Int) := by omega
  clear h ho
  go_enter Tryz.func111, Tryz.ntmps111
  go_wp2_with fail
  refine HI.out.mono ?_
  rintro e w' ⟨rfl, rfl⟩
  have g0 : decide ((j : Int) ≥ 0) = true := decide_eq_true i0
  go_wp2_with fail
  go_ret
  exact ⟨rfl, rfl⟩

/-- the ways -/
def wayF (how : Int) : FuncId := if how = 1 then 114 else if how = 2 then 115 else if how = 3 then 116 else if how = 4 then 117 else 118
set_option maxHeartbeats 1600000 in
theorem way_walk (R : Nat) (how : Int) (w : World) :
    Calls Tryz.prog 84 #[.pointer (some ⟨R, 0, none⟩), .int .i64 how] w fun e w' => e = .returned (.func (.func (wayF how)) #[.pointer (some ⟨R, 0, none⟩)] #[]) ∧ w = w' := by
  have HW : HidP (∀ n, how = n → wayF how = if n = 1 then 114 else if n = 2 then 115 else if n = 3 then 116 else if n = 4 then 117 else 118) := hid (fun n h => by rw [h]; rfl)
  by_cases h1 : how = 1
  · have HF := hid (HW.out 1 h1)
    subst h1
    go_enter Tryz.func84, Tryz.ntmps84
    go_wp2_with fail
    go_ret
    exact ⟨rfl, rfl⟩
  by_cases h2 : how = 2
  · subst h2
    go_enter Tryz.func84, Tryz.ntmps84
    go_wp2_with fail
    go_ret
    exact ⟨rfl, rfl⟩
  by_cases h3 : how = 3
  · subst h3
    go_enter Tryz.func84, Tryz.ntmps84
    go_wp2_with fail
    go_ret
    exact ⟨rfl, rfl⟩
  by_cases h4 : how = 4
  · subst h4
    go_enter Tryz.func84, Tryz.ntmps84
    go_wp2_with fail
    go_ret
    exact ⟨rfl, rfl⟩
  · have HL : HidP (wayF how = 118) := hid (by unfold wayF; rw [if_neg h1, if_neg h2, if_neg h3, if_neg h4])
    have g1 : (how == 1) = false := by simpa using h1
    have g2 : (how == 2) = false := by simpa using h2
    have g3 : (how == 3) = false := by simpa using h3
    have g4 : (how == 4) = false := by simpa using h4
    rw [HL.out]
    clear HW h1 h2 h3 h4
    go_enter Tryz.func84, Tryz.ntmps84
    go_wp2_with fail
    go_ret
    exact ⟨rfl, rfl⟩
theorem dleave_walk (v : Value) (p : ByteArray) (w : World) : Calls Tryz.prog 118 #[v, .string p] w fun e w' => e = .returned (.bool false) ∧ w = w' := by
  go_enter Tryz.func118, Tryz.ntmps118
  go_wp2_with fail
  go_ret
  exact ⟨rfl, rfl⟩

end Go.Proofs.YtfbbjfbnkcklgaaGreatDoor

/- the desk's conflicts grow; wrong -/
namespace Go.Proofs.YtfbbjfbnkcklgaaGreatDoor
open Go.RowKit Go.Lib

/-- the slice's block holds strings alone -/
def StrB (w : World) (v : Value) : Prop := ∀ k, v.ownBlock = some k → ∃ cs, w.heap[k]? = some (.cells cs 9 (0, 0)) ∧ ∀ u ∈ cs.toList, ∃ s, u = .string s
theorem StrB.nil (w : World) (n c : Nat) : StrB w (.slice none n c) := fun k hk => by simp [Value.ownBlock] at hk
theorem StrB.keep {w w' : World} {v : Value} (h : StrB w v) (hk : ∀ k, v.ownBlock = some k → w'.heap[k]? = w.heap[k]?) : StrB w' v := fun k hk' => by
  obtain ⟨cs, h1, h2⟩ := h k hk'
  exact ⟨cs, (hk k hk').trans h1, h2⟩
theorem StrB.lt {w : World} {v : Value} (h : StrB w v) : ∀ k, v.ownBlock = some k → k < w.heap.size := fun k hk => by
  obtain ⟨cs, h1, _⟩ := h k hk
  exact (Array.getElem?_eq_some_iff.1 h1).1
theorem Tr.asideS {w w' : World} {A : Option Addr} {c : Nat} {l : List Itm} {r : Nat} {cs : Array Value} {T : TypeId} (h : Tr w A c l) (hR : w.heap[r]? = some (.cells cs T (0, 0))) (hcs : ∀ u ∈ cs.toList, ∃ s, u = Value.string s) (hk : KR r w w') : Tr w' A c l := by
  have hn : ∀ (i : Nat) (u : Value), cs[i]? = some u → ∃ s, u = Value.string s := fun i u hu => hcs u (List.mem_of_getElem? (by rw [Array.getElem?_toList]; exact hu))
  have hg := h.goodR hR (fun i n e => by obtain ⟨s, hs⟩ := hn i _ e; cases hs)
  cases l with
  | nil => exact ⟨⟨h.cap, h.nil, fun i x hx => by simp at hx⟩, by simp, by simp⟩
  | cons x t =>
    obtain ⟨b, off, hA, _, c1, _⟩ := h.cell 0 x rfl
    subst hA
    have hne : b ≠ r := fun e => by
      subst e
      rw [blkCell hR] at c1
      obtain ⟨s, hs⟩ := hn _ _ c1
      cases hs
    exact h.kept (fun k hk' hlt => by
      simp only [Value.ownBlock, Option.some.injEq] at hk'
      subst hk'
      exact hk.block _ hlt hne) (fun y hy => (hg y hy).later hk)

theorem run_append_s (w : World) (ty : TypeId) (A : Option Addr) (n c : Nat) (L : List ByteArray) (hown : Row w 9 1 (.slice A n c) (L.map .string)) (hs : StrB w (.slice A n c)) (y : Nat) (q : ByteArray) (hx : w.heap[y]? = some (.cells #[Value.string q] 9 (0, 0))) (hn : L.length ≤ 1000000) :
    ∃ A' n' c' w', (Builtin.append_ #[26, 26] ty #[.slice A n c, .slice (some ⟨y, 0, none⟩) 1 1]).run Tryz.prog w = .ok (.slice A' n' c') w' ∧ Row w' 9 1 (.slice A' n' c') ((L ++ [q]).map .string) ∧ StrB w' (.slice A' n' c') ∧ w.grownBy w' (Value.slice A n c).ownBlock ∧
      ((Value.slice A' n' c').ownBlock = (Value.slice A n c).ownBlock ∨ (Value.slice A' n' c').ownBlock = some w.heap.size) := by
  obtain ⟨ti, hi0, hz0, hz1, hz2⟩ := info_parts infoStr
  have ht := Tryz.underlying26
  have hnl : n = L.length := hown.slen
  have hnews : ∀ j u, [Value.string q][j]? = some u → w.cell? ((⟨y, 0, none⟩ : Addr).add j) = some u := fun j u hj => by
    rw [add_lit', blkCell hx, Nat.zero_add, ← Array.getElem?_toList]
    exact hj
  have hone : ∀ u ∈ [Value.string q], u.oneCell' = true := by simp [Value.oneCell']
  have hzs : (Value.string ByteArray.empty).cells.size = 1 := rfl
  have hlit : ∀ (k : Nat), StrB (w.drew.alloc (.cells ((L.map Value.string).toArray ++ [Value.string q].toArray ++ Builtin.zeroCells (Value.string ByteArray.empty).cells k) 9)) (.slice (some ⟨w.heap.size, 0, none⟩) (n + 1) c) := fun k b hb => by
    simp only [Value.ownBlock, Option.some.injEq] at hb
    subst hb
    refine ⟨_, heap_alloc_new w.drew _, fun u hu => ?_⟩
    simp only [Array.toList_append, List.mem_append, List.mem_map, List.mem_singleton] at hu
    rcases hu with (⟨s, _, rfl⟩ | rfl) | hu
    · exact ⟨s, rfl⟩
    · exact ⟨q, rfl⟩
    · have := zeroCells_mem hu
      simp [Value.cells] at this
      exact ⟨_, this⟩
  have hlit2 : ∀ (k c' : Nat), StrB (w.drew.alloc (.cells ((L.map Value.string).toArray ++ [Value.string q].toArray ++ Builtin.zeroCells (Value.string ByteArray.empty).cells k) 9)) (.slice (some ⟨w.heap.size, 0, none⟩) (n + 1) c') := fun k c' b hb => hlit k b hb
  have grown : ∀ (old : Nat), old < n + 1 → ∀ (row : Option Nat),
      Row (w.drew.alloc (.cells ((L.map Value.string).toArray ++ [Value.string q].toArray ++ Builtin.zeroCells (Value.string ByteArray.empty).cells (grownCap w (n + 1) old 9 - (n + 1))) 9)) 9 1
        (.slice (some ⟨w.heap.size, 0, none⟩) (n + 1) (grownCap w (n + 1) old 9)) ((L ++ [q]).map .string) ∧
      w.grownBy (w.drew.alloc (.cells ((L.map Value.string).toArray ++ [Value.string q].toArray ++ Builtin.zeroCells (Value.string ByteArray.empty).cells (grownCap w (n + 1) old 9 - (n + 1))) 9)) row := by
    intro old ho row
    have hge := grownCap_ge w (n + 1) old 9
    have hcm' : grownCap w (n + 1) old 9 ≤ maxLen := grownCap_le_maxLen w (n + 1) old 9 (by simp only [maxLen]; omega)
    refine ⟨⟨_, n + 1, _, rfl, by simp [hnl], hge, hcm', .inr ⟨w.heap.size, 0, _, rfl, heap_alloc_new w.drew _, ?_, ?_⟩⟩, ⟨rfl, rfl, rfl, by simp, fun k hk _ => heap_alloc_old w.drew _ hk⟩⟩
    · simp only [Array.size_append, List.size_toArray, size_zeroCells, hzs, List.length_map, List.length_singleton]
      omega
    · simp only [List.drop_zero, Array.toList_append, List.append_assoc, List.map_append]
      rw [← List.append_assoc, Nat.mul_one]
      exact List.take_left' (by simp [hnl])
  obtain ⟨_, _, _, hv, hl, hnc, hcm, hA⟩ := id hown
  cases hv
  by_cases hroom : n + 1 ≤ c
  · rcases hA with ⟨_, h0⟩ | ⟨b, off, cs, hbb, hb, hsz, htk⟩
    · omega
    cases hbb
    obtain ⟨cs', hc1, hc2⟩ := hs b rfl
    obtain rfl : cs = cs' := by rw [hb] at hc1; cases hc1; rfl
    have hf := run_firstCells_some (P := Tryz.prog) w 1 1 ⟨y, 0, none⟩ 1 1 [Value.string q] rfl hnews
    have hst := run_storeCells_at Tryz.prog b (off + n * 1) 9 [Value.string q] 0 cs w hb (by simp; omega) hone
    simp only [Nat.add_zero, Nat.mul_one] at hst htk
    refine ⟨some ⟨b, off, none⟩, n + 1, c, w.setRow b (List.take (off + n) cs.toList ++ [Value.string q] ++ List.drop (off + n + [Value.string q].length) cs.toList).toArray, ?_, ⟨_, n + 1, c, rfl, by simp [hnl], hroom, hcm, .inr ⟨b, off, _, rfl, setRow_heap w b cs _ _ _ hb, ?_, ?_⟩⟩, ?_, ⟨rfl, rfl, rfl, by simp, fun k hk hne => setRow_other w b k _ (fun e => hne (by rw [e]; rfl))⟩, .inl rfl⟩
    · simp [Builtin.append_, run_underlying ht, sizeOf, typeInfo, hi0, hz1, Builtin.lenOf, hroom, hf, add_lit']
      simp at hst
      rw [hst]
      rfl
    · simp only [List.size_toArray, List.length_append, List.length_take, List.length_drop, Array.length_toList, List.length_singleton]
      omega
    · have e1 : cs.toList.take (off + n) = cs.toList.take off ++ L.map .string := by rw [List.take_add, htk]
      have e2 : (cs.toList.take off).length = off := by simp; omega
      simp only [e1, List.append_assoc]
      rw [List.drop_append, e2, Nat.sub_self, List.drop_zero, List.drop_of_length_le (by omega), List.nil_append, ← List.append_assoc]
      rw [List.map_append]
      exact List.take_left' (by simp [hnl])
    · intro k hk
      simp only [Value.ownBlock, Option.some.injEq] at hk
      subst hk
      refine ⟨_, setRow_heap w b cs _ _ _ hb, fun u hu => ?_⟩
      simp only [List.mem_append, List.mem_singleton] at hu
      rcases hu with (hu | rfl) | hu
      · exact hc2 u (List.mem_of_mem_take hu)
      · exact ⟨q, rfl⟩
      · exact hc2 u (List.mem_of_mem_drop hu)
  · rcases hA with ⟨rfl, rfl⟩ | ⟨b, off, cs, rfl, hb, hsz, htk⟩
    · obtain rfl : n = 0 := by omega
      obtain rfl : L = [] := List.eq_nil_of_length_eq_zero hnl.symm
      have hr := run_append_nil (P := Tryz.prog) w 26 ty 9 ti _ ht hi0 hz0 ⟨y, 0, none⟩ 1 1 [Value.string q] (by rw [hz1]; rfl) hnews (by omega) (by omega) (by rw [hz2]; omega)
      have hgr := grown 0 (by omega) (Value.ownBlock (.slice none 0 0))
      have hsb := hlit2 (grownCap w (0 + 1) 0 9 - (0 + 1)) (grownCap w (0 + 1) 0 9)
      simp only [Nat.zero_add, List.map_nil, List.nil_append, Array.empty_append] at hgr hsb ⊢
      exact ⟨_, _, _, _, hr, hgr.1, hsb, hgr.2, Or.inr rfl⟩
    · have holds : ∀ j u, (L.map Value.string)[j]? = some u → w.cell? ((⟨b, off, none⟩ : Addr).add j) = some u := by
        obtain ⟨A', n', c', hv, _, _, _, hh⟩ := hown.src
        cases hv
        intro j u hj
        obtain ⟨a', ha', hc⟩ := hh j u hj
        cases ha'; exact hc
      have hr := run_append_grow (P := Tryz.prog) w 26 ty 9 ti _ ht hi0 hz0 ⟨b, off, none⟩ n c (L.map .string) (by rw [hz1, List.length_map]; omega) holds ⟨y, 0, none⟩ 1 1 [Value.string q] (by rw [hz1]; rfl) hnews (by omega) (by omega) (growslice_fits (by omega) (by rw [hz2]; omega))
      have hgr := grown c (by omega) (Value.ownBlock (.slice (some ⟨b, off, none⟩) n c))
      exact ⟨_, _, _, _, hr, hgr.1, hlit2 _ _, hgr.2, Or.inr rfl⟩

/-- the desk, its conflicts' block apart -/
structure DC (R m : Nat) (x : RI) (W : World) : Prop where
  db : DB R x W
  str : StrB W (.slice x.cA x.LC.length x.cc)
  new : ∀ k, (Value.slice x.cA x.LC.length x.cc).ownBlock = some k → m ≤ k
theorem DC.below {R m : Nat} {x : RI} {W W' : World} (h : DC R m x W) (hb : Below W.heap.size W W') : DC R m x W' := ⟨h.db.below hb, h.str.keep fun k hk => hb.block k (h.str.lt k hk), h.new⟩
theorem DC.neR {R m : Nat} {x : RI} {W : World} (h : DC R m x W) : ∀ k, (Value.slice x.cA x.LC.length x.cc).ownBlock = some k → k ≠ R := fun k hk e => by
  subst e
  exact h.db.c.neBlk h.db.blk (by decide) hk
/-- a call that left the conflicts' slice -/
theorem DC.of {R m : Nat} {x x' : RI} {W W' : World} (h : DC R m x W) (hd : DB R x' W') (hc : x'.con = x.con) (hk : KR R W W') : DC R m x' W' := by
  have e1 : x'.cA = x.cA := congrArg (fun z : Option Addr × Nat × List ByteArray => z.1) hc
  have e2 : x'.cc = x.cc := congrArg (fun z : Option Addr × Nat × List ByteArray => z.2.1) hc
  have e3 : x'.LC = x.LC := congrArg (fun z : Option Addr × Nat × List ByteArray => z.2.2) hc
  refine ⟨hd, ?_, ?_⟩
  · rw [e1, e2, e3]
    exact h.str.keep fun k hk' => hk.block k (h.str.lt k hk') (h.neR k hk')
  · rw [e1, e2, e3]
    exact h.new
theorem DC.push {R m : Nat} {x : RI} {W W' : World} (h : DC R m x W) {A : Option Addr} {u : Nat} {L : List ByteArray} (hr : Row W' 9 1 (.slice A L.length u) (L.map .string)) (hs : StrB W' (.slice A L.length u)) (hg : W.grownBy W' (Value.slice x.cA x.LC.length x.cc).ownBlock) (hn : ∀ k, (Value.slice A L.length u).ownBlock = some k → m ≤ k) :
    DC R m { x with cA := A, cc := u, LC := L } (W'.setCell ⟨R, 3, none⟩ (.slice A L.length u)) := by
  have htr : ∀ {B : Option Addr} {d : Nat} {l : List Itm}, Tr W B d l → Tr W' B d l := fun {B d l} ht => by
    cases ho : (Value.slice x.cA x.LC.length x.cc).ownBlock with
    | none => exact ht.below ⟨hg.os, hg.tape, hg.output, hg.size, fun k hk => hg.block k hk (by rw [ho]; simp)⟩
    | some k =>
      obtain ⟨cs, h1, h2⟩ := h.str k ho
      exact ht.asideS h1 h2 ⟨hg.os, hg.tape, hg.output, hg.size, fun j hj hne => hg.block j hj (by rw [ho]; simp; exact fun e => hne e)⟩
  have hblk : W'.heap[R]? = W.heap[R]? := hg.block R (blkLt h.db.blk) (fun e => h.neR R e.symm rfl)
  have hb' := hblk.trans h.db.blk
  have hk : KR R W' (W'.setCell ⟨R, 3, none⟩ (.slice A L.length u)) := KR.setR (Keep.refl _ W') 3 _
  have hst : ∀ {B : Option Addr} {d : Nat} {l : List Itm}, Tr W' B d l → Tr (W'.setCell ⟨R, 3, none⟩ (.slice A L.length u)) B d l := fun {B d l} ht =>
    ht.aside hb' (slices_no (v0 := (_, _, _)) (v1 := (_, _, _)) (v2 := (_, _, _)) (v3 := (_, _, _))) (slices_nos (v0 := (_, _, _)) (v1 := (_, _, _)) (v2 := (_, _, _)) (v3 := (_, _, _))) hk
  have hne : ∀ k, (Value.slice A L.length u).ownBlock = some k → k ≠ R := fun k hk' e => by
    subst e
    exact hr.neBlk hb' (by decide) hk'
  exact ⟨⟨(blkSet hb' 3 _).trans rfl, hst (htr h.db.a), hst (htr h.db.b), hst (htr h.db.o), hr.keep fun k hk' => hk.block k (hr.lt k hk') (hne k hk')⟩, hs.keep fun k hk' => hk.block k (hr.lt k hk') (hne k hk'), hn⟩

end Go.Proofs.YtfbbjfbnkcklgaaGreatDoor

/- the desk: wrong, own, one conflict (printed by gen/genJ8.py) -/
namespace Go.Proofs.YtfbbjfbnkcklgaaGreatDoor
open Go.RowKit

set_option maxRecDepth 100000 in
set_option maxHeartbeats 8000000 in
theorem wrong_walk (R : Nat) (x : RI) (CA : Option Addr) (Cc : Nat) (how : Int) (W : World) (h : DB R x W) (hc : Recs (chC how) 2 W CA Cc x.LC) (hh : howB how = true) (ho : Once x.LC) (hn : x.LC.length ≤ 1000000) :
    Calls Tryz.prog 81 #[.pointer (some ⟨R, 0, none⟩), .slice CA x.LC.length Cc] W fun e w' => e = .returned (.bool false) ∧ Below W.heap.size W w' := by
  have HD := hid h
  have HC := hid hc
  have HH := hid hh
  have HO := hid ho
  clear h hc hh ho
  go_enter Tryz.func81, Tryz.ntmps81
  go_wp2_with fail
  go_loopg [9] x.LC.length (fun k i wr => ∃ j : Nat, j ≤ x.LC.length ∧ k = x.LC.length - j ∧ i = .int .i64 j ∧ Below W.heap.size W wr)
  case atStart => exact ⟨0, Nat.zero_le _, rfl, rfl, Below.refl _ _⟩
  case round =>
    obtain ⟨j, hj, rfl, rfl, hbr⟩ := hrel
    by_cases hlt : j < x.LC.length
    · have i0 : (0 : Int) ≤ (j : Int) := by omega
      have i1 : (j : Int) < (x.LC.length : Int) := by omega
      obtain ⟨cb, co, hcA, hck⟩ := (HC.out.below hbr).cell j x.LC[j] (List.getElem?_eq_getElem hlt)
      have c0 : wr.cell? ⟨cb, co + j * 2, none⟩ = some (.string x.LC[j]) := hck 0 _ rfl
      have c1 : wr.cell? ⟨cb, co + j * 2 + 1, none⟩ = some (.int .i64 how) := hck 1 _ rfl
      obtain ⟨p0, p1, p2, p3, pf⟩ := (HD.out.below hbr).cells
      have hb5' := (thenA hbr (.cells #[.string x.LC[j], .int .i64 how] 84 (0, 0)))
      have hk5 := heap_alloc_new wr (.cells #[.string x.LC[j], .int .i64 how] 84 (0, 0))
      have hbw : Below wr.heap.size wr (wr.alloc (.cells #[.string x.LC[j], .int .i64 how] 84 (0, 0))) := thenA (Below.refl _ wr) _
      have k0 : (wr.alloc (.cells #[.string x.LC[j], .int .i64 how] 84 (0, 0))).cell? ⟨wr.heap.size, 0, none⟩ = some (.string x.LC[j]) := (blkCell hk5 0).trans rfl
      have k1 : (wr.alloc (.cells #[.string x.LC[j], .int .i64 how] 84 (0, 0))).cell? ⟨wr.heap.size, 1, none⟩ = some (.int .i64 how) := (blkCell hk5 1).trans rfl
      clear hck hk5
      subst hcA
      go_wp2_with fail
      generalize (wr.alloc (.cells #[.string x.LC[j], .int .i64 how] 84 (0, 0))) = w5 at *
      have HST : HidP (∀ W' w'', (Below w5.heap.size w5 W' ∧ W'.cell? ⟨R, 3, none⟩ = some (.slice x.cA x.LC.length x.cc) ∧ W'.cell? ⟨wr.heap.size, 0, none⟩ = some (.string x.LC[j]) ∧ W'.cell? ⟨wr.heap.size, 1, none⟩ = some (.int .i64 how)) → Below W'.heap.size W' w'' → (Below w5.heap.size w5 w'' ∧ w''.cell? ⟨R, 3, none⟩ = some (.slice x.cA x.LC.length x.cc) ∧ w''.cell? ⟨wr.heap.size, 0, none⟩ = some (.string x.LC[j]) ∧ w''.cell? ⟨wr.heap.size, 1, none⟩ = some (.int .i64 how))) := hid (fun W' w'' hW hb => ⟨thenB hW.1 hb, cellB hb hW.2.1, cellB hb hW.2.2.1, cellB hb hW.2.2.2⟩)
      have hs0 : Below w5.heap.size w5 w5 ∧ w5.cell? ⟨R, 3, none⟩ = some (.slice x.cA x.LC.length x.cc) ∧ w5.cell? ⟨wr.heap.size, 0, none⟩ = some (.string x.LC[j]) ∧ w5.cell? ⟨wr.heap.size, 1, none⟩ = some (.int .i64 how) := ⟨Below.refl _ _, cellB hbw p3, k0, k1⟩
      have HRI : HidP (∀ W', (Below w5.heap.size w5 W' ∧ W'.cell? ⟨R, 3, none⟩ = some (.slice x.cA x.LC.length x.cc) ∧ W'.cell? ⟨wr.heap.size, 0, none⟩ = some (.string x.LC[j]) ∧ W'.cell? ⟨wr.heap.size, 1, none⟩ = some (.int .i64 how)) → Calls Tryz.prog 50 #[.int .i64 how] W' fun e w' => e = .returned (.bool true) ∧ (Below w5.heap.size w5 w' ∧ w'.cell? ⟨R, 3, none⟩ = some (.slice x.cA x.LC.length x.cc) ∧ w'.cell? ⟨wr.heap.size, 0, none⟩ = some (.string x.LC[j]) ∧ w'.cell? ⟨wr.heap.size, 1, none⟩ = some (.int .i64 how))) := hid (fun W' hW => (pright_walk how W').mono (by
        rintro e w' ⟨rfl, rfl⟩
        exact ⟨by rw [HH.out], hW⟩))
      have HCO : HidP (∀ W', (Below w5.heap.size w5 W' ∧ W'.cell? ⟨R, 3, none⟩ = some (.slice x.cA x.LC.length x.cc) ∧ W'.cell? ⟨wr.heap.size, 0, none⟩ = some (.string x.LC[j]) ∧ W'.cell? ⟨wr.heap.size, 1, none⟩ = some (.int .i64 how)) → Calls Tryz.prog 111 #[.slice x.cA x.LC.length x.cc, .string x.LC[j]] W' fun e w' => e = .returned (.bool true) ∧ (Below w5.heap.size w5 w' ∧ w'.cell? ⟨R, 3, none⟩ = some (.slice x.cA x.LC.length x.cc) ∧ w'.cell? ⟨wr.heap.size, 0, none⟩ = some (.string x.LC[j]) ∧ w'.cell? ⟨wr.heap.size, 1, none⟩ = some (.int .i64 how))) := hid (fun W' hW => (cons_walk x.cA x.cc x.LC W' j hlt ((HD.out.below hbr).c.below (thenB hbw hW.1)) HO.out hn).mono (by
        rintro e w' ⟨rfl, rfl⟩
        exact ⟨rfl, hW⟩))
      have HFI : HidP (∀ W', (Below w5.heap.size w5 W' ∧ W'.cell? ⟨R, 3, none⟩ = some (.slice x.cA x.LC.length x.cc) ∧ W'.cell? ⟨wr.heap.size, 0, none⟩ = some (.string x.LC[j]) ∧ W'.cell? ⟨wr.heap.size, 1, none⟩ = some (.int .i64 how)) → Calls Tryz.prog 83 #[.slice (some ⟨cb, co, none⟩) x.LC.length Cc, .string x.LC[j]] W' fun e w' => e = .returned (.int .i64 j) ∧ (Below w5.heap.size w5 w' ∧ w'.cell? ⟨R, 3, none⟩ = some (.slice x.cA x.LC.length x.cc) ∧ w'.cell? ⟨wr.heap.size, 0, none⟩ = some (.string x.LC[j]) ∧ w'.cell? ⟨wr.heap.size, 1, none⟩ = some (.int .i64 how))) := hid (fun W' hW => (pfind_walk (some ⟨cb, co, none⟩) Cc x.LC how W' j hlt ((HC.out.below hbr).below (thenB hbw hW.1)) HO.out hn).mono (by
        rintro e w' ⟨rfl, h3⟩
        exact ⟨rfl, HST.out _ _ hW h3⟩))
      have hs1 := HST.out _ w5.drew hs0 ⟨rfl, rfl, rfl, Nat.le_refl _, fun _ _ => rfl⟩
      have HB5 := hid hb5'
      clear hs0 k0 k1 p0 p1 p2 p3 pf hbw hb5' HST c0 c1
      go_region_held3 (fun W' => Below w5.heap.size w5 W' ∧ W'.cell? ⟨R, 3, none⟩ = some (.slice x.cA x.LC.length x.cc) ∧ W'.cell? ⟨wr.heap.size, 0, none⟩ = some (.string x.LC[j]) ∧ W'.cell? ⟨wr.heap.size, 1, none⟩ = some (.int .i64 how)) (assumption) (first | (refine step_callG 50 _ _ (by rfl) (by rfl) Tryz.func50 (by kernel_rfl) (by kernel_rfl) [.int .i64 how] (by rfl) (HRI.out _ (by assumption)) ?_; rintro e wk1 ⟨rfl, hK1⟩; refine ⟨_, rfl, ?_⟩) | (refine step_callG 111 _ _ (by rfl) (by rfl) Tryz.func111 (by kernel_rfl) (by kernel_rfl) [.slice x.cA x.LC.length x.cc, .string x.LC[j]] (by rfl) (HCO.out _ (by assumption)) ?_; rintro e wk2 ⟨rfl, hK2⟩; refine ⟨_, rfl, ?_⟩) | (refine step_callG 83 _ _ (by rfl) (by rfl) Tryz.func83 (by kernel_rfl) (by kernel_rfl) [.slice (some ⟨cb, co, none⟩) x.LC.length Cc, .string x.LC[j]] (by rfl) (HFI.out _ (by assumption)) ?_; rintro e wk3 ⟨rfl, hK3⟩; refine ⟨_, rfl, ?_⟩))
      have hb6 := thenB HB5.out hK3.1
      clear hK1 hK2 hK3 hs1
      go_wp2_with fail
      go_roundg (x.LC.length - (j + 1))
      case measure => omega
      case rel => exact ⟨j + 1, by omega, rfl, by go_num, hb6⟩
    · obtain rfl : j = x.LC.length := by omega
      go_wp2_with fail
      go_ret
      exact ⟨rfl, hbr⟩

set_option maxHeartbeats 1600000 in
theorem pown_walk (t : TrI) (w : World) (h : Tr w t.A t.c t.l) :
    Calls Tryz.prog 82 #[.slice t.A t.l.length t.c] w fun e w' => (∃ (B : Option Addr) (d : Nat) (l' : List Itm), e = .returned (.slice B l'.length d) ∧ Tr w' B d l' ∧ l'.map Itm.abs = t.l.map Itm.abs) ∧ Below w.heap.size w w' := by
  have HU := hid (under_walk t.A t.c t.l ⟨#[]⟩ w h)
  rw [emptyB] at HU
  have HA : HidP (underA (t.l.map Itm.abs) [] = t.l.map Itm.abs) := hid (under_all _)
  clear h
  go_enter Tryz.func82, Tryz.ntmps82
  go_wp2_with fail
  refine HU.out.mono ?_
  rintro e w2 ⟨⟨B, d, l', rfl, ht, hm⟩, hb⟩
  have HT := hid ht
  have HM := hid hm
  clear ht hm
  go_wp2_with fail
  go_ret
  exact ⟨⟨B, d, l', rfl, HT.out, by rw [HM.out, HA.out]⟩, hb⟩

/-- what becomes of a conflict; is it settled? -/
def oneA (how : Int) (v : Abs4) (p : Txt) : Abs4 × Bool := if how = 1 then (firstA v p, true) else if how = 2 then (secondA v p, true) else if how = 3 then (bothR v p, bothOk v p) else if how = 4 then (noneA v p, true) else (v, false)
def pushC (v : Abs4) (p : Txt) : Abs4 := (v.1, v.2.1, v.2.2.1, v.2.2.2 ++ [p])
def stepS (how : Int) (v : Abs4) (p : Txt) : Abs4 := if (oneA how v p).2 = true then (oneA how v p).1 else pushC (oneA how v p).1 p
def settleL (how : Int) (C : List Txt) (v : Abs4) : Abs4 := C.foldl (stepS how) v
structure Bnd (v : Abs4) : Prop where
  na : v.1.length ≤ 30000
  nb : v.2.1.length ≤ 30000
  no : v.2.2.1.length ≤ 30000
  nc : v.2.2.2.length ≤ 30000
  sa : sortedA v.1
  sb : sortedA v.2.1
  so : sortedA v.2.2.1
  zb : ∀ y ∈ v.2.1, y.p.length ≤ 1000
theorem Bnd.ds {x : RI} (h : Bnd x.abs) : DS x ∧ x.a.l.length ≤ 30000 ∧ x.b.l.length ≤ 30000 ∧ x.o.l.length ≤ 30000 ∧ x.LC.length ≤ 30000 := by
  have h1 : (x.a.l.map Itm.abs).length ≤ 30000 := h.na
  have h2 : (x.b.l.map Itm.abs).length ≤ 30000 := h.nb
  have h3 : (x.o.l.map Itm.abs).length ≤ 30000 := h.no
  have h4 : (x.LC.map fun z : ByteArray => z.toList).length ≤ 30000 := h.nc
  rw [List.length_map] at h1 h2 h3 h4
  exact ⟨⟨by omega, by omega, by omega, h.sa, h.sb, h.so⟩, h1, h2, h3, h4⟩
theorem wayF_fn (how : Int) : ∃ fn, Tryz.prog.funcs[wayF how]? = some fn ∧ (fn.name == "runtime.NumGoroutine") = false ∧ fn.body.isNone = false := by
  unfold wayF
  split
  · exact ⟨_, Tryz.func114, by kernel_rfl, by kernel_rfl⟩
  split
  · exact ⟨_, Tryz.func115, by kernel_rfl, by kernel_rfl⟩
  split
  · exact ⟨_, Tryz.func116, by kernel_rfl, by kernel_rfl⟩
  split
  · exact ⟨_, Tryz.func117, by kernel_rfl, by kernel_rfl⟩
  · exact ⟨_, Tryz.func118, by kernel_rfl, by kernel_rfl⟩
theorem do_walk (how : Int) (R : Nat) (x : RI) (p : ByteArray) (W : World) (h : DB R x W) (hb : Bnd x.abs) (hp : pathB p.toList = true) :
    Calls Tryz.prog (wayF how) #[.pointer (some ⟨R, 0, none⟩), .string p] W fun e w' => e = .returned (.bool (oneA how x.abs p.toList).2) ∧ (∃ x', DB R x' w' ∧ x'.abs = (oneA how x.abs p.toList).1 ∧ x'.con = x.con) ∧ KR R W w' := by
  obtain ⟨hs, n1, n2, n3, n4⟩ := hb.ds
  have hps := pathB_short hp
  rw [str_len] at hps
  by_cases h1 : how = 1
  · subst h1
    exact dfirst_walk R x p W h hs
  by_cases h2 : how = 2
  · subst h2
    exact dsecond_walk R x p W h hs
  by_cases h3 : how = 3
  · subst h3
    exact dboth_walk R x p W h hs n1 n2 n3 (by omega) hp hb.zb
  by_cases h4 : how = 4
  · subst h4
    exact dnone_walk R x p W h hs
  · have e1 : oneA how x.abs p.toList = (x.abs, false) := by unfold oneA; rw [if_neg h1, if_neg h2, if_neg h3, if_neg h4]
    have e2 : wayF how = 118 := by unfold wayF; rw [if_neg h1, if_neg h2, if_neg h3, if_neg h4]
    rw [e1, e2]
    refine (dleave_walk _ p W).mono ?_
    rintro e w' ⟨rfl, rfl⟩
    exact ⟨rfl, ⟨x, h, rfl, rfl⟩, Keep.refl _ _⟩

theorem wpList_callv {P : Program} {ops : Array Oper} {rest : List Oper} {o : Oper} {a : Act} {w : World} {Q : Exit → Act → World → Prop} (hgd : o.guard = none)
    (x : Operand) (xs : Array Operand) (ats : Array TypeId) (ho : o.op = .call { callee := .value x, args := xs, argTypes := ats }) (f : FuncId) (first cap : List Value) (hx : a.eval x = .func (.func f) first.toArray cap.toArray) {fn : Func} (hf : P.funcs[f]? = some fn)
    (hname : (fn.name == "runtime.NumGoroutine") = false) (hb : fn.body.isNone = false) (args : List Value) (ha : first ++ xs.toList.map a.eval ++ cap = args) {R : Ending → World → Prop} (hc : Calls P f args.toArray w R)
    (h : ∀ e w', R e w' → ∃ v, e = .returned v ∧ wpList P ops Q rest (a.put o.dst v) w') : wpList P ops Q (o :: rest) a w :=
  wpList_plain hgd fun K hK => by
    have hw := step_callv (P := P) (ops := #[]) (o := o) (a := a) (w := w) (K := K) (Q := Q) (E := True) hgd x xs ats ho f first cap hx hf hname hb args ha hc (fun e w' hR => by
      obtain ⟨v, h1, h2⟩ := h e w' hR
      exact ⟨v, h1, hK _ _ h2⟩)
    have hwa : Region.wanted o (yielded #[] a.tmps) = true := by simp [Region.wanted, hgd]
    rw [if_pos hwa] at hw
    exact hw
/-- a call of a function's value, in a region that draws -/
theorem oper_callv {P : Program} {o : Oper} {a : Act} {w : World} {K : Act → World → Prop} {Q : Exit → Act → World → Prop} (hgd : o.guard = none)
    (x : Operand) (xs : Array Operand) (ats : Array TypeId) (ho : o.op = .call { callee := .value x, args := xs, argTypes := ats }) (f : FuncId) (first cap : List Value) (hx : a.eval x = .func (.func f) first.toArray cap.toArray) {fn : Func} (hf : P.funcs[f]? = some fn)
    (hname : (fn.name == "runtime.NumGoroutine") = false) (hb : fn.body.isNone = false) (args : List Value) (ha : first ++ xs.toList.map a.eval ++ cap = args) {R : Ending → World → Prop} (hc : Calls P f args.toArray w R)
    (h : ∀ e w', R e w' → ∃ v, e = .returned v ∧ K (a.put o.dst v) w') : Oper.wp P o a w K Q := by
  have hw := step_callv (P := P) (ops := #[]) (o := o) (a := a) (w := w) (K := K) (Q := Q) (E := True) hgd x xs ats ho f first cap hx hf hname hb args ha hc h
  have hwa : Region.wanted o (yielded #[] a.tmps) = true := by simp [Region.wanted, hgd]
  rw [if_pos hwa] at hw
  exact hw

end Go.Proofs.YtfbbjfbnkcklgaaGreatDoor

/- policy.Choose (printed by gen/genJ9.py) -/
namespace Go.Proofs.YtfbbjfbnkcklgaaGreatDoor
open Go.RowKit

def ownDst : Nat → Nat
  | 5 => 30 | 6 => 31
  | 9 => 34 | 10 => 35
  | 13 => 38 | 14 => 39
  | _ => 0
def ownG (x : RI) : Nat → Value → World → Prop
  | 5 => fun v _ => v = .slice x.a.A x.a.l.length x.a.c | 6 => TreeG (x.a.l.map Itm.abs)
  | 9 => fun v _ => v = .slice x.b.A x.b.l.length x.b.c | 10 => TreeG (x.b.l.map Itm.abs)
  | 13 => fun v _ => v = .slice x.o.A x.o.l.length x.o.c | 14 => TreeG (x.o.l.map Itm.abs)
  | _ => fun _ _ => True
theorem ownG_mono {x : RI} (j : Nat) (v : Value) (w w' : World) (hb : Below w.heap.size w w') (h : ownG x j v w) : ownG x j v w' := by
  unfold ownG at h ⊢
  split at h <;> first | exact h | exact TreeG.mono hb h
def bigS (v : Abs4) : Bool := decide (60 < max (max v.1.length v.2.1.length) v.2.2.1.length)
/-- the choice starts from here -/
def start (x : RI) : Abs4 := (x.a.l.map Itm.abs, x.b.l.map Itm.abs, x.o.l.map Itm.abs, [])
theorem settle_next (how : Int) (x : RI) {j : Nat} (hj : j < x.LC.length) : settleL how ((x.LC.map fun z : ByteArray => z.toList).take (j + 1)) (start x) = stepS how (settleL how ((x.LC.map fun z : ByteArray => z.toList).take j) (start x)) x.LC[j].toList := by
  unfold settleL
  rw [List.take_add_one, List.foldl_append, List.getElem?_map, List.getElem?_eq_getElem hj]
  rfl
/-- what stands beside the desk while Choose goes on -/
structure CS (W : World) (x : RI) (wr : World) : Prop where
  bx : wr.heap[W.heap.size]? = some (.cells #[.slice x.a.A x.a.l.length x.a.c, .slice x.b.A x.b.l.length x.b.c, .slice x.o.A x.o.l.length x.o.c, .slice x.cA x.LC.length x.cc] 28 (0, 0))
  rs : wr.heap[W.heap.size + 1]? = some (.cells #[.slice none 0 0, .slice none 0 0, .slice none 0 0, .slice none 0 0] 28 (0, 0))
  bel : Below W.heap.size W wr
theorem CS.below {W : World} {x : RI} {wr w' : World} (h : CS W x wr) (hb : Below wr.heap.size wr w') : CS W x w' := ⟨(hb.block _ (blkLt h.bx)).trans h.bx, (hb.block _ (blkLt h.rs)).trans h.rs, thenB h.bel hb⟩
theorem CS.kr {W : World} {x : RI} {wr w' : World} {R : Nat} (h : CS W x wr) (hk : KR R wr w') (hR : W.heap.size + 1 + 1 = R) : CS W x w' := ⟨(hk.block _ (blkLt h.bx) (by omega)).trans h.bx, (hk.block _ (blkLt h.rs) (by omega)).trans h.rs, KR.below h.bel hk (by omega)⟩
theorem CS.grown {W : World} {x : RI} {wr w' : World} {row : Option Nat} (h : CS W x wr) (hg : wr.grownBy w' row) (hn : ∀ k, row = some k → W.heap.size + 1 + 1 + 1 ≤ k) : CS W x w' :=
  ⟨(hg.block _ (blkLt h.bx) (fun e => by have := hn _ e.symm; omega)).trans h.bx, (hg.block _ (blkLt h.rs) (fun e => by have := hn _ e.symm; omega)).trans h.rs, Below.grownNew h.bel hg h.bel.size (fun k hk => by have := hn k hk; omega)⟩
theorem CS.cells {W : World} {x : RI} {wr : World} (h : CS W x wr) : wr.cell? ⟨W.heap.size, 0, none⟩ = some (.slice x.a.A x.a.l.length x.a.c) ∧ wr.cell? ⟨W.heap.size, 1, none⟩ = some (.slice x.b.A x.b.l.length x.b.c) ∧ wr.cell? ⟨W.heap.size, 2, none⟩ = some (.slice x.o.A x.o.l.length x.o.c) ∧ wr.cell? ⟨W.heap.size, 3, none⟩ = some (.slice x.cA x.LC.length x.cc) :=
  ⟨(blkCell h.bx 0).trans rfl, (blkCell h.bx 1).trans rfl, (blkCell h.bx 2).trans rfl, (blkCell h.bx 3).trans rfl⟩
set_option maxRecDepth 100000 in
set_option maxHeartbeats 8000000 in
theorem choose_walk (x : RI) (CA : Option Addr) (Cc : Nat) (how : Int) (W : World) (h : RIok W x) (hf : Fit x.abs) (hc : Recs (chC how) 2 W CA Cc x.LC) (hh : howB how = true) (ho : Once x.LC) (hn : x.LC.length ≤ 100000) (hB : ∀ j ≤ x.LC.length, Bnd (settleL how ((x.LC.map fun z : ByteArray => z.toList).take j) (start x))) :
    Calls Tryz.prog 51 #[.agg #[.slice x.a.A x.a.l.length x.a.c, .slice x.b.A x.b.l.length x.b.c, .slice x.o.A x.o.l.length x.o.c, .slice x.cA x.LC.length x.cc], .slice CA x.LC.length Cc] W fun e w' => ((bigS (settleL how (x.LC.map fun z : ByteArray => z.toList) (start x)) = true ∧ e = .returned (.tuple #[.agg #[.slice none 0 0, .slice none 0 0, .slice none 0 0, .slice none 0 0], .int .i64 2])) ∨ (bigS (settleL how (x.LC.map fun z : ByteArray => z.toList) (start x)) = false ∧ ∃ y : RI, e = .returned (.tuple #[.agg #[.slice y.a.A y.a.l.length y.a.c, .slice y.b.A y.b.l.length y.b.c, .slice y.o.A y.o.l.length y.o.c, .slice y.cA y.LC.length y.cc], .int .i64 0]) ∧ RIok w' y ∧ y.abs = settleL how (x.LC.map fun z : ByteArray => z.toList) (start x))) ∧ Below W.heap.size W w' := by
  have HX := hid h
  have HF := hid hf
  have HC := hid hc
  have HH := hid hh
  have HO := hid ho
  have HBN := hid hB
  clear h hf hc hh ho hB
  obtain ⟨wS, hwS⟩ : ∃ wS, wS = (((W.alloc (.cells #[.slice x.a.A x.a.l.length x.a.c, .slice x.b.A x.b.l.length x.b.c, .slice x.o.A x.o.l.length x.o.c, .slice x.cA x.LC.length x.cc] 28 (0, 0))).alloc (.cells #[.slice none 0 0, .slice none 0 0, .slice none 0 0, .slice none 0 0] 28 (0, 0))).alloc (.cells #[.slice x.a.A x.a.l.length x.a.c, .slice x.b.A x.b.l.length x.b.c, .slice x.o.A x.o.l.length x.o.c, .slice x.cA x.LC.length x.cc] 120 (0, 0))) := ⟨_, rfl⟩
  have hb0 : Below W.heap.size W wS := by rw [hwS]; exact thenA (thenA (thenA (Below.refl _ W) _) _) _
  have hs0 : wS.heap.size = W.heap.size + 1 + 1 + 1 := by rw [hwS]; simp
  have hbx : wS.heap[W.heap.size]? = some (.cells #[.slice x.a.A x.a.l.length x.a.c, .slice x.b.A x.b.l.length x.b.c, .slice x.o.A x.o.l.length x.o.c, .slice x.cA x.LC.length x.cc] 28 (0, 0)) := by rw [hwS]; exact (heap_alloc_old _ _ (by simp; omega)).trans ((heap_alloc_old _ _ (by simp)).trans (heap_alloc_new W _))
  have hrs : wS.heap[W.heap.size + 1]? = some (.cells #[.slice none 0 0, .slice none 0 0, .slice none 0 0, .slice none 0 0] 28 (0, 0)) := by
    rw [hwS]
    refine (heap_alloc_old _ _ (by simp)).trans ?_
    have := heap_alloc_new (W.alloc (.cells #[.slice x.a.A x.a.l.length x.a.c, .slice x.b.A x.b.l.length x.b.c, .slice x.o.A x.o.l.length x.o.c, .slice x.cA x.LC.length x.cc] 28 (0, 0))) (.cells #[.slice none 0 0, .slice none 0 0, .slice none 0 0, .slice none 0 0] 28 (0, 0))
    rw [World.size_alloc] at this
    exact this
  have hdb : wS.heap[W.heap.size + 1 + 1]? = some (.cells #[.slice x.a.A x.a.l.length x.a.c, .slice x.b.A x.b.l.length x.b.c, .slice x.o.A x.o.l.length x.o.c, .slice x.cA x.LC.length x.cc] 120 (0, 0)) := by
    rw [hwS]
    have := heap_alloc_new ((W.alloc (.cells #[.slice x.a.A x.a.l.length x.a.c, .slice x.b.A x.b.l.length x.b.c, .slice x.o.A x.o.l.length x.o.c, .slice x.cA x.LC.length x.cc] 28 (0, 0))).alloc (.cells #[.slice none 0 0, .slice none 0 0, .slice none 0 0, .slice none 0 0] 28 (0, 0))) (.cells #[.slice x.a.A x.a.l.length x.a.c, .slice x.b.A x.b.l.length x.b.c, .slice x.o.A x.o.l.length x.o.c, .slice x.cA x.LC.length x.cc] 120 (0, 0))
    rw [World.size_alloc, World.size_alloc] at this
    exact this
  have HCS : HidP (CS W x wS) := hid ⟨hbx, hrs, hb0⟩
  obtain ⟨R, hR⟩ : ∃ R, W.heap.size + 1 + 1 = R := ⟨_, rfl⟩
  have HR := hid hR
  rw [hR] at hdb
  have HD : HidP (DB R x wS) := hid ⟨hdb, HX.out.a.below hb0, HX.out.b.below hb0, HX.out.o.below hb0, HX.out.c.below hb0⟩
  clear hbx hrs hdb hb0
  have HFI := hid (fits_walk R x wS HD.out HF.out hn)
  go_enter Tryz.func51, Tryz.ntmps51
  go_wp2_with fail
  rw [← hwS]
  clear hwS hR
  refine HFI.out.mono ?_
  rintro e w1 ⟨rfl, hb1⟩
  replace HD := hid (HD.out.below hb1)
  replace HCS := hid (HCS.out.below hb1)
  have hsz1 : W.heap.size + 1 + 1 + 1 ≤ w1.heap.size := by have := hb1.size; omega
  clear hb1 HFI hs0
  have HWR := hid (wrong_walk R x CA Cc how w1 HD.out (HC.out.below HCS.out.bel) HH.out HO.out (by omega))
  go_wp2_with fail
  refine HWR.out.mono ?_
  rintro e W0 ⟨rfl, hb1⟩
  replace HD := hid (HD.out.below hb1)
  replace HCS := hid (HCS.out.below hb1)
  have HSZ : HidP (W.heap.size + 1 + 1 + 1 ≤ W0.heap.size) := hid (by have := hb1.size; omega)
  clear hb1 HWR hsz1
  go_wp2_with fail
  refine wp_region_held_drew (S := fun _ => True) (by kernel_rfl) trivial (fun hHeld => ?_)
  refine take_slot 0 25 (v := ?_) rfl rfl (by kernel_rfl) (by kernel_rfl) (by kernel_rfl) (fun _ _ _ h => h) (Or.inl ⟨by rfl, by intro W hSw; (try dsimp only at hSw); go_simp; try with_reducible rfl⟩) (by assumption) ?_
  simp only [Act.put, List.setIfInBounds_toArray, List.set_cons_zero, List.set_cons_succ]
  refine take_slot 1 26 (v := ?_) rfl rfl (by kernel_rfl) (by kernel_rfl) (by kernel_rfl) (fun _ _ _ h => h) (Or.inl ⟨by rfl, by intro W hSw; (try dsimp only at hSw); go_simp; try with_reducible rfl⟩) (by assumption) ?_
  simp only [Act.put, List.setIfInBounds_toArray, List.set_cons_zero, List.set_cons_succ]
  refine take_slot 2 27 (v := ?_) rfl rfl (by kernel_rfl) (by kernel_rfl) (by kernel_rfl) (fun _ _ _ h => h) (Or.inl ⟨by rfl, by intro W hSw; (try dsimp only at hSw); go_simp; try with_reducible rfl⟩) (by assumption) ?_
  simp only [Act.put, List.setIfInBounds_toArray, List.set_cons_zero, List.set_cons_succ]
  refine take_slot 3 28 (v := ?_) rfl rfl (by kernel_rfl) (by kernel_rfl) (by kernel_rfl) (fun _ _ _ h => h) (Or.inl ⟨by rfl, by intro W hSw; (try dsimp only at hSw); go_simp; try with_reducible rfl⟩) (by assumption) ?_
  simp only [Act.put, List.setIfInBounds_toArray, List.set_cons_zero, List.set_cons_succ]
  refine take_slot 4 29 (v := ?_) rfl rfl (by kernel_rfl) (by kernel_rfl) (by kernel_rfl) (fun _ _ _ h => h) (Or.inl ⟨by rfl, by intro W hSw; (try dsimp only at hSw); go_simp; try with_reducible rfl⟩) (by assumption) ?_
  simp only [Act.put, List.setIfInBounds_toArray, List.set_cons_zero, List.set_cons_succ]
  refine take_slot 7 32 (v := ?_) rfl rfl (by kernel_rfl) (by kernel_rfl) (by kernel_rfl) (fun _ _ _ h => h) (Or.inl ⟨by rfl, by intro W hSw; (try dsimp only at hSw); go_simp; try with_reducible rfl⟩) (by assumption) ?_
  simp only [Act.put, List.setIfInBounds_toArray, List.set_cons_zero, List.set_cons_succ]
  refine take_slot 8 33 (v := ?_) rfl rfl (by kernel_rfl) (by kernel_rfl) (by kernel_rfl) (fun _ _ _ h => h) (Or.inl ⟨by rfl, by intro W hSw; (try dsimp only at hSw); go_simp; try with_reducible rfl⟩) (by assumption) ?_
  simp only [Act.put, List.setIfInBounds_toArray, List.set_cons_zero, List.set_cons_succ]
  refine take_slot 11 36 (v := ?_) rfl rfl (by kernel_rfl) (by kernel_rfl) (by kernel_rfl) (fun _ _ _ h => h) (Or.inl ⟨by rfl, by intro W hSw; (try dsimp only at hSw); go_simp; try with_reducible rfl⟩) (by assumption) ?_
  simp only [Act.put, List.setIfInBounds_toArray, List.set_cons_zero, List.set_cons_succ]
  refine take_slot 12 37 (v := ?_) rfl rfl (by kernel_rfl) (by kernel_rfl) (by kernel_rfl) (fun _ _ _ h => h) (Or.inl ⟨by rfl, by intro W hSw; (try dsimp only at hSw); go_simp; try with_reducible rfl⟩) (by assumption) ?_
  simp only [Act.put, List.setIfInBounds_toArray, List.set_cons_zero, List.set_cons_succ]
  refine flow_region (ks := [5, 6, 9, 10, 13, 14]) ownDst (ownG x) (fun _ _ _ _ => True) 12 (by kernel_rfl) (by kernel_rfl) (by kernel_rfl) (by decide) (by simp [ownDst]) (by decide) trivial ownG_mono ?step ?fin
  case step =>
    intro i' hi' a' w' hF _ hpre
    have hb' : Below W0.heap.size W0 w' := ⟨hF.below.os, hF.below.tape, hF.below.output, hF.below.size, hF.below.block⟩
    simp only [List.mem_cons, List.not_mem_nil, or_false] at hi'
    rcases hi' with rfl | rfl | rfl | rfl | rfl | rfl
    · refine ⟨_, rfl, rfl, fun K hK => ?_⟩
      refine oper_load_tree (t := 29) (p := ⟨W.heap.size, 0, none⟩) (by rfl) (by rw [hF.eval (by decide)]; kernel_rfl) (HCS.out.below hb').cells.1 ?_
      exact hK _ _ (Below.refl _ _) trivial rfl fun _ _ _ _ => ⟨trivial, trivial⟩
    · refine ⟨_, rfl, rfl, fun K hK => ?_⟩
      have e1 : a'.tmps.getD 30 undef = .slice x.a.A x.a.l.length x.a.c := hpre 5 (by simp) (by kernel_rfl)
      have hc := pown_walk x.a w' ((HD.out.below hb').a)
      refine oper_callv rfl (.tmp 28) _ _ (by rfl) 82 [] [] (by rw [hF.eval (by decide)]; kernel_rfl) Tryz.func82 (by kernel_rfl) (by kernel_rfl) [.slice x.a.A x.a.l.length x.a.c] (by show [a'.eval (.tmp 30)] = _; rw [show a'.eval (.tmp 30) = _ from e1]) hc ?_
      rintro e w2 ⟨⟨B, d, K', rfl, ht, he⟩, hb2⟩
      exact ⟨_, rfl, hK _ _ hb2 trivial ⟨B, d, K', rfl, ht, he⟩ fun _ _ _ _ => ⟨trivial, trivial⟩⟩
    · refine ⟨_, rfl, rfl, fun K hK => ?_⟩
      refine oper_load_tree (t := 33) (p := ⟨W.heap.size, 1, none⟩) (by rfl) (by rw [hF.eval (by decide)]; kernel_rfl) (HCS.out.below hb').cells.2.1 ?_
      exact hK _ _ (Below.refl _ _) trivial rfl fun _ _ _ _ => ⟨trivial, trivial⟩
    · refine ⟨_, rfl, rfl, fun K hK => ?_⟩
      have e1 : a'.tmps.getD 34 undef = .slice x.b.A x.b.l.length x.b.c := hpre 9 (by simp) (by kernel_rfl)
      have hc := pown_walk x.b w' ((HD.out.below hb').b)
      refine oper_callv rfl (.tmp 32) _ _ (by rfl) 82 [] [] (by rw [hF.eval (by decide)]; kernel_rfl) Tryz.func82 (by kernel_rfl) (by kernel_rfl) [.slice x.b.A x.b.l.length x.b.c] (by show [a'.eval (.tmp 34)] = _; rw [show a'.eval (.tmp 34) = _ from e1]) hc ?_
      rintro e w2 ⟨⟨B, d, K', rfl, ht, he⟩, hb2⟩
      exact ⟨_, rfl, hK _ _ hb2 trivial ⟨B, d, K', rfl, ht, he⟩ fun _ _ _ _ => ⟨trivial, trivial⟩⟩
    · refine ⟨_, rfl, rfl, fun K hK => ?_⟩
      refine oper_load_tree (t := 37) (p := ⟨W.heap.size, 2, none⟩) (by rfl) (by rw [hF.eval (by decide)]; kernel_rfl) (HCS.out.below hb').cells.2.2.1 ?_
      exact hK _ _ (Below.refl _ _) trivial rfl fun _ _ _ _ => ⟨trivial, trivial⟩
    · refine ⟨_, rfl, rfl, fun K hK => ?_⟩
      have e1 : a'.tmps.getD 38 undef = .slice x.o.A x.o.l.length x.o.c := hpre 13 (by simp) (by kernel_rfl)
      have hc := pown_walk x.o w' ((HD.out.below hb').o)
      refine oper_callv rfl (.tmp 36) _ _ (by rfl) 82 [] [] (by rw [hF.eval (by decide)]; kernel_rfl) Tryz.func82 (by kernel_rfl) (by kernel_rfl) [.slice x.o.A x.o.l.length x.o.c] (by show [a'.eval (.tmp 38)] = _; rw [show a'.eval (.tmp 38) = _ from e1]) hc ?_
      rintro e w2 ⟨⟨B, d, K', rfl, ht, he⟩, hb2⟩
      exact ⟨_, rfl, hK _ _ hb2 trivial ⟨B, d, K', rfl, ht, he⟩ fun _ _ _ _ => ⟨trivial, trivial⟩⟩
  case fin =>
    intro a' w' hF _ hG _
    have hb' : Below W0.heap.size W0 w' := ⟨hF.below.os, hF.below.tape, hF.below.output, hF.below.size, hF.below.block⟩
    have l0 : a'.tmps.getD 30 undef = .slice x.a.A x.a.l.length x.a.c := hG 5 (by simp)
    have g0 : TreeG (x.a.l.map Itm.abs) (a'.tmps.getD 31 undef) w' := hG 6 (by simp)
    obtain ⟨B0, d0, K0, e0, ht0, he0⟩ := g0
    have l1 : a'.tmps.getD 34 undef = .slice x.b.A x.b.l.length x.b.c := hG 9 (by simp)
    have g1 : TreeG (x.b.l.map Itm.abs) (a'.tmps.getD 35 undef) w' := hG 10 (by simp)
    obtain ⟨B1, d1, K1, e1, ht1, he1⟩ := g1
    have l2 : a'.tmps.getD 38 undef = .slice x.o.A x.o.l.length x.o.c := hG 13 (by simp)
    have g2 : TreeG (x.o.l.map Itm.abs) (a'.tmps.getD 39 undef) w' := hG 14 (by simp)
    obtain ⟨B2, d2, K2, e2, ht2, he2⟩ := g2
    have hact := hF.act
    simp only [List.foldl_cons, List.foldl_nil, ownDst, l0, e0, l1, e1, l2, e2, List.setIfInBounds_toArray, List.set_cons_zero, List.set_cons_succ] at hact
    clear hF hG l0 e0 l1 e1 l2 e2
    subst hact
    have HD0 := hid (HD.out.below hb')
    have HK0 := hid (KR.then (Keep.refl (fun k => k ≠ R) W0) hb')
    clear hb'
    have HT0 := hid ht0
    have HE0 := hid he0
    have HT1 := hid ht1
    have HE1 := hid he1
    have HT2 := hid ht2
    have HE2 := hid he2
    clear ht0 he0 ht1 he1 ht2 he2
    refine take_slot 15 40 (v := ?_) rfl rfl (by kernel_rfl) (by kernel_rfl) (by kernel_rfl) (fun _ _ _ h => h) (Or.inl ⟨by rfl, by intro W hSw; (try dsimp only at hSw); go_simp; try with_reducible rfl⟩) (by assumption) ?_
    simp only [Act.put, List.setIfInBounds_toArray, List.set_cons_zero, List.set_cons_succ]
    refine take_slot 16 41 (v := ?_) rfl rfl (by kernel_rfl) (by kernel_rfl) (by kernel_rfl) (fun _ _ _ h => h) (Or.inl ⟨by rfl, by intro W hSw; (try dsimp only at hSw); go_simp; try with_reducible rfl⟩) (by assumption) ?_
    simp only [Act.put, List.setIfInBounds_toArray, List.set_cons_zero, List.set_cons_succ]
    refine take_slot 17 42 (v := ?_) rfl rfl (by kernel_rfl) (by kernel_rfl) (by kernel_rfl) (fun _ _ _ h => h) (Or.inl ⟨by rfl, by intro W hSw; (try dsimp only at hSw); go_simp; try with_reducible rfl⟩) (by assumption) ?_
    simp only [Act.put, List.setIfInBounds_toArray, List.set_cons_zero, List.set_cons_succ]
    obtain ⟨s0, s1, s2, s3, sf⟩ := HD0.out.cells
    have f0 := sf 0
    refine wpAnyH_ready (rs := [18]) (by kernel_rfl) (by simp) ?_
    refine AllReadyH.cons (o := _) rfl (fun K hK => ?_) AllReadyH.nil
    go_simp
    refine hK.out _ _ trivial (fun _ => ?_)
    try simp only [Act.put]
    have hk1 : KR R w' (w'.setCell ⟨R, 0, none⟩ (.slice B0 K0.length d0)) := KR.setR (Keep.refl _ _) 0 _
    have HD1 := hid (HD0.out.setA HT0.out)
    have HK1 := hid (HK0.out.trans hk1)
    replace HT1 := hid (HD0.out.tree HT1.out hk1)
    replace HT2 := hid (HD0.out.tree HT2.out hk1)
    clear hK K s0 s1 s2 s3 sf f0 hk1 HD0 HK0
    generalize (w'.setCell ⟨R, 0, none⟩ (.slice B0 K0.length d0)) = v1 at *
    refine take_slot 19 43 (v := ?_) rfl rfl (by kernel_rfl) (by kernel_rfl) (by kernel_rfl) (fun _ _ _ h => h) (Or.inl ⟨by rfl, by intro W hSw; (try dsimp only at hSw); go_simp; try with_reducible rfl⟩) (by assumption) ?_
    simp only [Act.put, List.setIfInBounds_toArray, List.set_cons_zero, List.set_cons_succ]
    refine take_slot 20 44 (v := ?_) rfl rfl (by kernel_rfl) (by kernel_rfl) (by kernel_rfl) (fun _ _ _ h => h) (Or.inl ⟨by rfl, by intro W hSw; (try dsimp only at hSw); go_simp; try with_reducible rfl⟩) (by assumption) ?_
    simp only [Act.put, List.setIfInBounds_toArray, List.set_cons_zero, List.set_cons_succ]
    refine take_slot 21 45 (v := ?_) rfl rfl (by kernel_rfl) (by kernel_rfl) (by kernel_rfl) (fun _ _ _ h => h) (Or.inl ⟨by rfl, by intro W hSw; (try dsimp only at hSw); go_simp; try with_reducible rfl⟩) (by assumption) ?_
    simp only [Act.put, List.setIfInBounds_toArray, List.set_cons_zero, List.set_cons_succ]
    obtain ⟨s0, s1, s2, s3, sf⟩ := HD1.out.cells
    have f0 := sf 1
    refine wpAnyH_ready (rs := [22]) (by kernel_rfl) (by simp) ?_
    refine AllReadyH.cons (o := _) rfl (fun K hK => ?_) AllReadyH.nil
    go_simp
    refine hK.out _ _ trivial (fun _ => ?_)
    try simp only [Act.put]
    have hk2 : KR R v1 (v1.setCell ⟨R, 1, none⟩ (.slice B1 K1.length d1)) := KR.setR (Keep.refl _ _) 1 _
    have HD2 := hid (HD1.out.setB HT1.out)
    have HK2 := hid (HK1.out.trans hk2)
    replace HT2 := hid (HD1.out.tree HT2.out hk2)
    clear hK K s0 s1 s2 s3 sf f0 hk2 HD1 HK1
    generalize (v1.setCell ⟨R, 1, none⟩ (.slice B1 K1.length d1)) = v2 at *
    refine take_slot 23 46 (v := ?_) rfl rfl (by kernel_rfl) (by kernel_rfl) (by kernel_rfl) (fun _ _ _ h => h) (Or.inl ⟨by rfl, by intro W hSw; (try dsimp only at hSw); go_simp; try with_reducible rfl⟩) (by assumption) ?_
    simp only [Act.put, List.setIfInBounds_toArray, List.set_cons_zero, List.set_cons_succ]
    refine take_slot 24 47 (v := ?_) rfl rfl (by kernel_rfl) (by kernel_rfl) (by kernel_rfl) (fun _ _ _ h => h) (Or.inl ⟨by rfl, by intro W hSw; (try dsimp only at hSw); go_simp; try with_reducible rfl⟩) (by assumption) ?_
    simp only [Act.put, List.setIfInBounds_toArray, List.set_cons_zero, List.set_cons_succ]
    refine take_slot 25 48 (v := ?_) rfl rfl (by kernel_rfl) (by kernel_rfl) (by kernel_rfl) (fun _ _ _ h => h) (Or.inl ⟨by rfl, by intro W hSw; (try dsimp only at hSw); go_simp; try with_reducible rfl⟩) (by assumption) ?_
    simp only [Act.put, List.setIfInBounds_toArray, List.set_cons_zero, List.set_cons_succ]
    obtain ⟨s0, s1, s2, s3, sf⟩ := HD2.out.cells
    have f0 := sf 2
    refine wpAnyH_ready (rs := [26]) (by kernel_rfl) (by simp) ?_
    refine AllReadyH.cons (o := _) rfl (fun K hK => ?_) AllReadyH.nil
    go_simp
    refine hK.out _ _ trivial (fun _ => ?_)
    try simp only [Act.put]
    have hk3 : KR R v2 (v2.setCell ⟨R, 2, none⟩ (.slice B2 K2.length d2)) := KR.setR (Keep.refl _ _) 2 _
    have HD3 := hid (HD2.out.setO HT2.out)
    have HK3 := hid (HK2.out.trans hk3)
    clear hK K s0 s1 s2 s3 sf f0 hk3 HD2 HK2
    generalize (v2.setCell ⟨R, 2, none⟩ (.slice B2 K2.length d2)) = v3 at *
    refine wpAnyH_done (by kernel_rfl) ?_ _
    clear hHeld
    replace HCS := hid (HCS.out.kr HK3.out HR.out)
    replace HSZ : HidP (W.heap.size + 1 + 1 + 1 ≤ v3.heap.size) := hid (Nat.le_trans HSZ.out HK3.out.size)
    obtain ⟨x1, hx1⟩ : ∃ x1 : RI, x1 = { x with a := ⟨B0, d0, K0⟩, b := ⟨B1, d1, K1⟩, o := ⟨B2, d2, K2⟩ } := ⟨_, rfl⟩
    have HD4 : HidP (DB R x1 v3) := hid (by rw [hx1]; exact HD3.out)
    have HE4 : HidP ((x1.a.l.map Itm.abs, x1.b.l.map Itm.abs, x1.o.l.map Itm.abs, ([] : List Txt)) = start x) := hid (by rw [hx1]; unfold start; simp only; rw [HE0.out, HE1.out, HE2.out])
    clear hx1 HD3 HE0 HE1 HE2 HT0 HT1 HT2 HD HK3
    have hdc0 : HidP (DC R (W.heap.size + 1 + 1 + 1) { x1 with cA := none, cc := 0, LC := [] } (v3.setCell ⟨R, 3, none⟩ (.slice none 0 0))) := hid ⟨HD4.out.setC (L := []) (Row.nil v3 _ _), StrB.nil _ _ _, by simp [Value.ownBlock]⟩
    have hcs0 := hid (HCS.out.kr (KR.setR (Keep.refl (fun k => k ≠ R) v3) 3 (.slice none 0 0)) HR.out)
    have f3 := HD4.out.cells.2.2.2.2 3
    obtain ⟨_, _, _, s3, _⟩ := HD4.out.cells
    obtain ⟨z0, z1, z2, z3⟩ := hcs0.out.cells
    clear HCS HD4
    go_wp2_with fail
    go_loopg [56] x.LC.length (fun k i wr => ∃ (j : Nat) (x' : RI), j ≤ x.LC.length ∧ k = x.LC.length - j ∧ i = .int .i64 j ∧ DC R (W.heap.size + 1 + 1 + 1) x' wr ∧ x'.abs = settleL how ((x.LC.map fun z : ByteArray => z.toList).take j) (start x) ∧ CS W x wr ∧ W.heap.size + 1 + 1 + 1 ≤ wr.heap.size)
    case atStart => exact ⟨0, _, Nat.zero_le _, rfl, rfl, hdc0.out, HE4.out, hcs0.out, by have := HSZ.out; simpa using this⟩
    case round =>
      clear f3 s3 z0 z1 z2 z3 hdc0 hcs0
      obtain ⟨j, x', hj, rfl, rfl, hdc, hab, hcs, hsz⟩ := hrel
      have HDC := hid hdc
      have HAB := hid hab
      have HCR := hid hcs
      have HSR := hid hsz
      clear hdc hab hcs hsz HSZ HE4
      by_cases hlt : j < x.LC.length
      · have i0 : (0 : Int) ≤ (j : Int) := by omega
        have i1 : (j : Int) < (x.LC.length : Int) := by omega
        obtain ⟨cb, co, hcA, ck⟩ := (HX.out.c.below HCR.out.bel).str hlt
        have HCA := hid hcA
        rw [hcA]
        obtain ⟨eb, eo, heA, hek⟩ := (HC.out.below HCR.out.bel).cell j x.LC[j] (List.getElem?_eq_getElem hlt)
        have e1 : wr.cell? ⟨eb, eo + j * 2 + 1, none⟩ = some (.int .i64 how) := hek 1 _ rfl
        have HFN := hid (pfind_walk CA Cc x.LC how wr j hlt (HC.out.below HCR.out.bel) HO.out (by omega))
        have g0 : decide ((j : Int) ≥ 0) = true := decide_eq_true i0
        have HPA : HidP (pathB x.LC[j].toList = true) := hid (HF.out.path _ (List.mem_map_of_mem (List.getElem_mem hlt)))
        have HBJ : HidP (Bnd x'.abs) := hid (by rw [HAB.out]; exact HBN.out j (by omega))
        have HNX : HidP (settleL how ((x.LC.map fun z : ByteArray => z.toList).take (j + 1)) (start x) = stepS how x'.abs x.LC[j].toList) := hid (by rw [settle_next how x hlt, HAB.out])
        subst heA
        clear hek hcA
        go_wp2_with fail
        refine HFN.out.mono ?_
        rintro e w5 ⟨rfl, hb5⟩
        replace e1 := cellB hb5 e1
        have HWY := hid (way_walk R how w5)
        replace HDC := hid (HDC.out.below hb5)
        replace HCR := hid (HCR.out.below hb5)
        replace HSR : HidP (W.heap.size + 1 + 1 + 1 ≤ w5.heap.size) := hid (Nat.le_trans HSR.out hb5.size)
        have HDO := hid (do_walk how R x' x.LC[j] w5 HDC.out.db HBJ.out HPA.out)
        obtain ⟨fn, hf1, hf2, hf3⟩ := wayF_fn how
        clear hb5 HFN ck
        go_wp2_with fail
        refine HWY.out.mono ?_
        rintro e w6 ⟨rfl, rfl⟩
        clear HWY
        generalize wayF how = F at *
        cases hr : (oneA how x'.abs x.LC[j].toList).2
        · have HR0 : HidP (stepS how x'.abs x.LC[j].toList = pushC (oneA how x'.abs x.LC[j].toList).1 x.LC[j].toList) := hid (by unfold stepS; rw [hr]; rfl)
          rw [hr] at HDO
          clear hr
          go_wp2_with (first | (refine wpList_callv rfl _ _ _ rfl F [.pointer (some ⟨R, 0, none⟩)] [] rfl hf1 hf2 hf3 [.pointer (some ⟨R, 0, none⟩), .string x.LC[j]] rfl HDO.out ?_; rintro e w7 ⟨rfl, ⟨x7, hd7, ha7, hc7⟩, hk7⟩; have HDC7 := hid (HDC.out.of hd7 hc7 hk7); obtain ⟨_, _, _, s3, _⟩ := hd7.cells; have hl7 : x7.LC.length ≤ 1000000 := (by have e2 : x7.LC = x'.LC := congrArg (fun z : Option Addr × Nat × List ByteArray => z.2.2) hc7; rw [e2]; have := HBJ.out.ds.2.2.2.2; omega); obtain ⟨An, nn, cn, w9, hrun, hrow, hstr, hgr, hown⟩ := run_append_s (w7.alloc (.cells #[.string x.LC[j]] 9 (0, 0))) 26 x7.cA x7.LC.length x7.cc x7.LC (HDC7.out.below (thenA (Below.refl _ w7) _)).db.c (HDC7.out.below (thenA (Below.refl _ w7) _)).str w7.heap.size x.LC[j] (heap_alloc_new w7 _) hl7; obtain ⟨LN, hLN⟩ : ∃ LN, LN = x7.LC ++ [x.LC[j]] := ⟨_, rfl⟩; rw [← hLN] at hrow; obtain rfl : nn = LN.length := hrow.slen; have HDA := hid (HDC7.out.below (thenA (Below.refl _ w7) (.cells #[.string x.LC[j]] 9 (0, 0)))); have h9 := (hgr.block R (blkLt HDA.out.db.blk) (fun e => HDA.out.neR R e.symm rfl)).trans HDA.out.db.blk; have f9 := blkFree h9 3; have c9 : w9.cell? ⟨R, 3, none⟩ = some (.slice x7.cA x7.LC.length x7.cc) := (blkCell h9 3).trans rfl; clear h9; have HLN := hid hLN; have HRW := hid hrow; have HSTR := hid hstr; have HGR := hid hgr; have HOW := hid hown; have HA7 := hid ha7; have HK7 := hid hk7; have HC7 := hid hc7; clear hrow hstr hgr hown ha7 hk7 hc7 hd7 hLN; refine ⟨_, rfl, ?_⟩) | (at_builtin; refine wpList_append_run rfl _ _ 26 26 rfl (.slice x7.cA x7.LC.length x7.cc) (.slice (some ⟨w7.heap.size, 0, none⟩) 1 1) rfl rfl hrun ?_))
          have HNEW : HidP (∀ k, (Value.slice An LN.length cn).ownBlock = some k → W.heap.size + 1 + 1 + 1 ≤ k) := hid (fun k hk => by
            rcases HOW.out with e | e
            · rw [e] at hk; exact HDC7.out.new k hk
            · rw [e] at hk
              simp only [World.size_alloc, Option.some.injEq] at hk
              have h1 := HSR.out
              have h2 := HK7.out.size
              omega)
          have HP9 := hid (HDA.out.push HRW.out HSTR.out HGR.out HNEW.out)
          have HC9 := hid (((HCR.out.kr HK7.out HR.out).below (thenA (Below.refl _ w7) (.cells #[.string x.LC[j]] 9 (0, 0)))).grown HGR.out (fun k hk => HDC7.out.new k hk))
          have HC10 := hid (HC9.out.kr (KR.setR (Keep.refl (fun k => k ≠ R) w9) 3 (.slice An LN.length cn)) HR.out)
          have HS9 : HidP (W.heap.size + 1 + 1 + 1 ≤ w9.heap.size) := hid (by
            have h1 := HSR.out
            have h2 := HK7.out.size
            have h3 := HGR.out.size
            rw [World.size_alloc] at h3
            omega)
          have HAE : HidP (RI.abs { x7 with cA := An, cc := cn, LC := LN } = stepS how x'.abs x.LC[j].toList) := hid (by
            rw [HR0.out, ← HA7.out, HLN.out]
            unfold RI.abs pushC
            simp only [List.map_append, List.map_cons, List.map_nil])
          clear s3 hl7 hrun f9 c9
          rw [← HCA.out]
          go_roundg (x.LC.length - (j + 1))
          case measure => omega
          case rel => exact ⟨j + 1, _, by omega, rfl, by go_num, HP9.out, by rw [HAE.out, HNX.out], HC10.out, by simpa using HS9.out⟩
        · have HR1 : HidP (stepS how x'.abs x.LC[j].toList = (oneA how x'.abs x.LC[j].toList).1) := hid (by unfold stepS; rw [hr]; rfl)
          rw [hr] at HDO
          clear hr
          go_wp2_with (refine wpList_callv rfl _ _ _ rfl F [.pointer (some ⟨R, 0, none⟩)] [] rfl hf1 hf2 hf3 [.pointer (some ⟨R, 0, none⟩), .string x.LC[j]] rfl HDO.out ?_; rintro e w7 ⟨rfl, ⟨x7, hd7, ha7, hc7⟩, hk7⟩; refine ⟨_, rfl, ?_⟩)
          have HA7 := hid ha7
          have HC7 := hid hc7
          have HD7 := hid hd7
          have HK7 := hid hk7
          clear ha7 hc7 hd7 hk7
          rw [← HCA.out]
          go_roundg (x.LC.length - (j + 1))
          case measure => omega
          case rel => exact ⟨j + 1, x7, by omega, rfl, by go_num, HDC.out.of HD7.out HC7.out HK7.out, by rw [HA7.out, HNX.out, HR1.out], HCR.out.kr HK7.out HR.out, Nat.le_trans HSR.out HK7.out.size⟩
      · obtain rfl : j = x.LC.length := by omega
        rw [show (x.LC.map fun z : ByteArray => z.toList).take x.LC.length = x.LC.map fun z : ByteArray => z.toList from List.take_of_length_le (by rw [List.length_map]; exact Nat.le_refl _)] at HAB
        obtain ⟨c0, c1, c2, c3, _⟩ := HDC.out.db.cells
        go_wp2_with fail
        go_region
        have hmx : (if (if x'.a.l.length < x'.b.l.length then (x'.b.l.length : Int) else (x'.a.l.length : Int)) < (x'.o.l.length : Int) then (x'.o.l.length : Int) else if x'.a.l.length < x'.b.l.length then (x'.b.l.length : Int) else (x'.a.l.length : Int)) = ((max (max x'.a.l.length x'.b.l.length) x'.o.l.length : Nat) : Int) := by
          split <;> split at * <;> omega
        rw [hmx]
        clear hmx c0 c1 c2 c3
        have hbd : Below wr.heap.size wr wr.drew := ⟨rfl, rfl, rfl, Nat.le_refl _, fun _ _ => rfl⟩
        have HD8 := hid (HDC.out.below hbd).db
        have HC8 := hid (HCR.out.below hbd)
        have HS8 : HidP (W.heap.size + 1 + 1 + 1 ≤ wr.drew.heap.size) := hid HSR.out
        have HBIG : HidP (bigS (settleL how (x.LC.map fun z : ByteArray => z.toList) (start x)) = decide ((60 : Int) < ((max (max x'.a.l.length x'.b.l.length) x'.o.l.length : Nat) : Int))) := hid (by
          rw [← HAB.out]
          unfold bigS RI.abs
          simp only [List.length_map]
          congr 1
          exact propext ⟨fun h => by omega, fun h => by omega⟩)
        have HLC : HidP (x'.LC.length ≤ 1000000) := hid (by
          have h1 := HBN.out _ (Nat.le_refl _)
          rw [show (x.LC.map fun z : ByteArray => z.toList).take x.LC.length = x.LC.map fun z : ByteArray => z.toList from List.take_of_length_le (by rw [List.length_map]; exact Nat.le_refl _), ← HAB.out] at h1
          have := h1.ds.2.2.2.2
          omega)
        clear hbd HDC HCR HSR
        generalize wr.drew = W8 at *
        generalize hg : decide ((60 : Int) < ((max (max x'.a.l.length x'.b.l.length) x'.o.l.length : Nat) : Int)) = g at *
        clear hg
        obtain ⟨c0, c1, c2, c3, _⟩ := HD8.out.cells
        have hq8 := HC8.out.rs
        have r0 : W8.cell? ⟨W.heap.size + 1, 0, none⟩ = some (.slice none 0 0) := (blkCell hq8 0).trans rfl
        have r1 : W8.cell? ⟨W.heap.size + 1, 1, none⟩ = some (.slice none 0 0) := (blkCell hq8 1).trans rfl
        have r2 : W8.cell? ⟨W.heap.size + 1, 2, none⟩ = some (.slice none 0 0) := (blkCell hq8 2).trans rfl
        have r3 : W8.cell? ⟨W.heap.size + 1, 3, none⟩ = some (.slice none 0 0) := (blkCell hq8 3).trans rfl
        have f0 := blkFree hq8 0
        have f1 := blkFree hq8 1
        have f2 := blkFree hq8 2
        have f3 := blkFree hq8 3
        cases g
        · obtain ⟨w9, hw9⟩ : ∃ w9, w9 = ((((W8.setCell ⟨W.heap.size + 1, 0, none⟩ (.slice x'.a.A x'.a.l.length x'.a.c)).setCell ⟨W.heap.size + 1, 1, none⟩ (.slice x'.b.A x'.b.l.length x'.b.c)).setCell ⟨W.heap.size + 1, 2, none⟩ (.slice x'.o.A x'.o.l.length x'.o.c)).setCell ⟨W.heap.size + 1, 3, none⟩ (.slice x'.cA x'.LC.length x'.cc)) := ⟨_, rfl⟩
          have hF := blkSet (blkSet (blkSet (blkSet hq8 0 (.slice x'.a.A x'.a.l.length x'.a.c)) 1 (.slice x'.b.A x'.b.l.length x'.b.c)) 2 (.slice x'.o.A x'.o.l.length x'.o.c)) 3 (.slice x'.cA x'.LC.length x'.cc)
          have y0 := (blkCell hF 0).trans (rfl : _ = some (Value.slice x'.a.A x'.a.l.length x'.a.c))
          have y1 := (blkCell hF 1).trans (rfl : _ = some (Value.slice x'.b.A x'.b.l.length x'.b.c))
          have y2 := (blkCell hF 2).trans (rfl : _ = some (Value.slice x'.o.A x'.o.l.length x'.o.c))
          have y3 := (blkCell hF 3).trans (rfl : _ = some (Value.slice x'.cA x'.LC.length x'.cc))
          have hkf : KR (W.heap.size + 1) W8 ((((W8.setCell ⟨W.heap.size + 1, 0, none⟩ (.slice x'.a.A x'.a.l.length x'.a.c)).setCell ⟨W.heap.size + 1, 1, none⟩ (.slice x'.b.A x'.b.l.length x'.b.c)).setCell ⟨W.heap.size + 1, 2, none⟩ (.slice x'.o.A x'.o.l.length x'.o.c)).setCell ⟨W.heap.size + 1, 3, none⟩ (.slice x'.cA x'.LC.length x'.cc)) := KR.setR (KR.setR (KR.setR (KR.setR (Keep.refl _ W8) 0 (.slice x'.a.A x'.a.l.length x'.a.c)) 1 (.slice x'.b.A x'.b.l.length x'.b.c)) 2 (.slice x'.o.A x'.o.l.length x'.o.c)) 3 (.slice x'.cA x'.LC.length x'.cc)
          have T5 := hid (KR.below HC8.out.bel hkf (by omega))
          rw [← hw9] at y0 y1 y2 y3 hkf T5
          have HYT : HidP (RIok w9 x') := hid ⟨HD8.out.a.aside hq8 nils_no nils_nos hkf, HD8.out.b.aside hq8 nils_no nils_nos hkf, HD8.out.o.aside hq8 nils_no nils_nos hkf, HD8.out.c.keep fun k hk => hkf.block k (HD8.out.c.lt k hk) (fun e => HD8.out.c.neBlk hq8 (by decide) (by rw [← e]; exact hk)), HLC.out⟩
          rw [hw9] at y0 y1 y2 y3
          clear hF hkf hq8
          go_wp2_with fail
          rw [← hw9] at *
          refine bodyPost_ret (v := .tuple #[.agg #[.slice x'.a.A x'.a.l.length x'.a.c, .slice x'.b.A x'.b.l.length x'.b.c, .slice x'.o.A x'.o.l.length x'.o.c, .slice x'.cA x'.LC.length x'.cc], .int .i64 0]) (by simp [results, Tryz.results51, go_sem, y0, y1, y2, y3]) rfl ?_
          exact ⟨.inr ⟨HBIG.out, x', rfl, HYT.out, HAB.out⟩, T5.out⟩
        · 
          have hF := blkSet (blkSet (blkSet (blkSet hq8 0 (.slice none 0 0)) 1 (.slice none 0 0)) 2 (.slice none 0 0)) 3 (.slice none 0 0)
          have y0 := (blkCell hF 0).trans (rfl : _ = some (Value.slice none 0 0))
          have y1 := (blkCell hF 1).trans (rfl : _ = some (Value.slice none 0 0))
          have y2 := (blkCell hF 2).trans (rfl : _ = some (Value.slice none 0 0))
          have y3 := (blkCell hF 3).trans (rfl : _ = some (Value.slice none 0 0))
          have hkf : KR (W.heap.size + 1) W8 ((((W8.setCell ⟨W.heap.size + 1, 0, none⟩ (.slice none 0 0)).setCell ⟨W.heap.size + 1, 1, none⟩ (.slice none 0 0)).setCell ⟨W.heap.size + 1, 2, none⟩ (.slice none 0 0)).setCell ⟨W.heap.size + 1, 3, none⟩ (.slice none 0 0)) := KR.setR (KR.setR (KR.setR (KR.setR (Keep.refl _ W8) 0 (.slice none 0 0)) 1 (.slice none 0 0)) 2 (.slice none 0 0)) 3 (.slice none 0 0)
          have T5 := hid (KR.below HC8.out.bel hkf (by omega))
          clear hF hkf hq8 c0 c1 c2 c3
          go_wp2_with fail
          refine bodyPost_ret (v := .tuple #[.agg #[.slice none 0 0, .slice none 0 0, .slice none 0 0, .slice none 0 0], .int .i64 2]) (by simp [results, Tryz.results51, go_sem, y0, y1, y2, y3]) rfl ?_
          exact ⟨.inl ⟨HBIG.out, rfl⟩, T5.out⟩


end Go.Proofs.YtfbbjfbnkcklgaaGreatDoor
