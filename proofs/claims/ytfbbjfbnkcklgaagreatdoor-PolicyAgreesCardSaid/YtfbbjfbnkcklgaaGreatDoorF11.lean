/- merge.Without: what is left of a tree -/
import Derived.Test.YtfbbjfbnkcklgaaGreatDoorF7
namespace Go.Proofs.YtfbbjfbnkcklgaaGreatDoor
open Go.RowKit

theorem IsSet.same' {w w' : World} {b : Nat} {ks : List ByteArray} (h : IsSet w b ks) (hb : w'.heap[b]? = w.heap[b]?) : IsSet w' b ks := by
  obtain ⟨es, clock, h1, F, hs, hD⟩ := h
  exact ⟨es, clock, hb.trans h1, F, hs, hD⟩
/-- what Under hands back, as a row of its own -/
theorem under_row (A : Option Addr) (c : Nat) (l : List Itm) (q : ByteArray) (w : World) (h : Tr w A c l) :
    Calls Tryz.prog 37 #[.slice A l.length c, .string q] w fun e w' => (∃ (B : Option Addr) (d : Nat) (l' : List Itm), e = .returned (.slice B l'.length d) ∧ Row w' 42 3 (.slice B l'.length d) (l'.flatMap Itm.cells) ∧ (∀ k, (Value.slice B l'.length d).ownBlock = some k → w.heap.size ≤ k) ∧
      l'.map Itm.abs = underA (l.map Itm.abs) q.toList ∧ (∀ x ∈ l', Good w' x ∧ ∀ k, (Value.slice x.dA x.bs.length x.dc).ownBlock = some k → (Value.slice B l'.length d).ownBlock ≠ some k)) ∧ Below w.heap.size w w' := by
  have H := hid (parted_walk A c l q w h)
  have hun : (l.filter fun x => withinA q.toList x.p.toList).map Itm.abs = underA (l.map Itm.abs) q.toList := by unfold underA; rw [List.filter_map]; rfl
  have HU := hid hun
  clear hun h
  go_enter Tryz.func37, Tryz.ntmps37
  go_wp2_with fail
  refine H.out.mono ?_
  rintro e w1 ⟨⟨B, d, C, u, rfl, ht, _⟩, hb⟩
  have HO := hid (own_walk B d _ w1 ht)
  go_wp2_with fail
  refine HO.out.mono ?_
  rintro e w2 ⟨⟨B', d', l', rfl, hr, hf, hm, hg⟩, hb2⟩
  have hb3 := thenB hb hb2
  have hsz := hb.size
  have HM := hid hm
  have HR := hid hr
  have HG := hid hg
  clear hm hr hg
  go_wp2_with fail
  go_ret
  exact ⟨⟨B', d', l', rfl, HR.out, fun k hk => Nat.le_trans hsz (hf k hk), by rw [HM.out, HU.out], fun x hx => ⟨(HG.out x hx).1, fun k hk => ((HG.out x hx).2 k hk).2⟩⟩, hb3⟩

/-- is an item's path among these? -/
def goneP (ks : List ByteArray) (x : Itm) : Bool := decide (x.p.toList ∈ ks.map (·.toList))
theorem without1_walk (x : Itm) (bx M : Nat) (ks : List ByteArray) (W : World) (hc : W.cell? ⟨bx, 0, none⟩ = some (.map (some M))) (hs : IsSet W M ks) (hx : x.p.size ≤ maxLen) :
    Calls Tryz.prog 48 #[.agg #[.string x.p, .bool x.d, .slice x.dA x.bs.length x.dc], .pointer (some ⟨bx, 0, none⟩)] W fun e w' => e = .returned (.bool (goneP ks x)) ∧ Below W.heap.size W w' := by
  have hb0 := thenA (Below.refl _ W) (.cells #[.string x.p, .bool x.d, .slice x.dA x.bs.length x.dc] 42 (0, 0))
  have hc1 := cellB hb0 hc
  have hl : (Instr.lookup 78 (.map (some M)) (.string x.p) false).run Tryz.prog (W.alloc (.cells #[.string x.p, .bool x.d, .slice x.dA x.bs.length x.dc] 42 (0, 0))) = .ok (.bool (goneP ks x)) (W.alloc (.cells #[.string x.p, .bool x.d, .slice x.dA x.bs.length x.dc] 42 (0, 0))) := (hs.below hb0).look x.p hx
  clear hc hs
  go_enter Tryz.func48, Tryz.ntmps48
  go_wp2_with fail
  go_ret
  exact ⟨rfl, hb0⟩

set_option maxRecDepth 100000 in
set_option maxHeartbeats 1600000 in
theorem indexfunc_walk (A : Option Addr) (c : Nat) (l : List Itm) (bx M : Nat) (ks : List ByteArray) (W : World) (h : Tr W A c l) (hc : W.cell? ⟨bx, 0, none⟩ = some (.map (some M))) (hs : IsSet W M ks) :
    Calls Tryz.prog 79 #[.slice A l.length c, .func (.func 48) #[] #[.pointer (some ⟨bx, 0, none⟩)]] W fun e w' => (∃ r : Int, e = .returned (.int .i64 r) ∧ ((r = -1 ∧ l.filter (fun x => !goneP ks x) = l) ∨ ∃ (k : Nat) (hk : k < l.length), r = k ∧ goneP ks l[k] = true ∧ (l.take k).filter (fun x => !goneP ks x) = l.take k)) ∧ Below W.heap.size W w' := by
  have h48 := h.max
  have HT := hid h
  have HS := hid hs
  have HC := hid hc
  clear h hs hc
  go_enter Tryz.func79, Tryz.ntmps79
  go_wp2_with fail
  go_loopg [8] l.length (fun k i wr => ∃ j : Nat, j ≤ l.length ∧ k = l.length - j ∧ i = .int .i64 j ∧ Below W.heap.size W wr ∧ (l.take j).filter (fun x => !goneP ks x) = l.take j)
  case atStart => exact ⟨0, Nat.zero_le _, rfl, rfl, Below.refl _ _, rfl⟩
  case round =>
    obtain ⟨j, hj, rfl, rfl, hb, hf⟩ := hrel
    have HF := hid hf
    clear hf
    by_cases hlt : j < l.length
    · have i0 : (0 : Int) ≤ (j : Int) := by omega
      have i1 : (j : Int) < (l.length : Int) := by omega
      obtain ⟨b, off, hA, c0, c1, c2, hg⟩ := (HT.out.below hb).at hlt
      subst hA
      have hsz : l[j].p.size ≤ maxLen := by have := hg.size; simp only [maxLen]; omega
      have HW := hid (without1_walk l[j] bx M ks wr (cellB hb HC.out) (HS.out.below hb) hsz)
      have HN : HidP ((l.take (j + 1)).filter (fun x => !goneP ks x) = l.take j ++ (if goneP ks l[j] = true then [] else [l[j]])) := hid (by
        rw [List.take_add_one, List.getElem?_eq_getElem hlt, List.filter_append, HF.out]
        congr 1
        cases hq : goneP ks l[j] <;> simp [hq])
      cases hd : goneP ks l[j]
      · rw [hd] at HW HN
        have HN2 : HidP ((l.take (j + 1)).filter (fun x => !goneP ks x) = l.take (j + 1)) := hid (by rw [HN.out, List.take_add_one, List.getElem?_eq_getElem hlt]; rfl)
        clear HN
        go_wp2_with fail
        refine HW.out.mono ?_
        rintro e w1 ⟨rfl, hb1⟩
        have hb2 := thenB hb hb1
        go_wp2_with fail
        go_roundg (l.length - (j + 1))
        case measure => omega
        case rel => exact ⟨j + 1, by omega, rfl, by go_num, hb2, HN2.out⟩
      · rw [hd] at HW
        have HD := hid hd
        clear hd HN
        go_wp2_with fail
        refine HW.out.mono ?_
        rintro e w1 ⟨rfl, hb1⟩
        have hb2 := thenB hb hb1
        go_wp2_with fail
        go_ret
        exact ⟨⟨_, rfl, .inr ⟨j, hlt, rfl, HD.out, HF.out⟩⟩, hb2⟩
    · obtain rfl : j = l.length := by omega
      have HE := HF.out
      rw [List.take_length] at HE
      have HE := hid HE
      go_wp2_with fail
      go_ret
      exact ⟨⟨_, rfl, .inl ⟨rfl, HE.out⟩⟩, hb⟩

theorem zeroItem (w : World) : (zeroValue 42).run Tryz.prog w = .ok (.agg #[.string ⟨#[]⟩, .bool false, .slice none 0 0]) w := by kernel_rfl
theorem zeroCells_mem {z : Array Value} {n : Nat} {v : Value} (h : v ∈ (Builtin.zeroCells z n).toList) : v ∈ z := by
  simp only [Builtin.zeroCells, Array.toList_map, List.mem_map, Array.mem_toList_iff, Array.mem_range] at h
  obtain ⟨i, hi, rfl⟩ := h
  have hz : 0 < z.size := by
    rcases Nat.eq_zero_or_pos z.size with h | h
    · rw [h] at hi; simp at hi
    · exact h
  rw [getElem!_pos z _ (Nat.mod_lt _ hz)]
  exact Array.getElem_mem _
/-- what is behind is struck, what is ahead stays -/
theorem run_clear_items {w : World} {b off n i d : Nat} {L : List Itm} (hr : Row w 42 3 (.slice (some ⟨b, off, none⟩) n d) (L.flatMap Itm.cells)) (hi : i < n) :
    ∃ w', (∀ ty, (Builtin.clear_ #[25] ty #[.slice (some ⟨b, off + i * 3, none⟩) (n - i) (d - i)]).run Tryz.prog w = .ok (.tuple #[]) w') ∧ Row w' 42 3 (.slice (some ⟨b, off, none⟩) i d) ((L.take i).flatMap Itm.cells) ∧ KR b w w' := by
  obtain ⟨A', n', c', hv, hl, hn, hc, hh⟩ := hr
  cases hv
  rcases hh with ⟨h, _⟩ | ⟨b', off', cs, h, hb, hs, ht⟩
  · cases h
  cases h
  rw [cells_len] at hl
  obtain ⟨vs, hvs⟩ : ∃ vs, vs = (Builtin.zeroCells (Value.agg #[.string ⟨#[]⟩, .bool false, .slice none 0 0]).cells (n - i)).toList := ⟨_, rfl⟩
  have hz : vs.length = (n - i) * 3 := by rw [hvs, Array.length_toList, size_zeroCells]; rfl
  have hst := run_storeCells_at (P := Tryz.prog) b (off + i * 3) 42 vs 0 cs w hb (by rw [hz]; omega) (fun v hv => by
    rw [hvs] at hv
    have := zeroCells_mem hv
    simp [Value.cells] at this
    rcases this with rfl | rfl | rfl <;> rfl)
  simp only [Nat.add_zero] at hst
  refine ⟨w.setRow b (cs.toList.take (off + i * 3) ++ vs ++ cs.toList.drop (off + i * 3 + vs.length)).toArray, fun ty => ?_, ⟨_, i, d, rfl, ?_, by omega, hc, .inr ⟨b, off, _, rfl, setRow_heap w b cs _ _ _ hb, ?_, ?_⟩⟩, ⟨rfl, rfl, rfl, by simp, fun k hk hne => setRow_other w b k _ hne⟩⟩
  · obtain ⟨m, hm⟩ : ∃ m, n - i = m + 1 := ⟨n - i - 1, by omega⟩
    rw [hm] at hvs ⊢
    rw [hvs] at hst ⊢
    simp [Builtin.clear_, run_underlying Tryz.underlying25, hst]
  · rw [cells_len, List.length_take]
    omega
  · simp only [List.size_toArray, List.length_append, List.length_take, List.length_drop, Array.length_toList]
    omega
  · have e1 : (List.take (off + i * 3) cs.toList).length = off + i * 3 := by simp; omega
    simp only [List.append_assoc]
    rw [List.drop_append_of_le_length (by rw [e1]; omega), List.drop_take, show off + i * 3 - off = i * 3 by omega, List.take_append_of_le_length (by simp; omega), List.take_take, Nat.min_self]
    have e2 : L.flatMap Itm.cells = (L.take i).flatMap Itm.cells ++ (L.drop i).flatMap Itm.cells := by rw [← List.flatMap_append, List.take_append_drop]
    have e3 : ((L.take i).flatMap Itm.cells).length = i * 3 := by rw [cells_len, List.length_take]; omega
    have e4 : (cs.toList.drop off).take (i * 3) = (L.flatMap Itm.cells).take (i * 3) := by rw [← ht, List.take_take, Nat.min_eq_left (by omega)]
    rw [e4, e2, List.take_append_of_le_length (by omega), ← e3, List.take_length]

theorem Good.kept {w w' : World} {x : Itm} {b : Nat} (h : Good w x) (hk : KR b w w') (hne : ∀ k, (Value.slice x.dA x.bs.length x.dc).ownBlock = some k → k ≠ b) : Good w' x :=
  ⟨h.size, h.len, h.src.keep fun k hk' hl => hk.block k hl (hne k hk'), h.rng⟩
set_option maxRecDepth 100000 in
set_option maxHeartbeats 4000000 in
theorem deletefunc_walk (B : Option Addr) (d : Nat) (l : List Itm) (bx M : Nat) (ks : List ByteArray) (W : World) (hr : Row W 42 3 (.slice B l.length d) (l.flatMap Itm.cells)) (hg : ∀ x ∈ l, Good W x ∧ ∀ k, (Value.slice x.dA x.bs.length x.dc).ownBlock = some k → (Value.slice B l.length d).ownBlock ≠ some k)
    (hc : W.cell? ⟨bx, 0, none⟩ = some (.map (some M))) (hs : IsSet W M ks) (hbx : (Value.slice B l.length d).ownBlock ≠ some bx) (hM : (Value.slice B l.length d).ownBlock ≠ some M) (hlen : l.length ≤ 1000000) :
    Calls Tryz.prog 47 #[.slice B l.length d, .func (.func 48) #[] #[.pointer (some ⟨bx, 0, none⟩)]] W fun e w' => (∃ K : List Itm, K = l.filter (fun x => !goneP ks x) ∧ e = .returned (.slice B K.length d) ∧ Tr w' B d K) ∧ Keep (fun k => (Value.slice B l.length d).ownBlock ≠ some k) W w' := by
  obtain ⟨_, ht⟩ := Tr.ofRow hr (fun x hx => (hg x hx).1) hlen
  have HI := hid (indexfunc_walk B d l bx M ks W ht hc hs)
  have HT := hid ht
  have HS := hid hs
  have HC := hid hc
  have HG := hid hg
  have HR := hid hr
  have HL := hid hlen
  have hbxl : bx < W.heap.size := World.block_lt_of_cell? W _ hc
  have hMl : M < W.heap.size := hs.lt
  clear hr hg hc hs ht hlen
  go_enter Tryz.func47, Tryz.ntmps47
  go_wp2_with fail
  refine HI.out.mono ?_
  rintro e w1 ⟨⟨r, rfl, hcase⟩, hb1⟩
  clear HI
  rcases hcase with ⟨rfl, hall⟩ | ⟨k, hk, rfl, hgone, hpre⟩
  · have HA := hid hall
    clear hall
    go_wp2_with fail
    go_ret
    exact ⟨⟨l, HA.out.symm, rfl, HT.out.below hb1⟩, Keep.ofBelow hb1 fun k hk _ => hk⟩
  obtain ⟨b, off, hB, _⟩ := HR.out.at3 hk
  subst hB
  have hbx' : bx ≠ b := fun e => hbx (by rw [e]; rfl)
  have hM' : M ≠ b := fun e => hM (by rw [e]; rfl)
  have n1 : ((k : Int) == -1) = false := beq_eq_false_iff_ne.2 (by omega)
  have hlen := HL.out
  have n2 : ¬ ((k : Int) = -1) := by omega
  have HPRE : HidP ((l.take (k + 1)).filter (fun x => !goneP ks x) = l.take k) := hid (by
    rw [List.take_add_one, List.getElem?_eq_getElem hk, List.filter_append, hpre]
    simp [hgone])
  have hr1 := HR.out.below hb1
  have hk1 := KR.then (Keep.refl (fun k => k ≠ b) W) hb1
  clear hbx hM hgone hpre
  go_wp2_with fail
  go_loopg [5, 6, 7] (l.length - (k + 1)) (fun g s5 s6 _ wr => ∃ (i j : Nat) (Mx : List Itm), i < j ∧ j ≤ l.length ∧ g = l.length - j ∧ s5 = .int .i64 i ∧ s6 = .int .i64 j ∧ HidP (Mx.length = l.length) ∧ Row wr 42 3 (.slice (some ⟨b, off, none⟩) l.length d) (Mx.flatMap Itm.cells) ∧ HidP (Mx.take i = (l.take j).filter (fun x => !goneP ks x)) ∧ HidP (Mx.drop j = l.drop j) ∧ KR b W wr)
  case atStart => exact ⟨k, k + 1, l, by omega, by omega, rfl, rfl, by go_num, ⟨rfl⟩, hr1, ⟨HPRE.out.symm⟩, ⟨rfl⟩, hk1⟩
  case round =>
    obtain ⟨i, j, Mx, hij, hj, rfl, rfl, rfl, hml, hrow, htk, hdp, hkp⟩ := hrel
    clear hr1 hk1 hb1 HPRE n1 n2
    by_cases hlt : j < l.length
    · have i0 : (0 : Int) ≤ (j : Int) := by omega
      have i1 : (j : Int) < (l.length : Int) := by omega
      have k0 : (0 : Int) ≤ (i : Int) := by omega
      have k1 : (i : Int) < (l.length : Int) := by omega
      have hjm : j < Mx.length := by rw [hml.out]; exact hlt
      have him : i < Mx.length := by omega
      have hx : Mx[j] = l[j] := by
        have h1 := congrArg (fun q => q[0]?) hdp.out
        simp only [List.getElem?_drop, Nat.add_zero, List.getElem?_eq_getElem hjm, List.getElem?_eq_getElem hlt, Option.some.injEq] at h1
        exact h1
      obtain ⟨b1, o1, hB1, c0, c1, c2, _⟩ := hrow.at3 hjm
      cases hB1
      rw [hx] at c0 c1 c2
      have hgx := HG.out l[j] (List.getElem_mem hlt)
      have hsz : l[j].p.size ≤ maxLen := by have := hgx.1.size; simp only [maxLen]; omega
      have hba := thenA (Below.refl _ wr) (.cells #[.string l[j].p, .bool l[j].d, .slice l[j].dA l[j].bs.length l[j].dc] 42 (0, 0))
      have hcw : wr.cell? ⟨bx, 0, none⟩ = some (.map (some M)) := (World.cell?_of_block (a := ⟨bx, 0, none⟩) (hkp.block bx hbxl hbx')).trans HC.out
      have hsw : IsSet wr M ks := HS.out.same' (hkp.block M hMl hM')
      have HW := hid (without1_walk l[j] bx M ks _ (cellB hba hcw) (hsw.below hba) hsz)
      have HROW := hid hrow
      have HNX : HidP ((l.take (j + 1)).filter (fun x => !goneP ks x) = Mx.take i ++ (if goneP ks l[j] = true then [] else [l[j]])) := hid (by
        rw [List.take_add_one, List.getElem?_eq_getElem hlt, List.filter_append, htk.out]
        congr 1
        cases hq : goneP ks l[j] <;> simp [hq])
      have HDP : HidP (Mx.drop (j + 1) = l.drop (j + 1)) := hid (by rw [← List.drop_drop, hdp.out, List.drop_drop])
      clear hcw hsw hrow hjm hx hgx hsz
      cases hd : goneP ks l[j]
      · rw [hd] at HW HNX
        clear hd
        go_wp2_with fail
        refine HW.out.mono ?_
        rintro e w2 ⟨rfl, hb2⟩
        have y0 := cellB hb2 ((blkCell (heap_alloc_new wr (.cells #[.string l[j].p, .bool l[j].d, .slice l[j].dA l[j].bs.length l[j].dc] 42 (0, 0))) 0).trans rfl)
        have y1 := cellB hb2 ((blkCell (heap_alloc_new wr (.cells #[.string l[j].p, .bool l[j].d, .slice l[j].dA l[j].bs.length l[j].dc] 42 (0, 0))) 1).trans rfl)
        have y2 := cellB hb2 ((blkCell (heap_alloc_new wr (.cells #[.string l[j].p, .bool l[j].d, .slice l[j].dA l[j].bs.length l[j].dc] 42 (0, 0))) 2).trans rfl)
        have hb3 := thenB hba hb2
        have hrow2 := HROW.out.below hb3
        obtain ⟨b1, o1, hB1, z0, z1, z2, hfz⟩ := hrow2.at3 him
        cases hB1
        have f0 := hfz (off + i * 3)
        have f1 := hfz (off + i * 3 + 1)
        have f2 := hfz (off + i * 3 + 2)
        have hr3 := ((hrow2.set (i * 3) (.string l[j].p)).set (i * 3 + 1) (.bool l[j].d)).set (i * 3 + 2) (.slice l[j].dA l[j].bs.length l[j].dc)
        rw [cells_set3 him l[j], show off + (i * 3 + 1) = off + i * 3 + 1 by omega, show off + (i * 3 + 2) = off + i * 3 + 2 by omega] at hr3
        have HR3 := hid hr3
        have hk3 := KR.setR (KR.setR (KR.setR (KR.then hkp hb3) (off + i * 3) (.string l[j].p)) (off + i * 3 + 1) (.bool l[j].d)) (off + i * 3 + 2) (.slice l[j].dA l[j].bs.length l[j].dc)
        have HK3 := hid hk3
        have HIM := hid him
        clear hr3 hk3 hrow2 hfz c0 c1 c2 HROW
        go_wp2_with fail
        go_roundg (l.length - (j + 1))
        case measure => omega
        case rel => exact ⟨i + 1, j + 1, Mx.set i l[j], by omega, by omega, rfl, by go_num, by go_num, ⟨by rw [List.length_set]; exact hml.out⟩, HR3.out, ⟨by
          rw [HNX.out, List.take_add_one, List.getElem?_set_self HIM.out, List.take_set_of_le (Nat.le_refl _)]
          rfl⟩, ⟨by rw [List.drop_set_of_lt (by omega)]; exact HDP.out⟩, HK3.out⟩
      · rw [hd] at HW HNX
        clear hd
        go_wp2_with fail
        refine HW.out.mono ?_
        rintro e w2 ⟨rfl, hb2⟩
        have hb3 := thenB hba hb2
        have HR3 := hid (HROW.out.below hb3)
        have HK3 := hid (KR.then hkp hb3)
        clear HROW
        go_wp2_with fail
        go_roundg (l.length - (j + 1))
        case measure => omega
        case rel => exact ⟨i, j + 1, Mx, by omega, by omega, rfl, rfl, by go_num, hml, HR3.out, ⟨by rw [HNX.out]; simp⟩, HDP, HK3.out⟩
    · obtain rfl : j = l.length := by omega
      have i0 : (0 : Int) ≤ (i : Int) := by omega
      have i1 : (i : Int) < (l.length : Int) := by omega
      have i2 : (i : Int) ≤ (l.length : Int) := by omega
      have hld : l.length ≤ d := by
        obtain ⟨_, _, _, hv, _, hn, _⟩ := id hrow
        cases hv
        exact hn
      have i3 : (i : Int) ≤ (d : Int) := by omega
      have i4 : i ≤ d := by omega
      have i5 : i ≤ l.length := by omega
      obtain ⟨w3, hcl, hr3, hk3⟩ := run_clear_items hrow hij
      have hki := hkp.trans hk3
      have htk2 := htk.out
      rw [List.take_length] at htk2
      have hKl : (Mx.take i).length = i := by rw [List.length_take]; have := hml.out; omega
      have hgd : ∀ y ∈ Mx.take i, Good w3 y := fun y hy => by
        rw [htk2] at hy
        obtain ⟨h1, h2⟩ := HG.out y (List.mem_filter.1 hy).1
        exact h1.kept hki fun k hk e => h2 k hk (by rw [e]; rfl)
      have hT := (Tr.ofRow hr3 hgd (by rw [hKl]; have := HL.out; omega)).2
      have HTT := hid hT
      have HKL := hid hKl
      have HTK := hid htk2
      have HKI := hid hki
      clear hr3 hk3 hki htk2 hKl hgd hT hrow hdp htk hml
      go_wp2_with fail
      go_ret
      exact ⟨⟨Mx.take i, HTK.out, by rw [HKL.out]; rfl, HTT.out⟩, HKI.out.mono fun k _ hk e => hk (by rw [e]; rfl)⟩

end Go.Proofs.YtfbbjfbnkcklgaaGreatDoor

/- merge.Without -/
namespace Go.Proofs.YtfbbjfbnkcklgaaGreatDoor
open Go.RowKit

theorem under_whole (T : List AIt) : underA T [] = T := by
  unfold underA
  exact List.filter_eq_self.2 fun x _ => within_nil _
theorem under_names {l l' : List Itm} {q : ByteArray} (h : l'.map Itm.abs = underA (l.map Itm.abs) q.toList) (s : Txt) : s ∈ l'.map (fun x : Itm => x.p.toList) ↔ ∃ y ∈ l, y.p.toList = s ∧ withinA q.toList s = true := by
  have h1 : l'.map (fun x : Itm => x.p.toList) = (l'.map Itm.abs).map (·.p) := by rw [List.map_map]; rfl
  rw [h1, h]
  constructor
  · intro hs
    obtain ⟨z, hz, rfl⟩ := List.mem_map.1 hs
    obtain ⟨h2, h3⟩ := mem_under.1 hz
    obtain ⟨y, hy, rfl⟩ := List.mem_map.1 h2
    exact ⟨y, hy, rfl, h3⟩
  · rintro ⟨y, hy, rfl, h3⟩
    exact List.mem_map.2 ⟨y.abs, mem_under.2 ⟨List.mem_map_of_mem hy, h3⟩, rfl⟩
/-- what Without keeps -/
def restA (T : List AIt) (cs : List Txt) : List AIt := T.filter fun x => !cs.any fun q => withinA q x.p

set_option maxRecDepth 100000 in
set_option maxHeartbeats 4000000 in
theorem without_big (A : Option Addr) (c : Nat) (l : List Itm) (C : Option Addr) (u : Nat) (ps : List ByteArray) (w : World) (h : Tr w A c l) (hl : l.length ≤ 100000) (hp : Row w 9 1 (.slice C ps.length u) (ps.map .string)) (np : ps.length ≤ 1000000) :
    Calls Tryz.prog 23 #[.slice A l.length c, .slice C ps.length u] w fun e w' => (∃ (B : Option Addr) (d : Nat) (l' : List Itm), e = .returned (.slice B l'.length d) ∧ Tr w' B d l' ∧ l'.map Itm.abs = restA (l.map Itm.abs) (ps.map fun z : ByteArray => z.toList)) ∧ Below w.heap.size w w' := by
  have hmm := @run_makeMap Tryz.prog
  have hset0 := (IsSet.made w).below (thenA (Below.refl _ (w.alloc (.map #[] 0))) (.cells #[.map (some w.heap.size)] 78 (0, 0)))
  have hb0 := thenA (thenA (Below.refl _ w) (.map #[] 0)) (.cells #[.map (some w.heap.size)] 78 (0, 0))
  have q0 : ((w.alloc (.map #[] 0)).alloc (.cells #[.map (some w.heap.size)] 78 (0, 0))).cell? ⟨w.heap.size + 1, 0, none⟩ = some (.map (some w.heap.size)) := by
    have h1 := heap_alloc_new (w.alloc (.map #[] 0)) (.cells #[.map (some w.heap.size)] 78 (0, 0))
    rw [World.size_alloc] at h1
    exact (blkCell h1 0).trans rfl
  have HT := hid h
  have HP := hid hp
  have HL := hid hl
  clear h hp hl
  go_enter Tryz.func23, Tryz.ntmps23
  go_wp2_with fail
  clear hmm
  go_loopg [13] ps.length (fun k i wr => ∃ (j : Nat) (ks : List ByteArray), j ≤ ps.length ∧ k = ps.length - j ∧ i = .int .i64 j ∧ wr.cell? ⟨w.heap.size + 1, 0, none⟩ = some (.map (some w.heap.size)) ∧ IsSet wr w.heap.size ks ∧ Below w.heap.size w wr ∧ HidP (∀ s, s ∈ ks.map (fun z : ByteArray => z.toList) ↔ ∃ y ∈ l, y.p.toList = s ∧ (ps.take j).any (fun q => withinA q.toList s) = true) ∧ ks.length ≤ j * 100000)
  case atStart => exact ⟨0, [], Nat.zero_le _, rfl, rfl, q0, hset0, hb0, ⟨by simp⟩, by simp⟩
  case round =>
    obtain ⟨j, ks, hj, rfl, rfl, hq, hset, hb, hks, hkl⟩ := hrel
    clear q0 hset0 hb0
    generalize wr = wo at *
    by_cases hlt : j < ps.length
    · have i0 : (0 : Int) ≤ (j : Int) := by omega
      have i1 : (j : Int) < (ps.length : Int) := by omega
      obtain ⟨b1, o1, hC, k1⟩ := (HP.out.below hb).str hlt
      subst hC
      have HU := hid (under_row A c l ps[j] wo (HT.out.below hb))
      go_wp2_with fail
      refine HU.out.mono ?_
      rintro e w2 ⟨⟨B, d, l', rfl, hr, hfr, hm, hg⟩, hb2⟩
      have hMl : w.heap.size < wo.heap.size := hset.lt
      have hql : w.heap.size + 1 < wo.heap.size := World.block_lt_of_cell? wo _ hq
      have hne : (Value.slice B l'.length d).ownBlock ≠ some w.heap.size := fun e => by have := hfr _ e; omega
      have hll : l'.length ≤ 100000 := by
        have h1 := congrArg List.length hm
        rw [List.length_map] at h1
        have h2 : (underA (l.map Itm.abs) ps[j].toList).length ≤ (l.map Itm.abs).length := List.length_filter_le _ _
        rw [List.length_map] at h2
        have := HL.out
        omega
      have HR := hid hr
      have HNM := hid (under_names hm)
      have HSZ : HidP (∀ x ∈ l', x.p.size ≤ 140737488351232) := hid fun x hx => (hg x hx).1.size
      have HFR := hid hne
      have hq2 := cellB hb2 hq
      have hset2 := hset.below hb2
      have hb3 := thenB hb hb2
      clear hr hfr hm hg hne k1 HU
      go_wp2_with fail
      go_loopg [21] l'.length (fun k i wr2 => ∃ i2 : Nat, i2 ≤ l'.length ∧ k = l'.length - i2 ∧ i = .int .i64 i2 ∧ wr2.cell? ⟨w.heap.size + 1, 0, none⟩ = some (.map (some w.heap.size)) ∧ IsSet wr2 w.heap.size (ks ++ (l'.take i2).map (·.p)) ∧ Below w.heap.size w wr2 ∧ KR w.heap.size w2 wr2)
      case atStart => exact ⟨0, Nat.zero_le _, rfl, rfl, hq2, by simpa using hset2, hb3, Keep.refl _ _⟩
      case round =>
        obtain ⟨i2, hi2, rfl, rfl, hqr, hsr, hbr, hkr⟩ := hrel
        clear hq2 hset2 hb3
        by_cases hlt2 : i2 < l'.length
        · have i3 : (0 : Int) ≤ (i2 : Int) := by omega
          have i4 : (i2 : Int) < (l'.length : Int) := by omega
          have hrow := HR.out.keep fun k hk => hkr.block k (HR.out.lt k hk) (fun e => HFR.out (by rw [hk, e]))
          obtain ⟨b2, o2, hB, c0, c1, c2, _⟩ := hrow.at3 hlt2
          subst hB
          have hsz := HSZ.out _ (List.getElem_mem hlt2)
          have hpm : l'[i2].p.size ≤ maxLen := by simp only [maxLen]; omega
          have hkm : (ks ++ (l'.take i2).map (·.p)).length < maxLen := by simp only [List.length_append, List.length_map, List.length_take, maxLen]; omega
          have hba := thenA (Below.refl _ wr) (.cells #[.string l'[i2].p, .bool l'[i2].d, .slice l'[i2].dA l'[i2].bs.length l'[i2].dc] 42 (0, 0))
          have hqa := cellB hba hqr
          obtain ⟨w6, hup, hset6, hg6⟩ := (hsr.below hba).put l'[i2].p hpm hkm
          have hql6 : w.heap.size + 1 < (wr.alloc (.cells #[.string l'[i2].p, .bool l'[i2].d, .slice l'[i2].dA l'[i2].bs.length l'[i2].dc] 42 (0, 0))).heap.size := World.block_lt_of_cell? _ _ hqa
          have hq6 : w6.cell? ⟨w.heap.size + 1, 0, none⟩ = some (.map (some w.heap.size)) := by
            rw [hg6.cell_far ⟨w.heap.size + 1, 0, none⟩ hql6 (by intro e; have e2 := Option.some.inj e; simp at e2)]
            exact hqa
          have hb6 : Below w.heap.size w w6 := Below.grownNew (thenB hbr hba) hg6 (by simp; have := hbr.size; omega) (by intro k hk; cases hk; exact Nat.le_refl _)
          have hk6 : KR w.heap.size w2 w6 := Keep.grown (KR.then hkr hba) hg6 (fun k hk => .inl (fun h => h (by cases hk; rfl)))
          have HS6 : HidP (IsSet w6 w.heap.size (ks ++ (l'.take (i2 + 1)).map (·.p))) := hid (by
            rw [List.take_add_one, List.getElem?_eq_getElem hlt2, List.map_append, ← List.append_assoc]
            exact hset6)
          clear hset6 hrow hsz hpm hkm
          go_wp2_with fail
          go_roundg (l'.length - (i2 + 1))
          case measure => omega
          case rel => exact ⟨i2 + 1, by omega, rfl, by go_num, hq6, HS6.out, hb6, hk6⟩
        · obtain rfl : i2 = l'.length := by omega
          have hsr2 : IsSet wr w.heap.size (ks ++ l'.map (·.p)) := by rw [List.take_length] at hsr; exact hsr
          have HNX : HidP (∀ s, s ∈ (ks ++ l'.map (·.p)).map (fun z : ByteArray => z.toList) ↔ ∃ y ∈ l, y.p.toList = s ∧ (ps.take (j + 1)).any (fun q => withinA q.toList s) = true) := hid (fun s => by
            have h1 : (l'.map (·.p)).map (fun z : ByteArray => z.toList) = l'.map (fun x : Itm => x.p.toList) := by rw [List.map_map]; rfl
            rw [List.map_append, List.mem_append, hks.out, h1, HNM.out, List.take_add_one, List.getElem?_eq_getElem hlt]
            simp only [Option.toList_some, List.any_append, List.any_cons, List.any_nil, Bool.or_false, Bool.or_eq_true]
            constructor
            · rintro (⟨y, hy, e, hh⟩ | ⟨y, hy, e, hh⟩)
              · exact ⟨y, hy, e, .inl hh⟩
              · exact ⟨y, hy, e, .inr hh⟩
            · rintro ⟨y, hy, e, hh | hh⟩
              · exact .inl ⟨y, hy, e, hh⟩
              · exact .inr ⟨y, hy, e, hh⟩)
          have hkl2 : (ks ++ l'.map (·.p)).length ≤ (j + 1) * 100000 := by rw [List.length_append, List.length_map]; omega
          have HS2 := hid hsr2
          clear hsr hsr2
          go_wp2_with fail
          go_roundg (ps.length - (j + 1))
          case measure => omega
          case rel => exact ⟨j + 1, ks ++ l'.map (·.p), by omega, rfl, by go_num, hqr, HS2.out, hbr, HNX, hkl2⟩
    · obtain rfl : j = ps.length := by omega
      have HU := hid (under_row A c l ⟨#[]⟩ wo (HT.out.below hb))
      have hMl : w.heap.size < wo.heap.size := hset.lt
      have hql : w.heap.size + 1 < wo.heap.size := World.block_lt_of_cell? wo _ hq
      go_wp2_with fail
      refine HU.out.mono ?_
      rintro e w2 ⟨⟨B, d, l2, rfl, hr, hfr, hm, hg⟩, hb2⟩
      have hm' : l2.map Itm.abs = l.map Itm.abs := by rw [emptyB] at hm; exact hm.trans (under_whole _)
      have hll : l2.length ≤ 100000 := by
        have h1 := congrArg List.length hm'
        rw [List.length_map, List.length_map] at h1
        have := HL.out
        omega
      have HD := hid (deletefunc_walk B d l2 (w.heap.size + 1) w.heap.size ks w2 hr hg (cellB hb2 hq) (hset.below hb2) (fun e => by have := hfr _ e; omega) (fun e => by have := hfr _ e; omega) (by omega))
      have hb3 := thenB hb hb2
      have HRES : HidP ((l2.filter fun x => !goneP ks x).map Itm.abs = restA (l.map Itm.abs) (ps.map fun z : ByteArray => z.toList)) := hid (by
        have hk2 := hks.out
        rw [List.take_length] at hk2
        rw [← hm']
        unfold restA
        rw [List.filter_map]
        congr 1
        refine List.filter_congr fun x hx => ?_
        simp only [Function.comp, List.any_map]
        congr 1
        unfold goneP
        rw [Bool.eq_iff_iff, decide_eq_true_eq, hk2]
        constructor
        · rintro ⟨y, _, _, h⟩; exact h
        · intro h
          have hx2 : x.abs ∈ l.map Itm.abs := by rw [← hm']; exact List.mem_map_of_mem hx
          obtain ⟨y, hy, he⟩ := List.mem_map.1 hx2
          exact ⟨y, hy, congrArg AIt.p he, h⟩)
      have HSZ := hid (hfr)
      have hsz := hb.size
      clear hr hfr hm hm' hg hks HU
      go_wp2_with fail
      refine HD.out.mono ?_
      rintro e w3 ⟨⟨K, rfl, rfl, ht⟩, hk⟩
      have HTT := hid ht
      have hfin : Below w.heap.size w w3 := ⟨hk.os.trans hb3.os, hk.tape.trans hb3.tape, hk.output.trans hb3.output, Nat.le_trans hb3.size hk.size, fun k hk' => (hk.block k (by have := hb3.size; omega) (fun e => by have := HSZ.out k e; omega)).trans (hb3.block k hk')⟩
      clear ht hk HD
      go_wp2_with fail
      go_ret
      exact ⟨⟨B, d, _, rfl, HTT.out, HRES.out⟩, hfin⟩

theorem without_walk (A : Option Addr) (c : Nat) (l : List Itm) (C : Option Addr) (u : Nat) (ps : List ByteArray) (w : World) (h : Tr w A c l) (hl : l.length ≤ 1000) (hp : Row w 9 1 (.slice C ps.length u) (ps.map .string)) (np : ps.length ≤ 1000000) :
    Calls Tryz.prog 23 #[.slice A l.length c, .slice C ps.length u] w fun e w' => (∃ (B : Option Addr) (d : Nat) (l' : List Itm), e = .returned (.slice B l'.length d) ∧ Tr w' B d l' ∧ l'.map Itm.abs = restA (l.map Itm.abs) (ps.map fun z : ByteArray => z.toList)) ∧ Below w.heap.size w w' :=
  without_big A c l C u ps w h (by omega) hp np

end Go.Proofs.YtfbbjfbnkcklgaaGreatDoor
