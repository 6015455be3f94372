/- light; the paths that go -/
import Derived.Test.YtheccdidfkcbbaaDoorG3
import Derived.Test.YtheccdidfkcbbaaDoorG1
namespace Go.Proofs.YtheccdidfkcbbaaDoor
open Go.RowKit

theorem TrW.below {w w' : World} {A : Option Addr} {c : Nat} {l : List Itm} (h : TrW w A c l) (hb : Below w.heap.size w w') : TrW w' A c l :=
  ⟨h.cap, h.nil, fun i x hx => by
    obtain ⟨b, off, h0, h1, h2, h3⟩ := h.cell i x hx
    exact ⟨b, off, h0, cellB hb h1, cellB hb h2, cellB hb h3⟩⟩
theorem TrQ.below {w w' : World} {A : Option Addr} {c : Nat} {l : List Itm} (h : TrQ w A c l) (hb : Below w.heap.size w w') : TrQ w' A c l :=
  ⟨h.toTrW.below hb, fun x hx => ⟨(h.at_ x hx).src.below hb, (h.at_ x hx).rng⟩⟩

/-- a tree that a cell holds -/
structure TrI where
  A : Option Addr
  c : Nat
  l : List Itm
instance : Inhabited TrI := ⟨⟨none, 0, []⟩⟩
def TrI.cells (t : TrI) : List Value := [.slice t.A t.l.length t.c]
theorem tri_len (t : TrI) : t.cells.length = 1 := rfl
theorem Recs.ofBlock {α : Type} {f : α → List Value} {m : Nat} (hf : ∀ x, (f x).length = m) {w : World} {b : Nat} {t : TypeId} {cs : Array Value} {l : List α} (h : w.heap[b]? = some (.cells cs t (0, 0))) (hc : cs.toList = l.flatMap f) : Recs f m w (some ⟨b, 0, Option.none⟩) l.length l := by
  refine ⟨Nat.le_refl _, (fun h => by cases h), fun i x hx => ⟨b, 0, rfl, fun k u hu => ?_⟩⟩
  rw [Nat.zero_add, blkCell h, ← Array.getElem?_toList, hc, flat_get hf l i x k hx (by rw [← hf x]; exact (List.getElem?_eq_some_iff.1 hu).1)]
  exact hu

set_option maxRecDepth 100000 in
set_option maxHeartbeats 1600000 in
theorem light22_walk (B : Option Addr) (d : Nat) (ls : List TrI) (w : World) (h : Recs TrI.cells 1 w B d ls) (hn : ls.length ≤ 10) (hq : ∀ t ∈ ls, TrW w t.A t.c t.l) :
    Calls Tryd.prog 6 #[.slice B ls.length d] w fun e w' => e = .returned (.bool (ls.all fun t => lightB t.l 62)) ∧ w = w' := by
  go_enter Tryd.func6, Tryd.ntmps6
  go_wp2_with fail
  go_loopg [3] ls.length (fun k i wr => ∃ j : Nat, j ≤ ls.length ∧ k = ls.length - j ∧ i = .int .i64 j ∧ wr = w ∧ (ls.take j).all (fun t => lightB t.l 62) = true)
  case atStart => exact ⟨0, Nat.zero_le _, rfl, rfl, rfl, rfl⟩
  case round =>
    obtain ⟨j, hj, rfl, rfl, rfl, ht⟩ := hrel
    have HT := hid ht
    clear ht
    by_cases hlt : j < ls.length
    · have i0 : (0 : Int) ≤ (j : Int) := by omega
      have i1 : (j : Int) < (ls.length : Int) := by omega
      obtain ⟨b, off, hA, hc⟩ := h.cell j ls[j] (List.getElem?_eq_getElem hlt)
      have c0 := hc 0 _ rfl
      rw [Nat.mul_one, Nat.add_zero] at c0
      subst hA
      have HL : HidP (Calls Tryd.prog 23 #[.slice ls[j].A ls[j].l.length ls[j].c, .int .i64 62] wr fun e w' => e = .returned (.bool (lightB ls[j].l 62)) ∧ wr = w') := hid (light_walk ls[j].A ls[j].c ls[j].l 62 wr (hq _ (List.getElem_mem hlt)) (by omega))
      clear h hc hq
      cases hv : lightB ls[j].l 62
      · rw [hv] at HL
        have HN : HidP ((ls.all fun t => lightB t.l 62) = false) := hid (List.all_eq_false.2 ⟨ls[j], List.getElem_mem hlt, by simp [hv]⟩)
        clear hv
        go_wp2_with fail
        refine HL.out.mono ?_
        rintro e w1 ⟨rfl, rfl⟩
        go_wp2_with fail
        go_ret
        exact ⟨by rw [HN.out]; rfl, rfl⟩
      · rw [hv] at HL
        have HN : HidP ((ls.take (j + 1)).all (fun t => lightB t.l 62) = true) := hid (by rw [List.take_add_one, List.all_append, HT.out, List.getElem?_eq_getElem hlt]; simpa using hv)
        clear hv
        go_wp2_with fail
        refine HL.out.mono ?_
        rintro e w1 ⟨rfl, rfl⟩
        go_wp2_with fail
        go_roundg (ls.length - (j + 1))
        case measure => omega
        case rel => exact ⟨j + 1, by omega, rfl, by go_num, rfl, HN.out⟩
    · obtain rfl : j = ls.length := by omega
      have ht := HT.out
      rw [List.take_length] at ht
      have HN := hid ht
      clear ht
      go_wp2_with fail
      go_ret
      exact ⟨by rw [HN.out]; rfl, rfl⟩

/-- are steps few, and short? -/
def stB (s : StI) : Bool := decide (s.p.size ≤ 250) && decide (s.bs.length ≤ 2100)
def stsB (l : List StI) (n : Nat) : Bool := decide (l.length ≤ n) && l.all stB

set_option maxRecDepth 100000 in
set_option maxHeartbeats 1600000 in
theorem light24_walk (A : Option Addr) (c : Nat) (l : List StI) (n : Nat) (w : World) (h : Recs StI.cells 3 w A c l) (hn : n ≤ 1000) : Calls Tryd.prog 16 #[.slice A l.length c, .int .i64 n] w fun e w' => e = .returned (.bool (stsB l n)) ∧ w = w' := by
  by_cases hl : l.length ≤ n
  case neg =>
    have g1 : decide ((l.length : Int) > (n : Int)) = true := decide_eq_true (by omega)
    have hf : stsB l n = false := by unfold stsB; rw [decide_eq_false hl]; rfl
    rw [hf]
    clear hf
    go_enter Tryd.func16, Tryd.ntmps16
    go_wp2_with fail
    go_ret
    exact ⟨rfl, rfl⟩
  have g1 : decide ((l.length : Int) > (n : Int)) = false := decide_eq_false (by omega)
  have HL := hid hl
  go_enter Tryd.func16, Tryd.ntmps16
  go_wp2_with fail
  go_loopg [5] l.length (fun k i wr => ∃ j : Nat, j ≤ l.length ∧ k = l.length - j ∧ i = .int .i64 j ∧ wr = w ∧ (l.take j).all stB = true)
  case atStart => exact ⟨0, Nat.zero_le _, rfl, rfl, rfl, by simp⟩
  case round =>
    obtain ⟨j, hj, rfl, rfl, rfl, ht⟩ := hrel
    have HT := hid ht
    clear ht
    by_cases hlt : j < l.length
    · have i0 : (0 : Int) ≤ (j : Int) := by omega
      have i1 : (j : Int) < (l.length : Int) := by omega
      have hno : stB l[j] = false → stsB l n = false := fun hq => by
        unfold stsB
        rw [Bool.and_eq_false_iff]
        exact .inr (List.all_eq_false.2 ⟨l[j], List.getElem_mem hlt, by simp [hq]⟩)
      have hyes : stB l[j] = true → (l.take (j + 1)).all stB = true := fun hq => by
        rw [List.take_add_one, List.all_append, HT.out, List.getElem?_eq_getElem hlt]
        simpa using hq
      obtain ⟨b, off, hA, hc⟩ := h.cell j l[j] (List.getElem?_eq_getElem hlt)
      have c0 : wr.cell? ⟨b, off + j * 3, none⟩ = some (.int .i64 l[j].k) := hc 0 _ rfl
      have c1 := hc 1 _ rfl
      have c2 := hc 2 _ rfl
      subst hA
      clear h hc
      unfold stB at hno hyes
      obtain ⟨N, hN⟩ : ∃ N, l[j].bs.length = N := ⟨_, rfl⟩
      rw [hN] at c2 hno hyes
      have HNO := hid hno
      have HYES := hid hyes
      clear hN hno hyes
      by_cases h1 : l[j].p.size > 250
      · have g2 : decide ((l[j].p.size : Int) > 250) = true := decide_eq_true (by omega)
        go_wp2_with fail
        go_ret
        exact ⟨by rw [HNO.out (by rw [decide_eq_false (by omega)]; rfl)]; rfl, rfl⟩
      have g2 : decide ((l[j].p.size : Int) > 250) = false := decide_eq_false (by omega)
      by_cases h2 : N > 2100
      · have g3 : decide ((N : Int) > 2100) = true := decide_eq_true (by omega)
        go_wp2_with fail
        go_ret
        exact ⟨by rw [HNO.out (by rw [decide_eq_false (by omega : ¬ N ≤ 2100), Bool.and_false])]; rfl, rfl⟩
      have g3 : decide ((N : Int) > 2100) = false := decide_eq_false (by omega)
      go_wp2_with fail
      go_roundg (l.length - (j + 1))
      case measure => omega
      case rel => exact ⟨j + 1, by omega, rfl, by go_num, rfl, HYES.out (by rw [decide_eq_true (by omega), decide_eq_true (by omega)]; rfl)⟩
    · obtain rfl : j = l.length := by omega
      have ht := HT.out
      rw [List.take_length] at ht
      have hy : stsB l n = true := by unfold stsB; rw [decide_eq_true HL.out, ht]; rfl
      have HY := hid hy
      clear hy ht
      go_wp2_with fail
      go_ret
      exact ⟨by rw [HY.out]; rfl, rfl⟩

theorem split_len (l : List UInt8) : (splitL l).1.length ≤ l.length := by
  unfold splitL
  split
  · exact List.length_take_le' _ _
  · exact Nat.zero_le _
theorem Row.neSet {w : World} {e : TypeId} {sz : Nat} {v : Value} {xs : List Value} (h : Row w e sz v xs) {b : Nat} {ks : List ByteArray} (hs : IsSet w b ks) : v.ownBlock ≠ some b := by
  obtain ⟨es, clock, hb, _⟩ := hs
  obtain ⟨A, n, c, rfl, _, _, _, h⟩ := h
  rcases h with ⟨rfl, _⟩ | ⟨b', off, cs, rfl, hb', _⟩
  · simp [Value.ownBlock]
  · intro e
    simp only [Value.ownBlock, Option.some.injEq] at e
    subst e
    rw [hb] at hb'
    cases hb'

theorem goneS_in {T : List AIt} {s : List (List UInt8) × List (List UInt8)} {x : AIt} (h : (splitL x.p).1 ∈ s.1) : goneF T s x = (s.1 ++ [x.p], s.2) := by unfold goneF; rw [if_pos h]
theorem goneS_top {T : List AIt} {s : List (List UInt8) × List (List UInt8)} {x : AIt} (h : ¬ (splitL x.p).1 ∈ s.1) (hg : goesB T x = true) : goneF T s x = (s.1 ++ [x.p], s.2 ++ [x.p]) := by unfold goneF; rw [if_neg h, if_pos hg]
theorem goneS_no {T : List AIt} {s : List (List UInt8) × List (List UInt8)} {x : AIt} (h : ¬ (splitL x.p).1 ∈ s.1) (hg : goesB T x = false) : goneF T s x = s := by unfold goneF; rw [if_neg h, if_neg (by simp [hg])]

set_option maxRecDepth 100000 in
set_option maxHeartbeats 8000000 in
theorem gone_walk (A : Option Addr) (c : Nat) (l : List Itm) (B : Option Addr) (d : Nat) (m : List Itm) (w : World) (h : Tr w A c l) (k : Tr w B d m) (hs : sortedI m) :
    Calls Tryd.prog 25 #[.slice A l.length c, .slice B m.length d] w fun e w' => (∃ (M : Nat) (ks : List ByteArray) (C : Option Addr) (u : Nat) (ps : List ByteArray), e = .returned (.tuple #[.map (some M), .slice C ps.length u]) ∧ IsSet w' M ks ∧
      Row w' 9 1 (.slice C ps.length u) (ps.map .string) ∧ (ks.map (·.toList), ps.map (·.toList)) = goneA (l.map Itm.abs) (m.map Itm.abs) ∧ w.heap.size ≤ M ∧ (∀ p ∈ ps, ∃ x ∈ l, x.p = p) ∧ ps.length ≤ l.length) ∧ Below w.heap.size w w' := by
  obtain ⟨ti, hi0, hz0, hz1, hz2⟩ := info_parts info9
  have h48 := h.max
  have hmm := @run_makeMap Tryd.prog
  have hset0 := IsSet.made w
  have hb00 := thenA (Below.refl _ w) (.map #[] 0)
  go_enter Tryd.func25, Tryd.ntmps25
  go_wp2_with fail
  clear hmm
  go_loopg [5, 15] l.length (fun k tops i wr => ∃ (j : Nat) (pA : Option Addr) (pn pc : Nat) (ks ps : List ByteArray), j ≤ l.length ∧ k = l.length - j ∧ i = .int .i64 j ∧ tops = .slice pA pn pc ∧ IsSet wr w.heap.size ks ∧ Row wr 9 1 (.slice pA pn pc) (ps.map .string) ∧ Below w.heap.size w wr ∧
    (∀ k, (Value.slice pA pn pc).ownBlock = some k → w.heap.size ≤ k) ∧ (ks.map (·.toList), ps.map (·.toList)) = ((l.take j).map Itm.abs).foldl (goneF (m.map Itm.abs)) ([], []) ∧ ks.length ≤ j ∧ ps.length ≤ j ∧ (∀ p ∈ ps, ∃ x ∈ l, x.p = p))
  case atStart => exact ⟨0, none, 0, 0, [], [], Nat.zero_le _, rfl, rfl, rfl, hset0, Row.nil _ _ _, hb00, by simp [Value.ownBlock], rfl, by simp, by simp, by simp⟩
  case round =>
    obtain ⟨j, pA, pn, pc, ks, ps, hj, rfl, rfl, rfl, hset, hrow, hb, hf, hfold, hkl, hpl, hps⟩ := hrel
    clear hset0 hb00
    by_cases hlt : j < l.length
    · have i0 : (0 : Int) ≤ (j : Int) := by omega
      have i1 : (j : Int) < (l.length : Int) := by omega
      obtain ⟨b, off, hA, c0, c1, c2, hg⟩ := (h.below hb).at hlt
      subst hA
      have hsz := hg.size
      have hnx : ((l.take (j + 1)).map Itm.abs).foldl (goneF (m.map Itm.abs)) ([], []) = goneF (m.map Itm.abs) (((l.take j).map Itm.abs).foldl (goneF (m.map Itm.abs)) ([], [])) l[j].abs := by
        rw [List.take_add_one, List.getElem?_eq_getElem hlt, List.map_append, List.foldl_append]
        rfl
      rw [← hfold] at hnx
      have HN := hid hnx
      have HF := hid hfold
      have HS := hid hps
      have hba := thenA (Below.refl _ wr) (.cells #[.string l[j].p, .bool l[j].d, .slice l[j].dA l[j].bs.length l[j].dc] 31 (0, 0))
      have HSP := hid (fun W => split_walk l[j].p W hsz)
      have HFD := hid (fun W (hW : Below wr.heap.size wr W) => find_walk B d m l[j].p W ((k.below hb).below hW))
      have HX := hid (List.getElem_mem hlt)
      have HSORT := hid hs
      have HSET := hid (fun W (hW : Below wr.heap.size wr W) => hset.below hW)
      have hc1 : (ps.map Value.string).length + 1 ≤ maxLen := by simp only [List.length_map, maxLen]; omega
      have hc2 : ((ps.map Value.string).length + 1) * 16 ≤ 140737488355328 := by simp only [List.length_map]; omega
      have hkm : ks.length < maxLen := by simp only [maxLen]; omega
      have hpm : l[j].p.size ≤ maxLen := by simp only [maxLen]; omega
      clear hnx hfold hps h k hs hg
      go_wp2_with fail
      refine (HSP.out _).mono ?_
      rintro e w1 ⟨⟨dn, nm, rfl, hsp⟩, hb1⟩
      have hds : dn.size ≤ maxLen := by
        have h1 := split_len l[j].p.toList
        rw [← hsp] at h1
        simp only at h1
        rw [str_len, str_len] at h1
        omega
      replace hsp := hid hsp
      have y0 := cellB hb1 ((blkCell (heap_alloc_new wr _) 0).trans rfl)
      have y1 := cellB hb1 ((blkCell (heap_alloc_new wr _) 1).trans rfl)
      have y2 := cellB hb1 ((blkCell (heap_alloc_new wr _) 2).trans rfl)
      have hb2 := thenB hba hb1
      go_wp2_with fail
      refine (HFD.out _ hb2).mono ?_
      rintro e w2 ⟨⟨y, is, rfl, _, hno, hfd⟩, hb3⟩
      have HFN := hid (hfd HSORT.out)
      clear hfd
      have z0 := cellB hb3 y0
      have z1 := cellB hb3 y1
      have z2 := cellB hb3 y2
      have hb4 := thenB hb2 hb3
      have hby := thenA (Below.refl _ w2) (.cells #[.string y.p, .bool y.d, .slice y.dA y.bs.length y.dc] 31 (0, 0))
      have hb5 := thenB hb4 hby
      have hw5 := thenB hb hb5
      have hset5 := HSET.out _ hb5
      have hrow5 := hrow.below hb5
      have hne5 := hrow5.neSet hset5
      have HLK := hset5.look dn hds
      obtain ⟨w6, hup, hset6, hg6⟩ := hset5.put l[j].p hpm hkm
      have hrow6 := hrow5.keep fun k hk => hg6.block k (hrow5.lt k hk) (fun e => hne5 (by rw [hk, e]))
      have hw6 : Below w.heap.size w w6 := Below.grownNew hw5 hg6 hw5.size (by intro k hk; cases hk; exact Nat.le_refl _)
      have hbs : w.heap.size < w6.heap.size := hset6.lt
      have hne6 := hrow6.neSet hset6
      have v0 : w6.cell? ⟨wr.heap.size, 0, none⟩ = some (.string l[j].p) := by
        have hlt := World.block_lt_of_cell? w2 _ z0
        rw [hg6.cell_far ⟨wr.heap.size, 0, none⟩ (by simp at hlt ⊢; omega) (by have := hset.lt; intro e; have e2 := Option.some.inj e; simp at e2; omega)]
        exact cellB hby z0
      have t0 := cellB hby z0
      have t1 := cellB hby z1
      have t2 := cellB hby z2
      clear HSP HFD HSET c0 c1 c2 hno
      cases hin : decide (dn.toList ∈ ks.map (·.toList))
      · rw [hin] at HLK
        have hnot : ¬ (splitL l[j].abs.p).1 ∈ (ks.map (·.toList), ps.map (·.toList)).1 := by
          show ¬ (splitL l[j].p.toList).1 ∈ ks.map (·.toList)
          rw [← hsp.out]
          exact of_decide_eq_false hin
        have HNOT := hid hnot
        clear hnot hin
        cases is
        · have hgo : goesB (m.map Itm.abs) l[j].abs = true := by
            unfold goesB
            show (match findA (m.map Itm.abs) l[j].p.toList with | none => true | some y => l[j].abs.d != y.d) = true
            cases hfa : findA (m.map Itm.abs) l[j].p.toList
            · rfl
            · have := HFN.out.1
              rw [hfa] at this
              cases this
          have HGO := hid hgo
          clear hgo
          go_wp2_with (at_builtin; refine wpList_append_row _ rfl _ _ 47 rfl 9 ti (.string ByteArray.empty) 1 16 Tryd.underlying47 hi0 hz0 hz1 hz2 rfl (by decide) (.slice pA pn pc) (ps.map .string) rfl (by exact hrow6.keep fun k hk => Below.heap_alloc w6 _ _ (hrow6.lt k hk)) (.slice (some ⟨w6.heap.size, 0, none⟩) 1 1) [.string l[j].p] rfl (Src.one (heap_alloc_new _ _)) (by simp [Value.oneCell']) hc1 hc2 ?_; intro bA bn bc w7 hr7 hg7 ha7)
          have hb7 : Below w.heap.size w w7 := Below.grownNew (hw6.alloc hw6.size (.cells #[.string l[j].p] 9 (0, 0))) hg7 (by have := hw6.size; simp; omega) hf
          have hf7 := fresh_of ha7 hf (by have := hw6.size; simp; omega)
          have hset7 : IsSet w7 w.heap.size (ks ++ [l[j].p]) := (hset6.below (thenA (Below.refl _ w6) (.cells #[.string l[j].p] 9 (0, 0)))).kept hg7 (fun e => hne6 e.symm)
          go_roundg (l.length - (j + 1))
          case measure => omega
          case rel => exact ⟨j + 1, bA, bn, bc, ks ++ [l[j].p], ps ++ [l[j].p], by omega, rfl, by go_num, rfl, hset7, by rw [List.map_append]; exact hr7, hb7, hf7, by rw [HN.out, goneS_top HNOT.out HGO.out, List.map_append, List.map_append]; rfl, by simp; omega, by simp; omega, fun p hp => by
            rcases List.mem_append.1 hp with hp | hp
            · exact HS.out p hp
            · rw [List.mem_singleton.1 hp]; exact ⟨_, HX.out, rfl⟩⟩
        · cases hdd : (l[j].d == y.d)
          · have hgo : goesB (m.map Itm.abs) l[j].abs = true := by
              unfold goesB
              show (match findA (m.map Itm.abs) l[j].p.toList with | none => true | some y => l[j].abs.d != y.d) = true
              rw [HFN.out.2 rfl]
              show (l[j].d != y.d) = true
              rw [bne, hdd]; rfl
            have HGO := hid hgo
            clear hgo
            go_wp2_with (at_builtin; refine wpList_append_row _ rfl _ _ 47 rfl 9 ti (.string ByteArray.empty) 1 16 Tryd.underlying47 hi0 hz0 hz1 hz2 rfl (by decide) (.slice pA pn pc) (ps.map .string) rfl (by exact hrow6.keep fun k hk => Below.heap_alloc w6 _ _ (hrow6.lt k hk)) (.slice (some ⟨w6.heap.size, 0, none⟩) 1 1) [.string l[j].p] rfl (Src.one (heap_alloc_new _ _)) (by simp [Value.oneCell']) hc1 hc2 ?_; intro bA bn bc w7 hr7 hg7 ha7)
            have hb7 : Below w.heap.size w w7 := Below.grownNew (hw6.alloc hw6.size (.cells #[.string l[j].p] 9 (0, 0))) hg7 (by have := hw6.size; simp; omega) hf
            have hf7 := fresh_of ha7 hf (by have := hw6.size; simp; omega)
            have hset7 : IsSet w7 w.heap.size (ks ++ [l[j].p]) := (hset6.below (thenA (Below.refl _ w6) (.cells #[.string l[j].p] 9 (0, 0)))).kept hg7 (fun e => hne6 e.symm)
            go_roundg (l.length - (j + 1))
            case measure => omega
            case rel => exact ⟨j + 1, bA, bn, bc, ks ++ [l[j].p], ps ++ [l[j].p], by omega, rfl, by go_num, rfl, hset7, by rw [List.map_append]; exact hr7, hb7, hf7, by rw [HN.out, goneS_top HNOT.out HGO.out, List.map_append, List.map_append]; rfl, by simp; omega, by simp; omega, fun p hp => by
              rcases List.mem_append.1 hp with hp | hp
              · exact HS.out p hp
              · rw [List.mem_singleton.1 hp]; exact ⟨_, HX.out, rfl⟩⟩
          · have hgo : goesB (m.map Itm.abs) l[j].abs = false := by
              unfold goesB
              show (match findA (m.map Itm.abs) l[j].p.toList with | none => true | some y => l[j].abs.d != y.d) = false
              rw [HFN.out.2 rfl]
              show (l[j].d != y.d) = false
              rw [bne, hdd]; rfl
            have HGO := hid hgo
            clear hgo
            go_wp2_with fail
            go_roundg (l.length - (j + 1))
            case measure => omega
            case rel => exact ⟨j + 1, pA, pn, pc, ks, ps, by omega, rfl, by go_num, rfl, hset5, hrow5, hw5, hf, by rw [HN.out, goneS_no HNOT.out HGO.out], by omega, by omega, HS.out⟩
      · rw [hin] at HLK
        have hyes : (splitL l[j].abs.p).1 ∈ (ks.map (·.toList), ps.map (·.toList)).1 := by
          show (splitL l[j].p.toList).1 ∈ ks.map (·.toList)
          rw [← hsp.out]
          exact of_decide_eq_true hin
        have HYES := hid hyes
        clear hyes hin
        go_wp2_with fail
        go_roundg (l.length - (j + 1))
        case measure => omega
        case rel => exact ⟨j + 1, pA, pn, pc, ks ++ [l[j].p], ps, by omega, rfl, by go_num, rfl, hset6, hrow6, hw6, hf, by rw [HN.out, goneS_in HYES.out, List.map_append]; rfl, by simp; omega, by omega, HS.out⟩
    · obtain rfl : j = l.length := by omega
      rw [List.take_length] at hfold
      have HF := hid hfold
      have hn : pn = ps.length := by
        obtain ⟨_, _, _, hv, hl, _⟩ := id hrow
        cases hv
        simpa using hl.symm
      subst hn
      clear hfold
      go_wp2_with fail
      go_ret2
      exact ⟨⟨_, ks, _, _, ps, rfl, hset, hrow, HF.out, Nat.le_refl _, hps, hpl⟩, hb⟩

end Go.Proofs.YtheccdidfkcbbaaDoor
