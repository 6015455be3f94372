/- merge.Without -/
import Derived.Test.YtfbbjfbnkcklgaaGreatDoorF11
namespace Go.Proofs.YtfbbjfbnkcklgaaGreatDoor
open Go.RowKit

theorem under_whole (T : List AIt) : underA T [] = T := by
  unfold underA
  exact List.filter_eq_self.2 fun x _ => within_nil _
theorem under_names {l l' : List Itm} {q : ByteArray} (h : l'.map Itm.abs = underA (l.map Itm.abs) q.toList) (s : Txt) : s ∈ l'.map (fun x : Itm => x.p.toList) ↔ ∃ y ∈ l, y.p.toList = s ∧ withinA q.toList s = true := by
  have h1 : l'.map (fun x : Itm => x.p.toList) = (l'.map Itm.abs).map (·.p) := by rw [List.map_map]; rfl
  rw [h1, h]
  constructor
  · intro hs
    obtain ⟨z, hz, rfl⟩ := List.mem_map.1 hs
    obtain ⟨h2, h3⟩ := mem_under.1 hz
    obtain ⟨y, hy, rfl⟩ := List.mem_map.1 h2
    exact ⟨y, hy, rfl, h3⟩
  · rintro ⟨y, hy, rfl, h3⟩
    exact List.mem_map.2 ⟨y.abs, mem_under.2 ⟨List.mem_map_of_mem hy, h3⟩, rfl⟩
/-- what Without keeps -/
def restA (T : List AIt) (cs : List Txt) : List AIt := T.filter fun x => !cs.any fun q => withinA q x.p

set_option maxRecDepth 100000 in
set_option maxHeartbeats 4000000 in
theorem without_walk (A : Option Addr) (c : Nat) (l : List Itm) (C : Option Addr) (u : Nat) (ps : List ByteArray) (w : World) (h : Tr w A c l) (hl : l.length ≤ 1000) (hp : Row w 9 1 (.slice C ps.length u) (ps.map .string)) (np : ps.length ≤ 1000000) :
    Calls Tryz.prog 23 #[.slice A l.length c, .slice C ps.length u] w fun e w' => (∃ (B : Option Addr) (d : Nat) (l' : List Itm), e = .returned (.slice B l'.length d) ∧ Tr w' B d l' ∧ l'.map Itm.abs = restA (l.map Itm.abs) (ps.map fun z : ByteArray => z.toList)) ∧ Below w.heap.size w w' := by
  have hmm := @run_makeMap Tryz.prog
  have hset0 := (IsSet.made w).below (thenA (Below.refl _ (w.alloc (.map #[] 0))) (.cells #[.map (some w.heap.size)] 78 (0, 0)))
  have hb0 := thenA (thenA (Below.refl _ w) (.map #[] 0)) (.cells #[.map (some w.heap.size)] 78 (0, 0))
  have q0 : ((w.alloc (.map #[] 0)).alloc (.cells #[.map (some w.heap.size)] 78 (0, 0))).cell? ⟨w.heap.size + 1, 0, none⟩ = some (.map (some w.heap.size)) := by
    have h1 := heap_alloc_new (w.alloc (.map #[] 0)) (.cells #[.map (some w.heap.size)] 78 (0, 0))
    rw [World.size_alloc] at h1
    exact (blkCell h1 0).trans rfl
  have HT := hid h
  have HP := hid hp
  have HL := hid hl
  clear h hp hl
  go_enter Tryz.func23, Tryz.ntmps23
  go_wp2_with fail
  clear hmm
  go_loopg [13] ps.length (fun k i wr => ∃ (j : Nat) (ks : List ByteArray), j ≤ ps.length ∧ k = ps.length - j ∧ i = .int .i64 j ∧ wr.cell? ⟨w.heap.size + 1, 0, none⟩ = some (.map (some w.heap.size)) ∧ IsSet wr w.heap.size ks ∧ Below w.heap.size w wr ∧ HidP (∀ s, s ∈ ks.map (fun z : ByteArray => z.toList) ↔ ∃ y ∈ l, y.p.toList = s ∧ (ps.take j).any (fun q => withinA q.toList s) = true) ∧ ks.length ≤ j * 1000)
  case atStart => exact ⟨0, [], Nat.zero_le _, rfl, rfl, q0, hset0, hb0, ⟨by simp⟩, by simp⟩
  case round =>
    obtain ⟨j, ks, hj, rfl, rfl, hq, hset, hb, hks, hkl⟩ := hrel
    clear q0 hset0 hb0
    generalize wr = wo at *
    by_cases hlt : j < ps.length
    · have i0 : (0 : Int) ≤ (j : Int) := by omega
      have i1 : (j : Int) < (ps.length : Int) := by omega
      obtain ⟨b1, o1, hC, k1⟩ := (HP.out.below hb).str hlt
      subst hC
      have HU := hid (under_row A c l ps[j] wo (HT.out.below hb))
      go_wp2_with fail
      refine HU.out.mono ?_
      rintro e w2 ⟨⟨B, d, l', rfl, hr, hfr, hm, hg⟩, hb2⟩
      have hMl : w.heap.size < wo.heap.size := hset.lt
      have hql : w.heap.size + 1 < wo.heap.size := World.block_lt_of_cell? wo _ hq
      have hne : (Value.slice B l'.length d).ownBlock ≠ some w.heap.size := fun e => by have := hfr _ e; omega
      have hll : l'.length ≤ 1000 := by
        have h1 := congrArg List.length hm
        rw [List.length_map] at h1
        have h2 : (underA (l.map Itm.abs) ps[j].toList).length ≤ (l.map Itm.abs).length := List.length_filter_le _ _
        rw [List.length_map] at h2
        have := HL.out
        omega
      have HR := hid hr
      have HNM := hid (under_names hm)
      have HSZ : HidP (∀ x ∈ l', x.p.size ≤ 140737488351232) := hid fun x hx => (hg x hx).1.size
      have HFR := hid hne
      have hq2 := cellB hb2 hq
      have hset2 := hset.below hb2
      have hb3 := thenB hb hb2
      clear hr hfr hm hg hne k1 HU
      go_wp2_with fail
      go_loopg [21] l'.length (fun k i wr2 => ∃ i2 : Nat, i2 ≤ l'.length ∧ k = l'.length - i2 ∧ i = .int .i64 i2 ∧ wr2.cell? ⟨w.heap.size + 1, 0, none⟩ = some (.map (some w.heap.size)) ∧ IsSet wr2 w.heap.size (ks ++ (l'.take i2).map (·.p)) ∧ Below w.heap.size w wr2 ∧ KR w.heap.size w2 wr2)
      case atStart => exact ⟨0, Nat.zero_le _, rfl, rfl, hq2, by simpa using hset2, hb3, Keep.refl _ _⟩
      case round =>
        obtain ⟨i2, hi2, rfl, rfl, hqr, hsr, hbr, hkr⟩ := hrel
        clear hq2 hset2 hb3
        by_cases hlt2 : i2 < l'.length
        · have i3 : (0 : Int) ≤ (i2 : Int) := by omega
          have i4 : (i2 : Int) < (l'.length : Int) := by omega
          have hrow := HR.out.keep fun k hk => hkr.block k (HR.out.lt k hk) (fun e => HFR.out (by rw [hk, e]))
          obtain ⟨b2, o2, hB, c0, c1, c2, _⟩ := hrow.at3 hlt2
          subst hB
          have hsz := HSZ.out _ (List.getElem_mem hlt2)
          have hpm : l'[i2].p.size ≤ maxLen := by simp only [maxLen]; omega
          have hkm : (ks ++ (l'.take i2).map (·.p)).length < maxLen := by simp only [List.length_append, List.length_map, List.length_take, maxLen]; omega
          have hba := thenA (Below.refl _ wr) (.cells #[.string l'[i2].p, .bool l'[i2].d, .slice l'[i2].dA l'[i2].bs.length l'[i2].dc] 42 (0, 0))
          have hqa := cellB hba hqr
          obtain ⟨w6, hup, hset6, hg6⟩ := (hsr.below hba).put l'[i2].p hpm hkm
          have hql6 : w.heap.size + 1 < (wr.alloc (.cells #[.string l'[i2].p, .bool l'[i2].d, .slice l'[i2].dA l'[i2].bs.length l'[i2].dc] 42 (0, 0))).heap.size := World.block_lt_of_cell? _ _ hqa
          have hq6 : w6.cell? ⟨w.heap.size + 1, 0, none⟩ = some (.map (some w.heap.size)) := by
            rw [hg6.cell_far ⟨w.heap.size + 1, 0, none⟩ hql6 (by intro e; have e2 := Option.some.inj e; simp at e2)]
            exact hqa
          have hb6 : Below w.heap.size w w6 := Below.grownNew (thenB hbr hba) hg6 (by simp; have := hbr.size; omega) (by intro k hk; cases hk; exact Nat.le_refl _)
          have hk6 : KR w.heap.size w2 w6 := Keep.grown (KR.then hkr hba) hg6 (fun k hk => .inl (fun h => h (by cases hk; rfl)))
          have HS6 : HidP (IsSet w6 w.heap.size (ks ++ (l'.take (i2 + 1)).map (·.p))) := hid (by
            rw [List.take_add_one, List.getElem?_eq_getElem hlt2, List.map_append, ← List.append_assoc]
            exact hset6)
          clear hset6 hrow hsz hpm hkm
          go_wp2_with fail
          go_roundg (l'.length - (i2 + 1))
          case measure => omega
          case rel => exact ⟨i2 + 1, by omega, rfl, by go_num, hq6, HS6.out, hb6, hk6⟩
        · obtain rfl : i2 = l'.length := by omega
          have hsr2 : IsSet wr w.heap.size (ks ++ l'.map (·.p)) := by rw [List.take_length] at hsr; exact hsr
          have HNX : HidP (∀ s, s ∈ (ks ++ l'.map (·.p)).map (fun z : ByteArray => z.toList) ↔ ∃ y ∈ l, y.p.toList = s ∧ (ps.take (j + 1)).any (fun q => withinA q.toList s) = true) := hid (fun s => by
            have h1 : (l'.map (·.p)).map (fun z : ByteArray => z.toList) = l'.map (fun x : Itm => x.p.toList) := by rw [List.map_map]; rfl
            rw [List.map_append, List.mem_append, hks.out, h1, HNM.out, List.take_add_one, List.getElem?_eq_getElem hlt]
            simp only [Option.toList_some, List.any_append, List.any_cons, List.any_nil, Bool.or_false, Bool.or_eq_true]
            constructor
            · rintro (⟨y, hy, e, hh⟩ | ⟨y, hy, e, hh⟩)
              · exact ⟨y, hy, e, .inl hh⟩
              · exact ⟨y, hy, e, .inr hh⟩
            · rintro ⟨y, hy, e, hh | hh⟩
              · exact .inl ⟨y, hy, e, hh⟩
              · exact .inr ⟨y, hy, e, hh⟩)
          have hkl2 : (ks ++ l'.map (·.p)).length ≤ (j + 1) * 1000 := by rw [List.length_append, List.length_map]; omega
          have HS2 := hid hsr2
          clear hsr hsr2
          go_wp2_with fail
          go_roundg (ps.length - (j + 1))
          case measure => omega
          case rel => exact ⟨j + 1, ks ++ l'.map (·.p), by omega, rfl, by go_num, hqr, HS2.out, hbr, HNX, hkl2⟩
    · obtain rfl : j = ps.length := by omega
      have HU := hid (under_row A c l ⟨#[]⟩ wo (HT.out.below hb))
      have hMl : w.heap.size < wo.heap.size := hset.lt
      have hql : w.heap.size + 1 < wo.heap.size := World.block_lt_of_cell? wo _ hq
      go_wp2_with fail
      refine HU.out.mono ?_
      rintro e w2 ⟨⟨B, d, l2, rfl, hr, hfr, hm, hg⟩, hb2⟩
      have hm' : l2.map Itm.abs = l.map Itm.abs := by rw [emptyB] at hm; exact hm.trans (under_whole _)
      have hll : l2.length ≤ 1000 := by
        have h1 := congrArg List.length hm'
        rw [List.length_map, List.length_map] at h1
        have := HL.out
        omega
      have HD := hid (deletefunc_walk B d l2 (w.heap.size + 1) w.heap.size ks w2 hr hg (cellB hb2 hq) (hset.below hb2) (fun e => by have := hfr _ e; omega) (fun e => by have := hfr _ e; omega) (by omega))
      have hb3 := thenB hb hb2
      have HRES : HidP ((l2.filter fun x => !goneP ks x).map Itm.abs = restA (l.map Itm.abs) (ps.map fun z : ByteArray => z.toList)) := hid (by
        have hk2 := hks.out
        rw [List.take_length] at hk2
        rw [← hm']
        unfold restA
        rw [List.filter_map]
        congr 1
        refine List.filter_congr fun x hx => ?_
        simp only [Function.comp, List.any_map]
        congr 1
        unfold goneP
        rw [Bool.eq_iff_iff, decide_eq_true_eq, hk2]
        constructor
        · rintro ⟨y, _, _, h⟩; exact h
        · intro h
          have hx2 : x.abs ∈ l.map Itm.abs := by rw [← hm']; exact List.mem_map_of_mem hx
          obtain ⟨y, hy, he⟩ := List.mem_map.1 hx2
          exact ⟨y, hy, congrArg AIt.p he, h⟩)
      have HSZ := hid (hfr)
      have hsz := hb.size
      clear hr hfr hm hm' hg hks HU
      go_wp2_with fail
      refine HD.out.mono ?_
      rintro e w3 ⟨⟨K, rfl, rfl, ht⟩, hk⟩
      have HTT := hid ht
      have hfin : Below w.heap.size w w3 := ⟨hk.os.trans hb3.os, hk.tape.trans hb3.tape, hk.output.trans hb3.output, Nat.le_trans hb3.size hk.size, fun k hk' => (hk.block k (by have := hb3.size; omega) (fun e => by have := HSZ.out k e; omega)).trans (hb3.block k hk')⟩
      clear ht hk HD
      go_wp2_with fail
      go_ret
      exact ⟨⟨B, d, _, rfl, HTT.out, HRES.out⟩, hfin⟩

end Go.Proofs.YtfbbjfbnkcklgaaGreatDoor
