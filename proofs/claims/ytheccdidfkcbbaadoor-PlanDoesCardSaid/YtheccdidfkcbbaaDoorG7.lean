/- the steps from one tree to another: the walk -/
import Derived.Test.YtheccdidfkcbbaaDoorG6
import Derived.Deep.CutRange
import Derived.Deep.RegionLaw
import Derived.Deep.RegionHeld3
namespace Go.Proofs.YtheccdidfkcbbaaDoor
open Go.RowKit Go.Shelf
attribute [local go_sem] Oper.semAt_some

theorem keptB_def (F : List AIt) (all : List (List UInt8)) (y : AIt) : keptB F all y = match findA F y.p with
  | none => false
  | some x => !decide (y.p ∈ all) && (y.d || decide (x.b = y.b)) := rfl
theorem makeL_snoc (F : List AIt) (all : List (List UInt8)) (T : List AIt) {j : Nat} (hj : j < T.length) : makeL F all (T.take (j + 1)) = makeL F all (T.take j) ++ (if keptB F all T[j] then [] else [newA T[j]]) := by
  unfold makeL
  rw [List.take_add_one, List.getElem?_eq_getElem hj, List.filter_append, List.map_append]
  cases hk : keptB F all T[j] <;> simp [hk]
theorem newA_dir {y : AIt} (h : y.d = true) : newA y = ⟨2, y.p, []⟩ := by unfold newA; rw [if_pos h]
theorem newA_file {y : AIt} (h : y.d = false) : newA y = ⟨3, y.p, y.b⟩ := by unfold newA; rw [if_neg (by simp [h])]

theorem round_fin {l fn D : Nat} {tmps : Array Value} {ps : Array Tmp} {assign body : Code} {rec : LoopState → Option Code → Loop} {V : World} {a : Act} {R : World → Prop} (hrec : rec = readyAt fn tmps ps assign body D) (hl : V.heap[l]? = some (.loop (rec .busy none))) (h : R (V.putObj l (.loop (rec .ready none)))) :
    roundPost Tryd.prog l (fun e W' => e = .returned (.bool true) ∧ R W') .normal a V := by
  subst hrec
  exact ⟨_, _, end_round none hl, rfl, h⟩

set_option maxRecDepth 100000 in
set_option maxHeartbeats 8000000 in
theorem make_yes (A : Option Addr) (c : Nat) (l : List Itm) (B : Option Addr) (d : Nat) (m : List Itm) (w : World) (h : Tr w A c l) (k : Tr w B d m) (hl : rightA (l.map Itm.abs) = true) (hm : rightA (m.map Itm.abs) = true) :
    Calls Tryd.prog 8 #[.slice A l.length c, .slice B m.length d] w fun e w' => (∃ C u L, e = .returned (.tuple #[.slice C L.length u, .int .i64 0]) ∧ Sts w' C u L ∧ L.map StI.abs = (makeA (l.map Itm.abs) (m.map Itm.abs)).1) ∧ Below w.heap.size w w' := by
  have hsl := sortedI_of (right_sorted hl)
  have hsm := sortedI_of (right_sorted hm)
  have l60 := (right_fine hl).1
  have m60 := (right_fine hm).1
  rw [List.length_map] at l60 m60
  have hb0 := thenA (Below.refl _ w) (.cells #[.slice none 0 0] 25 (0, 0))
  have HR := right_walk A c l _ (h.below hb0)
  have HS := hid (fun W (hW : Below w.heap.size w W) => right_walk B d m W (k.below hW))
  have HG := hid (fun W (hW : Below w.heap.size w W) => gone_walk A c l B d m W (h.below hW) (k.below hW) hsm)
  rw [hl] at HR
  rw [hm] at HS
  replace HR := hid HR
  have HPS : HidP (∀ x ∈ l, x.p.size ≤ 140737488351232) := hid (fun x hx => (h.good x hx).size)
  have HMA : HidP ((makeA (l.map Itm.abs) (m.map Itm.abs)).1 = (goneA (l.map Itm.abs) (m.map Itm.abs)).2.reverse.map remA ++ makeL (l.map Itm.abs) (goneA (l.map Itm.abs) (m.map Itm.abs)).1 (m.map Itm.abs)) := hid (by unfold makeA; rw [if_neg (by simp [hl, hm])])
  have HH := hid h
  have HK := hid k
  have HSL := hid hsl
  clear hl hm hsl hsm h k
  refine (callsIn_wide (n := 5)).1 ?_
  refine callsIn_of_wp_marks Tryd.func8 rfl trivial ?_ rfl
  simp only [Tryd.ntmps8, List.size_toArray, List.length_cons, List.length_nil, Nat.reduceAdd, Nat.reduceSub, Array.replicate_succ, Array.replicate_zero, List.push_toArray, List.append_toArray, List.nil_append, List.cons_append]
  refine wpIn_wide.2 ?_
  go_wp2_with fail
  refine HR.out.mono ?_
  rintro e w1 ⟨rfl, hb1⟩
  have hb2 := thenB hb0 hb1
  go_wp2_with fail
  refine (HS.out _ hb2).mono ?_
  rintro e w2 ⟨rfl, hb3⟩
  have hb4 := thenB hb2 hb3
  go_wp2_with fail
  refine (HG.out _ hb4).mono ?_
  rintro e w3 ⟨⟨M, ks, C, u, ps, rfl, hset, htops, hgone, hM, hps, hpl⟩, hb5⟩
  have g3 := ((thenB (thenB hb1 hb3) hb5).block w.heap.size (by simp)).trans (heap_alloc_new w (.cells #[.slice none 0 0] 25 (0, 0)))
  have hb6 := thenB hb4 hb5
  have h60 : ps.length ≤ 1000000 := by omega
  replace hgone := hid hgone
  replace hps := hid hps
  replace hset := hid hset
  replace htops := hid htops
  go_wp2_with fail
  refine (backward_walk _ w3 rfl).mono ?_
  rintro e w' ⟨rfl, rfl⟩
  go_wp2_with fail
  have hb7 := thenA hb6 (.cells #[.slice C ps.length u] 47 (0, 0))
  have hrow7 := htops.out.below (thenA (Below.refl _ w3) (.cells #[.slice C ps.length u] 47 (0, 0)))
  have hset7 := hset.out.below (thenA (Below.refl _ w3) (.cells #[.slice C ps.length u] 47 (0, 0)))
  have g7 := (Below.heap_alloc w3 (.cells #[.slice C ps.length u] 47 (0, 0)) _ (blkLt g3)).trans g3
  have s7 := heap_alloc_new w3 (.cells #[.slice C ps.length u] 47 (0, 0))
  obtain ⟨sB, hsB⟩ : ∃ sB, w3.heap.size = sB := ⟨_, rfl⟩
  rw [hsB] at s7 ⊢
  have hsz7 : w.heap.size ≤ sB := by rw [← hsB]; exact hb6.size
  generalize w3.alloc (.cells #[.slice C ps.length u] 47 (0, 0)) = w7 at *
  clear hsB hb6 hb5 hb4 hb3 hb2 hb1 hb0 g3
  refine (wpIn_wide (n := 4)).1 ?_
  refine enter_range rfl (by decide) (gf := 41) (lb := #[.pointer (some ⟨sB, 0, none⟩)]) rfl trivial (enters_of Tryd.func41 (by kernel_rfl) rfl) ?_
  intro fn rec hfn hrec
  refine (back_iter 3 (by decide) (w7.heap.size + 1) sB C u ps h60 (MJ w M w7.heap.size ks rec sB C u ps) ?hcell ?hY _ ?h0).mono ?fin
  case hcell => exact fun pre W hj => ⟨(blkCell hj.box 0).trans rfl, hj.tops⟩
  case h0 =>
    have hbb := thenA (thenA (Below.refl _ w7) (.deferred (some []))) (.loop (rec .ready none))
    refine ⟨⟨none, 0, 0, (hbb.block _ (blkLt g7)).trans g7, Row.nil _ _ _, by simp [Value.ownBlock], hset7.below hbb, ?_, by simp, thenB hb7 hbb⟩, (hbb.block _ (blkLt s7)).trans s7, hrow7.below hbb, ?_, hb7.size⟩
    · exact (Below.heap_alloc _ _ _ (by simp)).trans (heap_alloc_new w7 _)
    · have := heap_alloc_new (w7.alloc (.deferred (some []))) (.loop (rec .ready none))
      rw [World.size_alloc] at this
      exact this
  case hY =>
    intro pre k W hk hj hpre
    have HREC := hid hrec
    rw [hrec] at hj ⊢
    refine round_at hj.loop rfl hfn _ (by
      intro K hK
      gi_wp2
      exact hK) ?_
    rw [← hrec] at hj ⊢
    obtain ⟨⟨oA, on, oc, hst⟩, hbox, htop, hloop, hD⟩ := hj
    obtain ⟨V, hV⟩ : ∃ V, W.putObj (w7.heap.size + 1) (.loop (rec .busy none)) = V := ⟨_, rfl⟩
    have far : ∀ k, k ≠ w7.heap.size + 1 → V.heap[k]? = W.heap[k]? := fun k hk => by rw [← hV]; exact World.putObj_heap_other hk
    have hmk : MK w M w7.heap.size ks oA on oc (pre.map remI) V := hst.other hloop (by simp) (by simp) (by simp) far (by omega) (by rw [← hV]; rfl) (by rw [← hV]; rfl) (by rw [← hV]; rfl) (by rw [← hV]; simp)
    have hbox' : V.heap[sB]? = some (.cells #[.slice C ps.length u] 47 (0, 0)) := (far _ (by rintro rfl; rw [hloop] at hbox; cases hbox)).trans hbox
    have htop' := htop.keep (w' := V) fun k hk => far k (by rintro rfl; exact htop.neObj hloop (by simp) hk)
    have hl' : V.heap[w7.heap.size + 1]? = some (.loop (rec .busy none)) := by rw [← hV]; exact World.putObj_heap_same (blkLt hloop)
    rw [hV]
    clear hV far hst hbox htop hloop hrec
    have c0 : V.cell? ⟨w.heap.size, 0, none⟩ = some (.slice oA on oc) := (blkCell hmk.box 0).trans rfl
    have f0 := blkFree hmk.box 0
    obtain ⟨ti, hi0, hz0, hz1, hz2⟩ := info_parts infoStep
    have hpl' : pre.length ≤ 1000000 := by rw [hpre]; simp; omega
    clear hpre
    obtain ⟨hc1, hc2⟩ := st_bound (s := remI ps[k]) (L := pre.map remI) (by simp; omega)
    have hba := thenA (Below.refl _ V) (.cells #[.int .i64 1, .string ps[k], .slice none 0 0] 35 (0, 0))
    have hmk2 := hmk.later hba
    have hsi := Src.rec st_len (w := V.alloc (.cells (remI ps[k]).cells.toArray 35)) (b := V.heap.size) (remI ps[k]) (heap_alloc_new V _)
    gi_wp2_with (gi_at_builtin; refine wpListIn_append_row _ rfl _ _ 25 rfl 35 ti (.agg #[.int .i64 0, .string ByteArray.empty, .slice none 0 0]) 3 48 Tryd.underlying25 hi0 hz0 hz1 hz2 rfl (by decide) (.slice oA on oc) ((pre.map remI).flatMap StI.cells) rfl (by exact hmk2.row) (.slice (some ⟨V.heap.size, 0, none⟩) 1 1) (remI ps[k]).cells rfl hsi (st_one _) hc1 hc2 ?_; intro bA bn bc w2 hr2 hg2 ha2; have x2 := hmk2.boxed hg2; have c2 : w2.cell? ⟨w.heap.size, 0, none⟩ = some (.slice oA on oc) := (blkCell x2 0).trans rfl; have f2 := blkFree x2 0)
    have hmk3 := hmk2.grown hg2 hr2 ha2 (remI_row _ (by obtain ⟨x, hx, e⟩ := hps.out _ (List.getElem_mem hk); rw [← e]; exact HPS.out x hx))
    have hB0 : w7.heap.size + 1 ≠ w.heap.size := by omega
    have hl2 := (Below.heap_setCell w2 ⟨w.heap.size, 0, none⟩ (.slice bA bn bc) (w7.heap.size + 1) hB0).trans (hmk2.far hg2 ((hba.block _ (blkLt hl')).trans hl') (by simp))
    have hsB0 : sB ≠ w.heap.size := by rintro e; rw [e] at hbox'; exact absurd (hmk.box.symm.trans hbox') (by simp)
    have hbx2 := (Below.heap_setCell w2 ⟨w.heap.size, 0, none⟩ (.slice bA bn bc) sB hsB0).trans (hmk2.far hg2 ((hba.block _ (blkLt hbox')).trans hbox') (by simp))
    have ht1 := htop'.below hba
    have ht2 : Row (w2.setCell ⟨w.heap.size, 0, none⟩ (.slice bA bn bc)) 9 1 (.slice C ps.length u) (ps.map .string) := ht1.keep fun k hk => (Below.heap_setCell w2 ⟨w.heap.size, 0, none⟩ (.slice bA bn bc) k (by rintro rfl; exact ht1.neBlk hmk2.box (by decide) hk)).trans (hg2.block k (ht1.lt k hk) (fun e => ht1.neRow hmk2.row (by decide) hk e.symm))
    have HR2 := HREC.out
    clear hmk hmk2 hr2 hg2 ha2 x2 c2 f2 hl' hbox' htop' ht1 hsi c0 f0
    generalize w2.setCell ⟨w.heap.size, 0, none⟩ (.slice bA bn bc) = W3 at *
    refine round_fin HR2 hl2 ⟨⟨bA, bn, bc, ?_⟩, ?_, ?_, World.putObj_heap_same (blkLt hl2), hD⟩
    · rw [List.map_append]
      exact hmk3.other hl2 (by simp) (by simp) (by simp) (fun k hk => World.putObj_heap_other hk) (by omega) rfl rfl rfl (by simp)
    · exact (World.putObj_heap_other (by rintro rfl; rw [hl2] at hbx2; cases hbx2)).trans hbx2
    · exact ht2.keep fun k hk => World.putObj_heap_other (by rintro rfl; exact ht2.neObj hl2 (by simp) hk)
  case fin =>
    rintro e W ⟨⟨v, rfl⟩, hj⟩
    have e1 : ∀ pe st, (rec st pe).pending = pe := fun pe st => by rw [hrec]; rfl
    have e2 : ∀ pe st, (rec st pe).state = st := fun pe st => by rw [hrec]; rfl
    obtain ⟨⟨oA, on, oc, hst⟩, hbox, htop, hloop, hD⟩ := hj
    obtain ⟨V, hV⟩ : ∃ V, W.putObj (w7.heap.size + 1) (.loop { rec .ready none with state := .exhausted }) = V := ⟨_, rfl⟩
    refine ⟨none, V, (run_endLoop hloop (by rw [e2]; simp)).trans (congr (congrArg Result.ok (e1 none .ready)) hV), ?_⟩
    have far : ∀ k, k ≠ w7.heap.size + 1 → V.heap[k]? = W.heap[k]? := fun k hk => by rw [← hV]; exact World.putObj_heap_other hk
    have hmk : MK w M w7.heap.size ks oA on oc (ps.reverse.map remI) V := hst.other hloop (by simp) (by simp) (by simp) far (by omega) (by rw [← hV]; rfl) (by rw [← hV]; rfl) (by rw [← hV]; rfl) (by rw [← hV]; simp)
    clear hV far hst hbox htop hloop hrec e1 e2
    obtain ⟨D, hDD⟩ : ∃ D, w7.heap.size = D := ⟨_, rfl⟩
    rw [hDD] at hmk hD ⊢
    clear hDD g7 s7 hb7 hrow7 hset7 W
    have HALL : HidP (ks.map (fun z : ByteArray => z.toList) = (goneA (l.map Itm.abs) (m.map Itm.abs)).1) := hid (by rw [← hgone.out])
    have HTOPS : HidP (ps.map (fun z : ByteArray => z.toList) = (goneA (l.map Itm.abs) (m.map Itm.abs)).2) := hid (by rw [← hgone.out])
    clear hgone hset htops hps HS HG HR HPS
    have hon : on = ps.length := by
      have := hmk.row.count
      rw [flat_len st_len] at this
      simp at this
      omega
    subst hon
    have HST : HidP ((ps.reverse.map remI).map StI.abs = (goneA (l.map Itm.abs) (m.map Itm.abs)).2.reverse.map remA) := hid (by
      rw [← HTOPS.out, List.map_map, ← List.map_reverse, List.map_map]
      rfl)
    go_wp2_with fail
    go_loopg [39] m.length (fun k i wr => ∃ (j : Nat) (oA : Option Addr) (on oc : Nat) (L : List StI), j ≤ m.length ∧ k = m.length - j ∧ i = .int .i64 j ∧ MK w M D ks oA on oc L wr ∧ L.length ≤ ps.length + j ∧
      L.map StI.abs = (goneA (l.map Itm.abs) (m.map Itm.abs)).2.reverse.map remA ++ makeL (l.map Itm.abs) (ks.map (fun z : ByteArray => z.toList)) ((m.map Itm.abs).take j))
    case atStart => exact ⟨0, oA, ps.length, oc, _, Nat.zero_le _, rfl, rfl, hmk, by simp, by rw [HST.out]; simp [makeL]⟩
    case round =>
      clear hmk
      obtain ⟨j, oA, on, oc, L, hj, rfl, rfl, hmk, hLl, hL⟩ := hrel
      replace hL := hid hL
      obtain ⟨ti, hi0, hz0, hz1, hz2⟩ := info_parts infoStep
      by_cases hlt : j < m.length
      · have i0 : (0 : Int) ≤ (j : Int) := by omega
        have i1 : (j : Int) < (m.length : Int) := by omega
        have hb := hmk.below
        obtain ⟨b, off, hA, c0, c1, c2, hg⟩ := (HK.out.below hb).at hlt
        subst hA
        have hsz := hg.size
        have hba := thenA (Below.refl _ wr) (.cells #[.string m[j].p, .bool m[j].d, .slice m[j].dA m[j].bs.length m[j].dc] 31 (0, 0))
        have HFD := hid (fun W (hW : Below wr.heap.size wr W) => find_walk A c l m[j].p W ((HH.out.below hb).below hW))
        have hjT : j < (m.map Itm.abs).length := by rw [List.length_map]; exact hlt
        have HN := hid (makeL_snoc (l.map Itm.abs) (ks.map (fun z : ByteArray => z.toList)) (m.map Itm.abs) hjT)
        have hTj : (m.map Itm.abs)[j] = m[j].abs := by rw [List.getElem_map]
        rw [hTj] at HN
        have HGY := hid (hg.below hba)
        clear hg hb hjT hTj
        go_wp2_with fail
        refine (HFD.out _ hba).mono ?_
        rintro e w2 ⟨⟨x, is, rfl, hgx, hno, hfd⟩, hb3⟩
        have HFN := hid (hfd HSL.out)
        have hb4 := thenB hba hb3
        have hby := thenA (Below.refl _ w2) (.cells #[.string x.p, .bool x.d, .slice x.dA x.bs.length x.dc] 31 (0, 0))
        have hb5 := thenB hb4 hby
        have y0 := cellB hby (cellB hb3 ((blkCell (heap_alloc_new wr (.cells #[.string m[j].p, .bool m[j].d, .slice m[j].dA m[j].bs.length m[j].dc] 31 (0, 0))) 0).trans rfl))
        have y1 := cellB hby (cellB hb3 ((blkCell (heap_alloc_new wr (.cells #[.string m[j].p, .bool m[j].d, .slice m[j].dA m[j].bs.length m[j].dc] 31 (0, 0))) 1).trans rfl))
        have y2 := cellB hby (cellB hb3 ((blkCell (heap_alloc_new wr (.cells #[.string m[j].p, .bool m[j].d, .slice m[j].dA m[j].bs.length m[j].dc] 31 (0, 0))) 2).trans rfl))
        have x2 : (w2.alloc (.cells #[.string x.p, .bool x.d, .slice x.dA x.bs.length x.dc] 31 (0, 0))).cell? ⟨w2.heap.size, 2, none⟩ = some (.slice x.dA x.bs.length x.dc) := (blkCell (heap_alloc_new w2 _) 2).trans rfl
        have HGX := hid (hgx.below hby)
        have HGY5 := hid ((HGY.out.below hb3).below hby)
        have hmk5 := hmk.later hb5
        have HLK := hmk5.set.look m[j].p (by simp only [maxLen]; omega)
        go_upto_region 11 with fail
        obtain ⟨W5, hW5⟩ : ∃ W5, w2.alloc (.cells #[.string x.p, .bool x.d, .slice x.dA x.bs.length x.dc] 31 (0, 0)) = W5 := ⟨_, rfl⟩
        rw [hW5] at hby hb5 y0 y1 y2 x2 HGX HGY5 hmk5 HLK ⊢
        clear hW5 hgx hno hfd hby hb4 hb3 HFD HGY hba hmk c0 c1 c2
        obtain ⟨inn, hin⟩ : ∃ inn : Bool, decide (m[j].p.toList ∈ ks.map (fun z : ByteArray => z.toList)) = inn := ⟨_, rfl⟩
        rw [hin] at HLK
        have HIN := hid hin
        clear hin
        go_cut [13] from 40 to 89 (fun v wx => v = .bool (is && !inn) ∧ wx = W5)
        case first =>
          cases is <;> cases inn
          all_goals
            go_wp2_with fail
            go_meet
            case rel => exact ⟨rfl, rfl⟩
        case rest =>
          obtain ⟨rfl, rfl⟩ := hcut
          obtain ⟨V, hV⟩ : ∃ V, (is && !inn) = V := ⟨_, rfl⟩
          rw [hV]
          have HK0 : HidP (V = false → keptB (l.map Itm.abs) (ks.map (fun z : ByteArray => z.toList)) m[j].abs = false) := hid fun hv => by
            rw [keptB_def]
            show (match findA (l.map Itm.abs) m[j].p.toList with | none => false | some x => !decide (m[j].p.toList ∈ ks.map (fun z : ByteArray => z.toList)) && (m[j].d || decide (x.b = m[j].bs))) = false
            rw [HIN.out]
            cases hf : findA (l.map Itm.abs) m[j].p.toList
            · rfl
            · have h1 := HFN.out.1
              rw [hf] at h1
              subst h1
              simp only [Option.isSome_some, Bool.true_and] at hV
              rw [hV, hv]
              rfl
          have HK1 : HidP (V = true → keptB (l.map Itm.abs) (ks.map (fun z : ByteArray => z.toList)) m[j].abs = (m[j].d || decide (x.bs = m[j].bs))) := hid fun hv => by
            rw [keptB_def]
            show (match findA (l.map Itm.abs) m[j].p.toList with | none => false | some x => !decide (m[j].p.toList ∈ ks.map (fun z : ByteArray => z.toList)) && (m[j].d || decide (x.b = m[j].bs))) = _
            rw [hv, Bool.and_eq_true] at hV
            rw [HIN.out, HFN.out.2 hV.1, hV.2]
            rfl
          obtain ⟨Kb, hKb⟩ : ∃ Kb, keptB (l.map Itm.abs) (ks.map (fun z : ByteArray => z.toList)) m[j].abs = Kb := ⟨_, rfl⟩
          rw [hKb] at HK0 HK1 HN
          clear hV hKb HLK HFN HIN
          go_upto_region 13 with fail
          go_cut [67] from 40 to 89 (fun v wx => v = .bool Kb ∧ wx = wc)
          case first =>
            cases V
            · go_wp2_with fail
              go_meet
              case rel => exact ⟨by rw [HK0.out (by simp)], rfl⟩
            · cases hd : m[j].d
              · rw [hd] at y1 HK1
                have HBE := hid (fun W (hW : wc = W) => bytesequal (.slice x.dA x.bs.length x.dc) (.slice m[j].dA m[j].bs.length m[j].dc) x.bs m[j].bs W (by rw [← hW]; exact HGX.out.src) (by rw [← hW]; exact HGY5.out.src) HGX.out.rng HGY5.out.rng)
                clear hd
                go_wp2_with fail
                refine (HBE.out _ rfl).mono ?_
                rintro e w6 ⟨rfl, rfl⟩
                go_wp2_with fail
                go_meet
                case rel => exact ⟨by rw [HK1.out (by simp)]; rfl, rfl⟩
              · rw [hd] at y1 HK1
                clear hd
                go_wp2_with fail
                go_meet
                case rel => exact ⟨by rw [HK1.out (by simp)]; rfl, rfl⟩
          case rest =>
            obtain ⟨rfl, rfl⟩ := hcut
            clear HK0 HK1
            cases Kb
            · have k0 : wc.cell? ⟨w.heap.size, 0, none⟩ = some (.slice oA on oc) := (blkCell hmk5.box 0).trans rfl
              have kf := blkFree hmk5.box 0
              have hlt0 : w.heap.size < wc.heap.size := blkLt hmk5.box
              cases hd : m[j].d
              · rw [hd] at y1
                have HNW := newA_file (y := m[j].abs) hd
                replace HNW := hid HNW
                clear hd
                obtain ⟨hc1, hc2⟩ := st_bound (s := ⟨3, m[j].p, none, 0, []⟩) (L := L) (by omega)
                have hsy := HGY5.out.src
                have hly := HGY5.out.len
                go_wp2_with fail
                refine wp_region_noPanic ?_
                go_region_law (first | (refine step_call (by rfl) 29 _ _ (by rfl) Tryd.func29 (by kernel_rfl) (by kernel_rfl) [.slice m[j].dA m[j].bs.length m[j].dc] (by rfl) (clone_any _ m[j].bs _ (by exact hsy.keep (fun _ _ _ => rfl)) (by omega)) ?_; rintro e w6 ⟨vA, vn, vc, rfl, hr6, hbel, hfresh⟩; replace hbel : Below wc.heap.size wc w6 := ⟨hbel.os, hbel.tape, hbel.output, hbel.size, hbel.block⟩; obtain rfl : vn = m[j].bs.length := (by have h1 := hr6.count; rw [nums_length] at h1; omega); have z0 := cellB hbel y0; have z1 := cellB hbel k0; have z1a : ∀ o, (w6.alloc o).cell? ⟨w.heap.size, 0, none⟩ = some (.slice oA on oc) := fun o => cellA z1 o; refine ⟨_, rfl, ?_⟩) | (have hB : Below wc.heap.size wc (w6.alloc (.cells #[.int .i64 3, .string m[j].p, .slice vA m[j].bs.length vc] 35 (0, 0))) := hbel.alloc hbel.size _; have hmk6 := hmk5.later hB; have hsi := Src.rec st_len (w := w6.alloc (.cells (StI.cells ⟨3, m[j].p, vA, vc, m[j].bs⟩).toArray 35)) (b := w6.heap.size) ⟨3, m[j].p, vA, vc, m[j].bs⟩ (heap_alloc_new w6 _); refine step_append_row _ (by rfl) _ _ 25 (by rfl) 35 ti (.agg #[.int .i64 0, .string ByteArray.empty, .slice none 0 0]) 3 48 Tryd.underlying25 hi0 hz0 hz1 hz2 rfl (by decide) (.slice oA on oc) (L.flatMap StI.cells) (by rfl) (by exact hmk6.row) (.slice (some ⟨w6.heap.size, 0, none⟩) 1 1) (StI.cells ⟨3, m[j].p, vA, vc, m[j].bs⟩) (by rfl) hsi (st_one _) hc1 hc2 ?_; intro bA bn bc w7 hr7 hg7 ha7; have q7 := hmk6.boxed hg7; have qc : w7.cell? ⟨w.heap.size, 0, none⟩ = some (.slice oA on oc) := (blkCell q7 0).trans rfl; have qf := blkFree q7 0) | fail)
                all_goals
                  refine NoPanic.normal ?_
                  have hmk7 := hmk6.grown (s := ⟨3, m[j].p, vA, vc, m[j].bs⟩) hg7 hr7 ha7 ⟨hsz, hly, hr6.below (thenA (Below.refl _ w6) _), HGY5.out.rng⟩
                  go_wp2_with fail
                  go_roundg (m.length - (j + 1))
                  case measure => omega
                  case rel => exact ⟨j + 1, bA, bn, bc, L ++ [⟨3, m[j].p, vA, vc, m[j].bs⟩], by omega, rfl, by go_num, hmk7, by simp; omega, by rw [HN.out, List.map_append, hL.out, HNW.out]; simp [StI.abs, Itm.abs]⟩
              · rw [hd] at y1
                have HNW := newA_dir (y := m[j].abs) hd
                replace HNW := hid HNW
                obtain ⟨hc1, hc2⟩ := st_bound (s := dirS m[j].p) (L := L) (by omega)
                have hbd := thenA (Below.refl _ wc) (.cells #[.int .i64 2, .string m[j].p, .slice none 0 0] 35 (0, 0))
                have hmk6 := hmk5.later hbd
                have hsi := Src.rec st_len (w := wc.alloc (.cells (dirS m[j].p).cells.toArray 35)) (b := wc.heap.size) (dirS m[j].p) (heap_alloc_new wc _)
                clear hd
                go_wp2_with (at_builtin; refine wpList_append_row _ rfl _ _ 25 rfl 35 ti (.agg #[.int .i64 0, .string ByteArray.empty, .slice none 0 0]) 3 48 Tryd.underlying25 hi0 hz0 hz1 hz2 rfl (by decide) (.slice oA on oc) (L.flatMap StI.cells) rfl (by exact hmk6.row) (.slice (some ⟨wc.heap.size, 0, none⟩) 1 1) (dirS m[j].p).cells rfl hsi (st_one _) hc1 hc2 ?_; intro bA bn bc w7 hr7 hg7 ha7; have q7 := hmk6.boxed hg7; have qc : w7.cell? ⟨w.heap.size, 0, none⟩ = some (.slice oA on oc) := (blkCell q7 0).trans rfl; have qf := blkFree q7 0)
                have hmk7 := hmk6.grown hg7 hr7 ha7 (dirS_row _ hsz)
                go_roundg (m.length - (j + 1))
                case measure => omega
                case rel => exact ⟨j + 1, bA, bn, bc, L ++ [dirS m[j].p], by omega, rfl, by go_num, hmk7, by simp; omega, by rw [HN.out, List.map_append, hL.out, HNW.out]; simp [dirS, StI.abs, Itm.abs]⟩
            · go_wp2_with fail
              go_roundg (m.length - (j + 1))
              case measure => omega
              case rel => exact ⟨j + 1, oA, on, oc, L, by omega, rfl, by go_num, hmk5, by omega, by rw [HN.out, hL.out]; simp⟩
      · obtain rfl : j = m.length := by omega
        have c5 := hmk.dfr
        have k0 : wr.cell? ⟨w.heap.size, 0, none⟩ = some (.slice oA on oc) := (blkCell hmk.box 0).trans rfl
        have kf := blkFree hmk.box 0
        have HMK := hid hmk
        clear hmk HK HH
        go_wp2_with fail
        have hK := (Below.heap_setCell wr ⟨w.heap.size, 0, none⟩ (.slice oA on oc) D (by rintro rfl; have h1 := HMK.out.box; rw [c5] at h1; cases h1)).trans c5
        have hc1 := (World.cell?_setCell_same' wr ⟨w.heap.size, 0, none⟩ (.slice oA on oc) (by rw [k0]; rfl))
        refine ⟨by simp, .inl ⟨_, _, rfl, run_takeDeferred hK, ?_⟩⟩
        have hc5 := cell_kept hc1 (grownBy_putObj' _ D (.deferred none)) (fun r e => by cases e; exact ⟨_, hK, rfl⟩)
        obtain ⟨hcount, hst⟩ := Sts.ofRow HMK.out.row (fun s hs => (HMK.out.goods s hs).good) (by omega)
        have hrs := hst.recs
        have hb9 := HMK.out.below.setCell (p := ⟨w.heap.size, 0, none⟩) (Nat.le_refl _) (.slice oA on oc)
        have hmk8 : MK w M D ks oA on oc L (wr.setCell ⟨w.heap.size, 0, none⟩ (.slice oA on oc)) := by
          have e0 : ∀ k, k ≠ w.heap.size → (wr.setCell ⟨w.heap.size, 0, none⟩ (.slice oA on oc)).heap[k]? = wr.heap[k]? := fun k hk => Below.heap_setCell wr _ _ k hk
          have h0 := HMK.out
          have hbx := blkSet h0.box 0 (.slice oA on oc)
          obtain ⟨es, cl, hso⟩ := h0.set.obj
          refine ⟨by simpa using hbx, h0.row.keep fun k hk => e0 k (by rintro rfl; exact h0.row.neBlk h0.box (by decide) hk), h0.fresh, h0.set.same (e0 _ (by rintro rfl; rw [h0.box] at hso; cases hso)), hK, fun s hs => ⟨(h0.goods s hs).size, (h0.goods s hs).len, (h0.goods s hs).row.keep fun k hk => e0 k (by rintro rfl; exact (h0.goods s hs).row.neBlk h0.box (by decide) hk), (h0.goods s hs).rng⟩, hb9⟩
        have hdn : ∀ k, k ≠ D → ((wr.setCell ⟨w.heap.size, 0, none⟩ (.slice oA on oc)).putObj D (.deferred none)).heap[k]? = (wr.setCell ⟨w.heap.size, 0, none⟩ (.slice oA on oc)).heap[k]? := fun k hk => World.putObj_heap_other hk
        generalize wr.setCell ⟨w.heap.size, 0, none⟩ (.slice oA on oc) = W9 at *
        subst hcount
        have hfin : Sts (W9.putObj D (.deferred none)) oA oc L := by
          obtain ⟨_, h1⟩ := Sts.ofRow (w := W9.putObj D (.deferred none)) (hmk8.row.keep fun k hk => hdn k (by rintro rfl; exact hmk8.row.neObj hK (by simp) hk)) (fun s hs => ⟨(hmk8.goods s hs).size, (hmk8.goods s hs).len, ((hmk8.goods s hs).row.keep fun k hk => hdn k (by rintro rfl; exact (hmk8.goods s hs).row.neObj hK (by simp) hk)).src, (hmk8.goods s hs).rng⟩) (by omega)
          exact h1
        refine ⟨.tuple #[.slice oA L.length oc, .int .i64 0], ?_, ⟨oA, oc, L, rfl, hfin, ?_⟩, ⟨hb9.os, hb9.tape, hb9.output, by simpa using hb9.size, fun k hk => (hdn k (by omega)).trans (hb9.block k hk)⟩⟩
        · simp [results, go_sem, hc5]
        · rw [hL.out, HMA.out, HALL.out, List.take_of_length_le (by simp)]

end Go.Proofs.YtheccdidfkcbbaaDoor
