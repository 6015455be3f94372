/- PlanDoes: the walk -/
import Derived.Test.YtheccdidfkcbbaaDoorG9
import Derived.Test.YtheccdidfkcbbaaDoorU
import Derived.Test.YtheccdidfkcbbaaDoorB7
import Derived.WalkLawsBesides
import Derived.Deep.CutRange
import Derived.Deep.RegionLaw
namespace Go.Proofs.YtheccdidfkcbbaaDoor
open Go.RowKit Go.Deep Go.ChangeShapes Go.WideShapes Go.ChangeAt

/-- steps that came in -/
structure StsQ (w : World) (A : Option Addr) (c : Nat) (l : List StI) : Prop where
  recs : Recs StI.cells 3 w A c l
  at_ : ∀ s ∈ l, Src w 1 (.slice s.bA s.bs.length s.bc) (nums s.bs) ∧ ∀ b ∈ s.bs, 0 ≤ b ∧ b < 256
theorem StsQ.sts {w : World} {A : Option Addr} {c : Nat} {l : List StI} {n : Nat} (h : StsQ w A c l) (hl : stsB l n = true) (hn : n ≤ 1000) : Sts w A c l := by
  unfold stsB at hl
  rw [Bool.and_eq_true] at hl
  have h1 := of_decide_eq_true hl.1
  refine ⟨h.recs, by omega, fun s hs => ?_⟩
  have h2 := List.all_eq_true.1 hl.2 s hs
  unfold stB at h2
  simp only [Bool.and_eq_true, decide_eq_true_eq] at h2
  exact ⟨by omega, by omega, (h.at_ s hs).1, (h.at_ s hs).2⟩
theorem open_step {H : Type} {enc : TypeId × Value → H} {W : World} {base : Nat} {held : Bool} (fuel : Nat) (cs : List Value) (x : DataW H × List MemPlace) (h : DataW.trod enc Tryd.prog W base (fun _ => true) held fuel 52 cs = some x) :
    ∃ s : StI, cs = s.cells ∧ (Src W 1 (.slice s.bA s.bs.length s.bc) (nums s.bs) ∧ ∀ b ∈ s.bs, 0 ≤ b ∧ b < 256) := by
  obtain ⟨y0, y1, y2, n, hl, f0, f1, f2⟩ := trod_struct3 Tryd.underlying52 h
  have hc : Tryd.prog.cellsOf 52 = 3 := by kernel_rfl
  have h3 : Tryd.prog.cellsOf 3 = 1 := by kernel_rfl
  have h9 : Tryd.prog.cellsOf 9 = 1 := by kernel_rfl
  have h28 : Tryd.prog.cellsOf 29 = 1 := by kernel_rfl
  rw [hc] at hl
  obtain ⟨v0, v1, v2, rfl⟩ := list3 hl
  simp only [h3, h9, h28, List.drop_zero, List.drop_succ_cons, List.take_succ_cons, List.take_zero] at f0 f1 f2
  obtain ⟨k, e0, _⟩ := DataW.trod_int Tryd.underlying3 f0
  obtain ⟨s, e1, _, _⟩ := DataW.trod_string Tryd.underlying9 f1
  obtain ⟨A, c, bs, e2, hs, hr⟩ := open_u8s f2
  cases e0; cases e1; cases e2
  exact ⟨⟨k, s, A, c, bs⟩, rfl, hs, hr⟩
theorem open_steps {H : Type} {enc : TypeId × Value → H} {W : World} {base : Nat} {held : Bool} {fuel : Nat} {a : Option Addr} {len cap : Nat} {x : DataW H × List MemPlace}
    (h : DataW.trod enc Tryd.prog W base (fun _ => true) held fuel 45 [.slice a len cap] = some x) : ∃ l : List StI, l.length = len ∧ StsQ W a cap l := by
  obtain ⟨l, h1, h2, h3⟩ := open_recs st_len (by omega) Tryd.underlying45 (by kernel_rfl) (fun fuel cs x h => open_step fuel cs x h) h
  exact ⟨l, h1, h2, h3⟩
theorem cost_light {l : List StI} {n : Nat} (h : stsB l n = true) : costA (l.map StI.abs) ≤ n * 2100 := by
  unfold stsB at h
  rw [Bool.and_eq_true] at h
  have h1 := of_decide_eq_true h.1
  have h2 := h.2
  clear h
  have key : ∀ l : List StI, l.all stB = true → costA (l.map StI.abs) ≤ l.length * 2100 := by
    intro l
    induction l with
    | nil => intro _; exact Nat.zero_le _
    | cons x r ih =>
      intro h
      rw [List.all_cons, Bool.and_eq_true] at h
      have h3 := ih h.2
      have h4 := h.1
      unfold stB at h4
      simp only [Bool.and_eq_true, decide_eq_true_eq] at h4
      unfold costA at h3 ⊢
      simp only [List.map_cons, List.sum_cons, List.length_cons]
      show x.bs.length + _ ≤ _
      omega
  exact Nat.le_trans (key l h2) (Nat.mul_le_mul_right _ h1)
theorem right_kind {s : StA} (h : stRight s = true) : s.k = 1 ∨ s.k = 2 ∨ s.k = 3 := by
  unfold stRight at h
  simp only [Bool.and_eq_true, decide_eq_true_eq] at h
  omega
theorem bel_same {B : Nat} {w a b : World} (h : Below B w a) (h1 : b.os = a.os) (h2 : b.tape = a.tape) (h3 : b.output = a.output) (h4 : b.heap = a.heap) : Below B w b := ⟨h1.trans h.os, h2.trans h.tape, h3.trans h.output, by rw [h4]; exact h.size, by rw [h4]; exact h.block⟩

set_option maxRecDepth 100000 in
set_option maxHeartbeats 64000000 in
theorem plandoes_walk (A : Option Addr) (c : Nat) (l : List Itm) (B : Option Addr) (d : Nat) (m : List StI) (w : World) (hT : TrQ w A c l) (hU : StsQ w B d m) :
    Calls Tryd.prog 5 #[.slice A l.length c, .slice B m.length d] w fun e w' => e = .returned (.bool true) ∧ Below w.heap.size w w' := by
  have HA := hid alive24_walk
  have HL := hid (light1 A c l w hT)
  have hb0 := thenA (Below.refl _ w) (.cells #[.slice A l.length c] 22 (0, 0))
  have HL2 : HidP (Calls Tryd.prog 16 #[.slice B m.length d, .int .i64 20] (w.alloc (.cells #[.slice A l.length c] 22 (0, 0))) fun e w' => e = .returned (.bool (stsB m 20)) ∧ (w.alloc (.cells #[.slice A l.length c] 22 (0, 0))) = w') := hid (light24_walk B d m 20 _ (hU.recs.below hb0) (by omega))
  cases hv : lightB l 62
  · rw [hv] at HL
    clear hv hT hU
    go_enter Tryd.func5, Tryd.ntmps5
    go_wp2_with fail
    refine HL.out.mono ?_
    rintro e w1 ⟨rfl, rfl⟩
    go_wp2_with fail
    refine (HA.out _).mono ?_
    rintro e w2 ⟨rfl, hb2⟩
    have hb3 := thenB hb0 hb2
    go_wp2_with fail
    go_ret
    exact ⟨rfl, hb3⟩
  rw [hv] at HL
  cases hv2 : stsB m 20
  · rw [hv2] at HL2
    clear hv hv2 hT hU
    go_enter Tryd.func5, Tryd.ntmps5
    go_wp2_with fail
    refine HL.out.mono ?_
    rintro e w1 ⟨rfl, rfl⟩
    go_wp2_with fail
    refine HL2.out.mono ?_
    rintro e w1 ⟨rfl, rfl⟩
    go_wp2_with fail
    refine (HA.out _).mono ?_
    rintro e w2 ⟨rfl, hb2⟩
    have hb3 := thenB hb0 hb2
    go_wp2_with fail
    go_ret
    exact ⟨rfl, hb3⟩
  rw [hv2] at HL2
  have hl := hT.tr hv (by omega)
  have hm := hU.sts hv2 (by omega)
  have hcb := cost_light hv2
  have hm20 : m.length ≤ 20 := by unfold stsB at hv2; rw [Bool.and_eq_true] at hv2; exact of_decide_eq_true hv2.1
  have HCB := hid hcb
  have HLT := hid hl
  have HST := hid hm
  have hl1 := hl.max
  have hm1 := hm.max
  have HOWN := hid (fun W (hW : Below w.heap.size w W) => own24_walk B d m W (hm.below hW))
  clear hv hv2 hT hU hl hm hcb
  go_enter Tryd.func5, Tryd.ntmps5
  go_wp2_with fail
  refine HL.out.mono ?_
  rintro e w1 ⟨rfl, rfl⟩
  go_wp2_with fail
  refine HL2.out.mono ?_
  rintro e w1 ⟨rfl, rfl⟩
  go_wp2_with fail
  refine (HOWN.out _ hb0).mono ?_
  rintro e w1 ⟨⟨oB, od, rfl, hso⟩, hb1⟩
  have hb2 := thenB hb0 hb1
  have HLN := hid (lines_walk oB od m w1 hso)
  clear hso
  go_wp2_with fail
  refine HLN.out.mono ?_
  rintro e w2 ⟨⟨pB, pd, ps, rfl, hrow, hps⟩, hb3⟩
  have hb4 := thenB hb2 hb3
  have hpl : ps.length = m.length := by have := congrArg List.length hps; simpa using this
  have HPL : HidP (∀ j (hj : j < m.length) (hj2 : j < ps.length), ps[j].toList = lineA m[j].abs) := hid (fun j hj hj2 => by
    have h1 := congrArg (fun z => z[j]?) hps
    simp only [List.getElem?_map, List.getElem?_eq_getElem hj, List.getElem?_eq_getElem hj2, Option.map_some, Option.some.injEq] at h1
    exact h1)
  have HROW := hid hrow
  have HPE := hid hpl
  rw [hpl]
  clear hps hrow hpl
  go_wp2_with fail
  go_loopg [5, 7] m.length (fun k n i wr => ∃ j : Nat, j ≤ m.length ∧ k = m.length - j ∧ i = .int .i64 j ∧ n = .int .i64 (costA ((m.map StI.abs).take j)) ∧ Below w2.heap.size w2 wr)
  case atStart => exact ⟨0, Nat.zero_le _, rfl, rfl, rfl, Below.refl _ _⟩
  case round =>
    obtain ⟨j, hj, rfl, rfl, rfl, hbr⟩ := hrel
    have hbw := thenB hb4 hbr
    by_cases hlt : j < m.length
    · have i0 : (0 : Int) ≤ (j : Int) := by omega
      have i1 : (j : Int) < (m.length : Int) := by omega
      have i2 : (j : Int) < (ps.length : Int) := by have := HPE.out; omega
      have hn : costA ((m.map StI.abs).take (j + 1)) = costA ((m.map StI.abs).take j) + m[j].bs.length := by
        unfold costA
        rw [List.take_add_one, List.map_append, List.sum_append]
        simp [hlt, StI.abs]
      have hle : costA ((m.map StI.abs).take (j + 1)) ≤ costA (m.map StI.abs) := by
        unfold costA
        conv => rhs; rw [← List.take_append_drop (j + 1) (m.map StI.abs), List.map_append, List.sum_append]
        omega
      have hcb := HCB.out
      have HN := hid hn
      have hbd : costA ((m.map StI.abs).take j) + m[j].bs.length ≤ 42000 := by omega
      clear hn hle hcb
      obtain ⟨b, off, hA, c0, c1, c2, hg⟩ := (HST.out.below hbw).at hlt
      have hsz := hg.size
      subst hA
      clear hg
      go_wp2_with fail
      refine (HOWN.out _ hbw).mono ?_
      rintro e w3 ⟨⟨oB, od, rfl, hso⟩, hb5⟩
      obtain ⟨ob, oo, hoA, o0, o1, o2, hog⟩ := hso.at hlt
      subst hoA
      have hb6 := thenB hbw hb5
      have HDO := hid (stdo_walk A c l m[j] w3 (HLT.out.below hb6) hog)
      have c0' := cellB hb5 c0
      have c1' := cellB hb5 c1
      have c2' := cellB hb5 c2
      clear hso hog c0 c1 c2
      go_wp2_with fail
      refine HDO.out.mono ?_
      rintro e w4 ⟨⟨aA, ac, a1, f, rfl, ha, hae⟩, hb7⟩
      replace hae := hid hae
      have hb8 := thenB hb6 hb7
      have c0 := cellB hb7 c0'
      have c1 := cellB hb7 c1'
      have c2 := cellB hb7 c2'
      have HRD := hid (refstdo A c l m[j] w4 (HLT.out.below hb8) ((HST.out.below hb8).at hlt).choose_spec.choose_spec.2.2.2.2)
      have HAA := hid ha
      clear HDO ha c0' c1' c2' o0 o1 o2
      go_wp2_with fail
      refine HRD.out.mono ?_
      rintro e w5 ⟨⟨bA, bc, b1, g, rfl, hbt, hbe⟩, hb9⟩
      obtain ⟨hab, rfl⟩ := Prod.mk.inj (hae.out.trans hbe.symm)
      have hb10 := thenB hb8 hb9
      have hbr5 := thenB hbr (thenB (thenB hb5 hb7) hb9)
      have q0 := cellB hb9 c0
      have q1 := cellB hb9 c1
      have q2 := cellB hb9 c2
      have HG5 := hid ((HST.out.below hb10).at hlt).choose_spec.choose_spec.2.2.2.2
      have HS5 : HidP (∀ W, Below w5.heap.size w5 W → Calls Tryd.prog 15 #[.slice aA a1.length ac, .slice bA b1.length bc] W fun e w' => e = .returned (.bool true) ∧ Below w5.heap.size w5 w' ∧ Below W.heap.size W w') := hid (fun W hW => by
        have h1 := refsame aA bA ac bc a1 b1 W ((HAA.out.below hb9).below hW) (hbt.below hW)
        rw [show sameL a1 b1 = true by unfold sameL; exact decide_eq_true hab] at h1
        exact h1.mono fun e w' ⟨h2, h3⟩ => ⟨h2, thenB hW h3, h3⟩)
      have HO5 : HidP (∀ W, Below w5.heap.size w5 W → Calls Tryd.prog 18 #[.slice (some ⟨b, off, none⟩) m.length d] W fun e w' => (∃ (B : Option Addr) (d : Nat), e = .returned (.slice B m.length d) ∧ Sts w' B d m) ∧ Below w5.heap.size w5 w' ∧ Below W.heap.size W w') := hid (fun W hW => (HOWN.out W (thenB hb10 hW)).mono fun e w' ⟨h2, h3⟩ => ⟨h2, thenB hW h3, h3⟩)
      have HR5 : HidP (∀ W, Below w5.heap.size w5 W → Calls Tryd.prog 20 #[.agg #[.int .i64 m[j].k, .string m[j].p, .slice m[j].bA m[j].bs.length m[j].bc]] W fun e w' => e = .returned (.bool (stRight m[j].abs)) ∧ Below w5.heap.size w5 w' ∧ Below W.heap.size W w') := hid (fun W hW => (stright_walk m[j] W (HG5.out.below hW)).mono fun e w' ⟨h2, h3⟩ => ⟨h2, thenB hW h3, h3⟩)
      have HQ5 : HidP (∀ W, Below w5.heap.size w5 W → Calls Tryd.prog 21 #[.agg #[.int .i64 m[j].k, .string m[j].p, .slice m[j].bA m[j].bs.length m[j].bc]] W fun e w' => e = .returned (.bool (stRight m[j].abs)) ∧ Below w5.heap.size w5 w' ∧ Below W.heap.size W w') := hid (fun W hW => (refstright m[j] W (HG5.out.below hW)).mono fun e w' ⟨h2, h3⟩ => ⟨h2, thenB hW h3, h3⟩)
      clear HRD hbt hbe hab c0 c1 c2
      go_upto_region 12 with fail
      go_cut [84] from 37 to 122 (fun v wx => v = .bool false ∧ Below w5.heap.size w5 wx)
      case first =>
        obtain ⟨R, hR⟩ : ∃ R, stRight m[j].abs = R := ⟨_, rfl⟩
        rw [hR] at HR5 HQ5
        have hbc := Below.refl w5.heap.size w5
        clear hR
        go_region_law (first | (refine step_call (by rfl) 18 _ _ (by rfl) Tryd.func18 (by kernel_rfl) (by kernel_rfl) [.slice (some ⟨b, off, none⟩) m.length d] (by rfl) (HO5.out _ (by exact bel_same hbc rfl rfl rfl rfl)) ?_; rintro e wo ⟨⟨oB, od, rfl, hso⟩, hbn, hrl⟩; obtain ⟨ob, oo, hoA, o0, o1, o2, hog⟩ := hso.at hlt; subst hoA; replace hbc := hbn; have r0 := cellB hbn q0; have r1 := cellB hbn q1; have r2 := cellB hbn q2; clear hso hog hbn hrl; refine ⟨_, rfl, ?_⟩) | (refine step_call (by rfl) 20 _ _ (by rfl) Tryd.func20 (by kernel_rfl) (by kernel_rfl) [.agg #[.int .i64 m[j].k, .string m[j].p, .slice m[j].bA m[j].bs.length m[j].bc]] (by rfl) (HR5.out _ (by exact bel_same hbc rfl rfl rfl rfl)) ?_; rintro e wo ⟨rfl, hbn, hrl⟩; replace hbc := hbn; have r0 := cellB hbn q0; have r1 := cellB hbn q1; have r2 := cellB hbn q2; clear hbn hrl; refine ⟨_, rfl, ?_⟩) | (refine step_call (by rfl) 21 _ _ (by rfl) Tryd.func21 (by kernel_rfl) (by kernel_rfl) [.agg #[.int .i64 m[j].k, .string m[j].p, .slice m[j].bA m[j].bs.length m[j].bc]] (by rfl) (HQ5.out _ (by exact bel_same hbc rfl rfl rfl rfl)) ?_; rintro e wo ⟨rfl, hbn, hrl⟩; replace hbc := hbn; have r0 := cellB hbn q0; have r1 := cellB hbn q1; have r2 := cellB hbn q2; (try have o0 := cellB hrl o0); (try have o1 := cellB hrl o1); (try have o2 := cellB hrl o2); clear hbn hrl; refine ⟨_, rfl, ?_⟩) | (refine step_callG 15 _ _ (by rfl) (by rfl) Tryd.func15 (by kernel_rfl) (by kernel_rfl) [.slice aA a1.length ac, .slice bA b1.length bc] (by rfl) (HS5.out _ (by exact bel_same hbc rfl rfl rfl rfl)) ?_; rintro e wo ⟨rfl, hbn, hrl⟩; replace hbc := hbn; clear hbn hrl; refine ⟨_, rfl, ?_⟩) | fail)
        all_goals
          go_wp2_with fail
          go_meet
          case rel => exact ⟨by simp, hbc⟩

      case rest =>
        obtain ⟨rfl, hb11⟩ := hcut
        have hbr6 := thenB hbr5 hb11
        have hjp : j < ps.length := by have := HPE.out; omega
        obtain ⟨la, hA, l0⟩ := HROW.out.at1 (i := j) (u := .string ps[j]) (by rw [List.getElem?_map, List.getElem?_eq_getElem hjp]; rfl)
        have hsp : la.spot = none := by
          obtain ⟨A', n', c', hv, _, _, _, hh⟩ := HROW.out
          cases hv
          rcases hh with ⟨h, _⟩ | ⟨b, off, cs, h, _⟩
          · rw [hA] at h; cases h
          · rw [hA] at h; cases h; rfl
        obtain ⟨lb, lo, sp⟩ := la
        simp only at hsp
        subst hsp
        subst hA
        rw [add_lit'] at l0
        have l1 := under_cell (cellB hbr6 l0)
        have u0 := under_cell (cellB hb11 q0)
        have u1 := under_cell (cellB hb11 q1)
        have u2 := under_cell (cellB hb11 q2)
        have r0 := cellB hb11 q0
        have r2 := cellB hb11 q2
        have HRR := hid (fun W => under_call (refstright m[j] (under wc W) ((HG5.out.below hb11).below (under_below wc W))))
        have HK := hid (right_kind (s := m[j].abs))
        clear l0 q0 q1 q2
        generalize hCA : costA ((m.map StI.abs).take j) = CA at *
        clear hCA
        by_cases h1 : m[j].k = 1
        · have g1 : (m[j].k == 1) = true := by simp [h1]
          have hwd : wordA m[j].k = [45, 32] := by unfold wordA; rw [if_pos h1]
          clear h1
          have hadd := fun W => run_string_add_sum (P := Tryd.prog) W ⟨#[45, 32]⟩ m[j].p (by show (2 : Nat) + m[j].p.size ≤ _; omega)
          have hcmp : (ps[j].toList == ((⟨#[45, 32]⟩ : ByteArray) ++ m[j].p).toList) = true := by
            rw [HPL.out j hlt hjp, app_toList, toList_lit]
            unfold lineA
            rw [show m[j].abs.k = m[j].k from rfl, hwd]
            simp [StI.abs]
          have hcmp2 : (ps[j].toList != ((⟨#[45, 32]⟩ : ByteArray) ++ m[j].p).toList) = false := by rw [bne, hcmp]; rfl
          clear hwd
          go_wp2_with fail
          cases hr : stRight m[j].abs
          · rw [hr] at HRR
            clear hr
            refine wp_region_under (by kernel_rfl) (by kernel_rfl) ?_
            repeat (go_big_quiet_step (with_reducible exact HRR.out _))
            refine wpQuiet_nil ?_
            intro _ hw'
            obtain ⟨Wq, hw''⟩ := hw'
            subst hw''
            have hbZ := thenB hbr6 (under_below wc Wq)
            go_wp2_with fail
            go_roundg (m.length - (j + 1))
            case measure => omega
            case rel => exact ⟨j + 1, by omega, rfl, by go_num, by rw [HN.out]; go_num, hbZ⟩
          · rw [hr] at HRR
            clear hr
            refine wp_region_under (by kernel_rfl) (by kernel_rfl) ?_
            repeat (go_big_quiet_step (with_reducible exact HRR.out _))
            refine wpQuiet_nil ?_
            intro _ hw'
            obtain ⟨Wq, hw''⟩ := hw'
            subst hw''
            have hbZ := thenB hbr6 (under_below wc Wq)
            go_wp2_with fail
            go_roundg (m.length - (j + 1))
            case measure => omega
            case rel => exact ⟨j + 1, by omega, rfl, by go_num, by rw [HN.out]; go_num, hbZ⟩
        have g1 : (m[j].k == 1) = false := by simp [h1]
        by_cases h2 : m[j].k = 2
        · have g2 : (m[j].k == 2) = true := by simp [h2]
          have hwd : wordA m[j].k = [100, 32] := by unfold wordA; rw [if_neg h1, if_pos h2]
          clear h1 h2
          have hadd := fun W => run_string_add_sum (P := Tryd.prog) W ⟨#[100, 32]⟩ m[j].p (by show (2 : Nat) + m[j].p.size ≤ _; omega)
          have hcmp : (ps[j].toList == ((⟨#[100, 32]⟩ : ByteArray) ++ m[j].p).toList) = true := by
            rw [HPL.out j hlt hjp, app_toList, toList_lit]
            unfold lineA
            rw [show m[j].abs.k = m[j].k from rfl, hwd]
            simp [StI.abs]
          have hcmp2 : (ps[j].toList != ((⟨#[100, 32]⟩ : ByteArray) ++ m[j].p).toList) = false := by rw [bne, hcmp]; rfl
          clear hwd
          go_wp2_with fail
          cases hr : stRight m[j].abs
          · rw [hr] at HRR
            clear hr
            refine wp_region_under (by kernel_rfl) (by kernel_rfl) ?_
            repeat (go_big_quiet_step (with_reducible exact HRR.out _))
            refine wpQuiet_nil ?_
            intro _ hw'
            obtain ⟨Wq, hw''⟩ := hw'
            subst hw''
            have hbZ := thenB hbr6 (under_below wc Wq)
            go_wp2_with fail
            go_roundg (m.length - (j + 1))
            case measure => omega
            case rel => exact ⟨j + 1, by omega, rfl, by go_num, by rw [HN.out]; go_num, hbZ⟩
          · rw [hr] at HRR
            clear hr
            refine wp_region_under (by kernel_rfl) (by kernel_rfl) ?_
            repeat (go_big_quiet_step (with_reducible exact HRR.out _))
            refine wpQuiet_nil ?_
            intro _ hw'
            obtain ⟨Wq, hw''⟩ := hw'
            subst hw''
            have hbZ := thenB hbr6 (under_below wc Wq)
            go_wp2_with fail
            go_roundg (m.length - (j + 1))
            case measure => omega
            case rel => exact ⟨j + 1, by omega, rfl, by go_num, by rw [HN.out]; go_num, hbZ⟩
        have g2 : (m[j].k == 2) = false := by simp [h2]
        by_cases h3 : m[j].k = 3
        · have g3 : (m[j].k == 3) = true := by simp [h3]
          have hwd : wordA m[j].k = [102, 32] := by unfold wordA; rw [if_neg h1, if_neg h2, if_pos h3]
          clear h1 h2 h3
          have hadd := fun W => run_string_add_sum (P := Tryd.prog) W ⟨#[102, 32]⟩ m[j].p (by show (2 : Nat) + m[j].p.size ≤ _; omega)
          have hcmp : (ps[j].toList == ((⟨#[102, 32]⟩ : ByteArray) ++ m[j].p).toList) = true := by
            rw [HPL.out j hlt hjp, app_toList, toList_lit]
            unfold lineA
            rw [show m[j].abs.k = m[j].k from rfl, hwd]
            simp [StI.abs]
          have hcmp2 : (ps[j].toList != ((⟨#[102, 32]⟩ : ByteArray) ++ m[j].p).toList) = false := by rw [bne, hcmp]; rfl
          clear hwd
          go_wp2_with fail
          cases hr : stRight m[j].abs
          · rw [hr] at HRR
            clear hr
            refine wp_region_under (by kernel_rfl) (by kernel_rfl) ?_
            repeat (go_big_quiet_step (with_reducible exact HRR.out _))
            refine wpQuiet_nil ?_
            intro _ hw'
            obtain ⟨Wq, hw''⟩ := hw'
            subst hw''
            have hbZ := thenB hbr6 (under_below wc Wq)
            go_wp2_with fail
            go_roundg (m.length - (j + 1))
            case measure => omega
            case rel => exact ⟨j + 1, by omega, rfl, by go_num, by rw [HN.out]; go_num, hbZ⟩
          · rw [hr] at HRR
            clear hr
            refine wp_region_under (by kernel_rfl) (by kernel_rfl) ?_
            repeat (go_big_quiet_step (with_reducible exact HRR.out _))
            refine wpQuiet_nil ?_
            intro _ hw'
            obtain ⟨Wq, hw''⟩ := hw'
            subst hw''
            have hbZ := thenB hbr6 (under_below wc Wq)
            go_wp2_with fail
            go_roundg (m.length - (j + 1))
            case measure => omega
            case rel => exact ⟨j + 1, by omega, rfl, by go_num, by rw [HN.out]; go_num, hbZ⟩
        have g3 : (m[j].k == 3) = false := by simp [h3]
        have hr : stRight m[j].abs = false := by
          cases hr : stRight m[j].abs
          · rfl
          · rcases HK.out hr with h | h | h
            · exact absurd h h1
            · exact absurd h h2
            · exact absurd h h3
        clear h1 h2 h3
        go_wp2_with fail
        rw [hr] at HRR
        clear hr
        refine wp_region_under (by kernel_rfl) (by kernel_rfl) ?_
        repeat (go_big_quiet_step (with_reducible exact HRR.out _))
        refine wpQuiet_nil ?_
        intro _ hw'
        obtain ⟨Wq, hw''⟩ := hw'
        subst hw''
        have hbZ := thenB hbr6 (under_below wc Wq)
        go_wp2_with fail
        go_roundg (m.length - (j + 1))
        case measure => omega
        case rel => exact ⟨j + 1, by omega, rfl, by go_num, by rw [HN.out]; go_num, hbZ⟩
    · obtain rfl : j = m.length := by omega
      rw [List.take_of_length_le (by simp)]
      have hcb := HCB.out
      go_wp2_with fail
      refine (HOWN.out _ hbw).mono ?_
      rintro e w3 ⟨⟨oB, od, rfl, hso⟩, hb5⟩
      have hb6 := thenB hbw hb5
      have HRN := hid (strun_walk A c l oB od m w3 (HLT.out.below hb6) hso)
      clear hso
      go_wp2_with fail
      refine HRN.out.mono ?_
      rintro e w4 ⟨⟨aA, ac, a1, n, f, rfl, ha, hae⟩, hb7⟩
      replace hae := hid hae
      have hb8 := thenB hb6 hb7
      have HRF := hid (refstrun A c l B d m w4 (HLT.out.below hb8) (HST.out.below hb8))
      have HAA := hid ha
      clear ha HRN
      go_wp2_with fail
      refine HRF.out.mono ?_
      rintro e w5 ⟨⟨bA, bc, b1, n', f', rfl, hbt, hbe⟩, hb9⟩
      have hall := hae.out.trans hbe.symm
      obtain ⟨hab, h2⟩ := Prod.mk.inj hall
      obtain ⟨rfl, rfl⟩ := Prod.mk.inj h2
      have hb10 := thenB hb8 hb9
      have HS5 : HidP (Calls Tryd.prog 15 #[.slice aA a1.length ac, .slice bA b1.length bc] w5 fun e w' => e = .returned (.bool true) ∧ Below w5.heap.size w5 w') := hid (by
        have h1 := refsame aA bA ac bc a1 b1 w5 (HAA.out.below hb9) hbt
        rw [show sameL a1 b1 = true by unfold sameL; exact decide_eq_true hab] at h1
        exact h1)
      clear HRF hbt hbe hall hab h2
      go_wp2_with fail
      refine HS5.out.mono ?_
      rintro e w6 ⟨rfl, hb11⟩
      have hb12 := thenB hb10 hb11
      go_wp2_with fail
      refine (HOWN.out _ hb12).mono ?_
      rintro e w7 ⟨⟨pB', pd', rfl, hso⟩, hb13⟩
      have hb14 := thenB hb12 hb13
      have HCW := hid (cost_walk pB' pd' m w7 hso (by omega))
      clear hso
      go_wp2_with fail
      refine HCW.out.mono ?_
      rintro e w8 ⟨rfl, hb15⟩
      have hb16 := thenB hb14 hb15
      go_wp2_with fail
      refine (HA.out _).mono ?_
      rintro e w9 ⟨rfl, hb17⟩
      have hb18 := thenB hb16 hb17
      go_wp2_with fail
      go_ret
      exact ⟨rfl, hb18⟩

end Go.Proofs.YtheccdidfkcbbaaDoor
