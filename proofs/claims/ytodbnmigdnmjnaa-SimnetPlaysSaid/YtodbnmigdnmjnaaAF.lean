/- SimnetPlays: the walk where both nets are there -/
import Derived.Test.YtodbnmigdnmjnaaAE
namespace Go.Proofs.Ytodbnmigdnmjnaa
open Go.RowKit
set_option linter.unusedSimpArgs false

section
variable {P : Program} {ops : Array Oper} {Q' : Exit → Act → World → Prop} {md : Region.Mode} {T S C : World → Prop} {M : List Nat}
theorem noM_keep {listed : Array Bool} {i : Nat} (h : noM M listed = false) : noM M (listed.setIfInBounds i true) = false := by
  unfold noM at *
  rw [← Bool.not_eq_true, List.all_eq_true] at *
  intro hall
  refine h fun m hm => ?_
  have := hall m hm
  by_cases him : i = m
  · subst him
    by_cases hs : i < listed.size
    · simp [Array.getD, hs] at this
    · simp [Array.getD, hs]
  · rwa [getD_set_ne false him] at this
/-- behind the last of M: what is left only reads -/
theorem anyF_of_quiet {Q : Act → Prop} (hQ : ∀ a w, C w → Q a → Q' .normal a w) (hT : ∀ w, C w → T w) : ∀ (fuel : Nat) (listed : Array Bool) (a : Act) (w : World), C w → noM M listed = false →
    wpAnyQ P md ops C Q fuel listed a → anyF P md ops Q' T S M fuel listed a w
  | 0, _, _, _, hw, _, h => ⟨h.1, hQ _ _ hw h.2⟩
  | fuel + 1, _, _, _, hw, hM, h => ⟨fun h0 => hQ _ _ hw (h.1 h0), fun i hi => wpOp_of_qOp hw (fun a' w' hw' hh => ⟨⟨hT w' hw', fun hc => by rw [noM_keep hM] at hc; cases hc⟩, anyF_of_quiet hQ hT fuel _ a' w' hw' (noM_keep hM) hh⟩) (h.2 i hi)⟩
theorem lex_drop (L : List Oper) (k : Nat) : ∀ j, (L.drop k)[j]? = L.toArray[k + j]? := fun j => by simp
end

theorem play_start (room : Int) (w0 w1 : World) (h1 : 1 ≤ room) (h2 : room ≤ 1000) (hp : PN w1 (· < w0.heap.size) w0.heap.size room (fun _ => .slice none 0 0) false 0 0 (fun _ => []) (fun _ => [])) (hk : Keep (· < w0.heap.size) w0 w1) :
    BB w0 (w1.alloc (.cells #[.int .i64 room, .slice none 0 0, .slice none 0 0, .bool false, .int .i64 0, .int .i64 0] 47 (0, 0))) (fun k => k < w0.heap.size ∨ k = w1.heap.size) w0.heap.size w1.heap.size room ⟨false, 0, 0, fun _ => []⟩ ⟨false, 0, 0, fun _ => []⟩ ∧
      Inv room 0 ⟨false, 0, 0, fun _ => []⟩ := by
  have hg := blkLt hp.net
  refine ⟨⟨PP.more (w := w1) (R := (· < w0.heap.size)) ⟨_, _, hp⟩ ((Below.refl _ _).alloc (Nat.le_refl _) _) fun k hk' => ?_, ⟨fun _ => .slice none 0 0, fun _ => [], heap_alloc_new w1 _, .inr rfl, fun _ => Row.nil _ _ _, fun _ k hk => by simp [Value.ownBlock] at hk, fun _ => rfl, fun _ _ _ _ hv => by simp at hv, fun _ _ _ _ hv => by simp at hv⟩, fun k hk => .inl hk, by omega, hk.alloc _⟩, ⟨h1, h2, fun hh => by simp at hh, fun _ m hm => by simp at hm, fun _ => by simp; omega, by simp, by simp, by simp, by simp⟩⟩
  rcases hk' with hk' | rfl
  · exact ⟨by simp; omega, .inl hk'⟩
  · exact ⟨by simp, .inr (Nat.le_refl _)⟩

/-- what the law reads of both nets -/
structure Reads (w2 : World) (g g' : Nat) (room : Int) (s : St) : Prop where
  w0 : ∀ n, Calls Try.prog 10 #[.pointer (some ⟨g, 0, none⟩), .int .i64 0] (w2.drewN n) fun e w' => e = .returned (.int .i64 (s.ms false).length) ∧ ∃ k, w' = w2.drewN k
  w1 : ∀ n, Calls Try.prog 10 #[.pointer (some ⟨g, 0, none⟩), .int .i64 1] (w2.drewN n) fun e w' => e = .returned (.int .i64 (s.ms true).length) ∧ ∃ k, w' = w2.drewN k
  we : ∀ e, ∃ x : Int, decide (x > room) = false ∧ ∀ n, Calls Try.prog 10 #[.pointer (some ⟨g, 0, none⟩), .int .i64 e] (w2.drewN n) fun e w' => e = .returned (.int .i64 x) ∧ ∃ k, w' = w2.drewN k
  sent : ∀ n, Calls Try.prog 9 #[.pointer (some ⟨g, 0, none⟩)] (w2.drewN n) fun e w' => e = .returned (.int .i64 s.sent) ∧ ∃ k, w' = w2.drewN k
  bytes : ∀ n, Calls Try.prog 14 #[.pointer (some ⟨g, 0, none⟩)] (w2.drewN n) fun e w' => e = .returned (.int .i64 s.bytes) ∧ ∃ k, w' = w2.drewN k
  cut : ∀ n, Calls Try.prog 18 #[.pointer (some ⟨g, 0, none⟩)] (w2.drewN n) fun e w' => e = .returned (.bool s.cut) ∧ ∃ k, w' = w2.drewN k
  q0 : ∃ A c, w2.cell? ⟨g', 1, none⟩ = some (.slice A (s.ms false).length c)
  q1 : ∃ A c, w2.cell? ⟨g', 2, none⟩ = some (.slice A (s.ms true).length c)
  r3 : w2.cell? ⟨g', 3, none⟩ = some (.bool s.cut)
  r4 : w2.cell? ⟨g', 4, none⟩ = some (.int .i64 s.sent)
  r5 : w2.cell? ⟨g', 5, none⟩ = some (.int .i64 s.bytes)

theorem BB.reads {w0 w2 : World} {R : Nat → Prop} {g g' : Nat} {room : Int} {s : St} {N : Nat} (h : BB w0 w2 R g g' room s s) (hi : Inv room N s) : Reads w2 g g' room s := by
  obtain ⟨⟨q, vs, hp⟩, ⟨q', vs', hr⟩, _⟩ := h
  have hr0 := hi.r0
  have hw : ∀ (t : Bool) n, Calls Try.prog 10 #[.pointer (some ⟨g, 0, none⟩), .int .i64 (endI t)] (w2.drewN n) fun e w' => e = .returned (.int .i64 (s.ms t).length) ∧ ∃ k, w' = w2.drewN k := by
    intro t n
    have ⟨e0, e1⟩ := endI_range t
    obtain ⟨A, c, _, hq⟩ := (hp.drewN n).q_at t
    refine (waits_any g (endI t) A _ c _ e0 e1 hq).mono ?_
    rintro e w' ⟨rfl, rfl⟩
    exact ⟨rfl, n, rfl⟩
  refine ⟨hw false, hw true, fun e => ?_, fun n => ?_, fun n => ?_, fun n => ?_, ?_, ?_, (blkCell hr.net 3).trans rfl, (blkCell hr.net 4).trans rfl, (blkCell hr.net 5).trans rfl⟩
  · rcases end_cases e with he | ⟨t, rfl⟩
    · refine ⟨0, decide_eq_false (by omega), fun n => ?_⟩
      refine (waits_off ⟨g, 0, none⟩ e _ he).mono ?_
      rintro e w' ⟨rfl, rfl⟩
      exact ⟨rfl, n, rfl⟩
    · have := hi.few t
      exact ⟨_, decide_eq_false (by omega), hw t⟩
  · refine (sent_any g s.sent _ ((blkCell (hp.drewN n).net 4).trans rfl)).mono ?_
    rintro e w' ⟨rfl, rfl⟩
    exact ⟨rfl, n, rfl⟩
  · refine (bytes_any g s.bytes _ ((blkCell (hp.drewN n).net 5).trans rfl)).mono ?_
    rintro e w' ⟨rfl, rfl⟩
    exact ⟨rfl, n, rfl⟩
  · refine (isCut_any g s.cut _ ((blkCell (hp.drewN n).net 3).trans rfl)).mono ?_
    rintro e w' ⟨rfl, rfl⟩
    exact ⟨rfl, n, rfl⟩
  · obtain ⟨A, c, _, hq, _⟩ := hr.q_at false
    exact ⟨A, c, hq⟩
  · obtain ⟨A, c, _, hq, _⟩ := hr.q_at true
    exact ⟨A, c, hq⟩

set_option maxRecDepth 100000 in
set_option maxHeartbeats 1600000 in
theorem plays_good (room : Int) (A : Option Addr) (n c : Nat) (l : List OpR) (w : World) (hl : Ops w (.slice A n c) l) (h50 : l.length ≤ 50) (h : HidP (Calls Try.prog 15 #[.slice A n c, .int .i64 50] w fun e w' => e = .returned (.bool true) ∧ w = w'))
    (hr0 : 1 ≤ room) (hr1 : room ≤ 1000) :
    Calls Try.prog 4 #[.int .i64 room, .slice A n c] w fun e w' => e = .returned (.bool true) ∧ Below w.heap.size w w' := by
  obtain rfl := hl.len
  have HL := hid hl
  clear hl
  go_enter Try.func4, Try.ntmps4
  go_wp2_with fail
  refine h.out.mono ?_
  rintro e w' ⟨rfl, rfl⟩
  go_wp2_with fail
  refine (new_pn room w (· < w.heap.size) (fun _ h => h) hr0 hr1).mono ?_
  rintro e w1 ⟨rfl, hp1, hk1⟩
  go_wp2_with fail
  refine (rnew_ok room w1 hr0 hr1).mono ?_
  rintro e w2 ⟨rfl, rfl⟩
  have HS := hid (play_start room w w1 hr0 hr1 hp1 hk1)
  clear hp1 hk1
  go_wp2_with fail
  refine (alive_any _).mono ?_
  rintro e w3 ⟨rfl, hb3⟩
  have HB : HidP (∃ R, BB w w3 R w.heap.size w1.heap.size room ⟨false, 0, 0, fun _ => []⟩ ⟨false, 0, 0, fun _ => []⟩) := hid ⟨_, HS.out.1.more hb3 (fun _ hk => hk) fun k hk => ⟨Nat.lt_of_lt_of_le (HS.out.1.p.lt k hk) hb3.size, .inl hk⟩⟩
  have HI := hid HS.out.2
  clear HS hb3
  go_wp2_with fail
  go_loopg [9] l.length (fun k i wr => ∃ m : Nat, m ≤ l.length ∧ k = l.length - m ∧ i = .int .i64 m ∧ ∃ R s, BB w wr R w.heap.size w1.heap.size room s s ∧ Inv room m s)
  case atStart =>
    obtain ⟨R, hb⟩ := HB.out
    exact ⟨0, Nat.zero_le _, rfl, rfl, R, _, hb, HI.out⟩
  case round =>
    obtain ⟨m, hm, rfl, rfl, R, s, hbb, hinv⟩ := hrel
    by_cases hlt : m < l.length
    · have g1 : (m : Int) < (l.length : Int) := by omega
      have i0 : (0 : Int) ≤ (m : Int) := by omega
      obtain ⟨a, bA, bc, rfl, hb, hsrc, hat⟩ := (HL.out.keep hbb.keep).at_ hlt
      obtain ⟨a', _, _, ha', hb', hsrc0, _⟩ := HL.out.at_ hlt
      cases ha'
      rw [hb] at hb'
      cases hb'
      obtain ⟨c0, c1, c2, c3, c4, c5, c6⟩ := hat
      rw [hb] at c6
      have HST := hid (step_ok (hbb.drawn 1) hinv (by omega) ⟨hsrc0⟩ l[m].k l[m].e l[m].i l[m].j l[m].n l[m].y)
      have HLm : HidP (∀ w', Keep (· < w.heap.size) w w' → w'.cell? ⟨(a.add (m * 7)).block, (a.add (m * 7)).off + 1, none⟩ = some (.int .i64 l[m].e)) := hid fun w' hk => by
        obtain ⟨a', _, _, ha', _, _, hat'⟩ := (HL.out.keep hk).at_ hlt
        cases ha'
        exact hat'.c1
      clear hbb hinv hsrc hsrc0 hb
      generalize l[m] = r at *
      go_wp2_with fail
      try dsimp only [List.append]
      refine wp_region_noPanic ?_
      refine wp_region_F (fun _ => True) (fun w' => w' = wr.drew) [6] (by kernel_rfl) ?_
      refine anyF_takeT (i := 0) (v := ?v0) (by rfl) (by kernel_rfl) (by kernel_rfl) (by kernel_rfl) (by kernel_rfl) (by exact fun _ _ _ h => h) (Or.inl ⟨by rfl, ?y0⟩) (by exact trivial) (by exact fun _ => rfl) ?r0
      case y0 => (intro wS hwS; go_simp; try with_reducible rfl)
      try simp only [Act.put, List.getElem_toArray, List.getElem_cons_succ, List.getElem_cons_zero, List.setIfInBounds_toArray, List.set_cons_zero, List.set_cons_succ]
      refine anyF_takeT (i := 1) (v := ?v1) (by rfl) (by kernel_rfl) (by kernel_rfl) (by kernel_rfl) (by kernel_rfl) (by exact fun _ _ _ h => h) (Or.inl ⟨by rfl, ?y1⟩) (by exact trivial) (by exact fun _ => rfl) ?r1
      case y1 => (intro wS hwS; go_simp; try with_reducible rfl)
      try simp only [Act.put, List.getElem_toArray, List.getElem_cons_succ, List.getElem_cons_zero, List.setIfInBounds_toArray, List.set_cons_zero, List.set_cons_succ]
      refine anyF_takeT (i := 2) (v := ?v2) (by rfl) (by kernel_rfl) (by kernel_rfl) (by kernel_rfl) (by kernel_rfl) (by exact fun _ _ _ h => h) (Or.inl ⟨by rfl, ?y2⟩) (by exact trivial) (by exact fun _ => rfl) ?r2
      case y2 => (intro wS hwS; go_simp; try with_reducible rfl)
      try simp only [Act.put, List.getElem_toArray, List.getElem_cons_succ, List.getElem_cons_zero, List.setIfInBounds_toArray, List.set_cons_zero, List.set_cons_succ]
      refine anyF_takeT (i := 3) (v := ?v3) (by rfl) (by kernel_rfl) (by kernel_rfl) (by kernel_rfl) (by kernel_rfl) (by exact fun _ _ _ h => h) (Or.inl ⟨by rfl, ?y3⟩) (by exact trivial) (by exact fun _ => rfl) ?r3
      case y3 => (intro wS hwS; go_simp; try with_reducible rfl)
      try simp only [Act.put, List.getElem_toArray, List.getElem_cons_succ, List.getElem_cons_zero, List.setIfInBounds_toArray, List.set_cons_zero, List.set_cons_succ]
      refine anyF_takeT (i := 4) (v := ?v4) (by rfl) (by kernel_rfl) (by kernel_rfl) (by kernel_rfl) (by kernel_rfl) (by exact fun _ _ _ h => h) (Or.inl ⟨by rfl, ?y4⟩) (by exact trivial) (by exact fun _ => rfl) ?r4
      case y4 => (intro wS hwS; go_simp; try with_reducible rfl)
      try simp only [Act.put, List.getElem_toArray, List.getElem_cons_succ, List.getElem_cons_zero, List.setIfInBounds_toArray, List.set_cons_zero, List.set_cons_succ]
      refine anyF_take (i := 5) (v := ?v5) (by rfl) (by kernel_rfl) (by kernel_rfl) (by kernel_rfl) (by kernel_rfl) (by kernel_rfl) (by kernel_rfl) (by exact fun _ _ _ h => h) (Or.inl ⟨by rfl, ?y5⟩) (by exact trivial) (by rfl) ?r5
      case y5 => (intro wS hwS; subst hwS; go_simp; try with_reducible rfl)
      try simp only [Act.put, List.getElem_toArray, List.getElem_cons_succ, List.getElem_cons_zero, List.setIfInBounds_toArray, List.set_cons_zero, List.set_cons_succ]
      refine anyF_last (i := 6) (by rfl) (by kernel_rfl) (by kernel_rfl) ?_
      intro K1 hK1
      have hKs1 := hid hK1; clear hK1
      refine step_call (by rfl) 17 _ _ (by rfl) Try.func17 (by kernel_rfl) (by kernel_rfl) [.pointer (some ⟨w.heap.size, 0, none⟩), .pointer (some ⟨w1.heap.size, 0, none⟩), .agg #[.int .i64 r.k, .int .i64 r.e, .int .i64 r.i, .int .i64 r.j, .int .i64 r.n, .int .u8 r.y, .slice bA r.bs.length bc]] (by rfl) HST.out ?_
      rintro e' w2 ⟨rfl, R2, s2, hbb2, hinv2, _⟩
      refine ⟨_, rfl, ?_⟩
      refine hKs1.out _ _ trivial ?_
      clear hKs1 K1 HST c0 c1 c2 c3 c4 c5 c6
      have HRD := hid (hbb2.reads hinv2)
      have ce := HLm.out w2 hbb2.keep
      have HNX := hid (And.intro hbb2 hinv2)
      clear hbb2 hinv2
      obtain ⟨xe, gxe, hwe⟩ := HRD.out.we r.e
      obtain ⟨q0A, q0c, q0⟩ := HRD.out.q0
      obtain ⟨q1A, q1c, q1⟩ := HRD.out.q1
      have r3 := HRD.out.r3
      have r4 := HRD.out.r4
      have r5 := HRD.out.r5
      have hwe := hid hwe
      try simp only [Act.put, List.getElem_toArray, List.getElem_cons_succ, List.getElem_cons_zero, List.setIfInBounds_toArray, List.set_cons_zero, List.set_cons_succ]
      refine anyF_of_quiet (C := fun w' => ∃ n, w' = w2.drewN n) (Q := fun a' => ∀ w', (∃ n, w' = w2.drewN n) → NoPanic _ .normal a' w') (fun _ w' hw' h => h w' hw') (fun _ _ => trivial) _ _ _ _ ⟨0, rfl⟩ (by kernel_rfl) ?_
      refine wpAnyQ_lex (by kernel_rfl) _ 7 _ _ (by intro j; rw [Nat.add_comm 7 j, List.getElem?_toArray]; rfl) (by kernel_rfl) ?_
      have W0 := hid HRD.out.w0
      have W1 := hid HRD.out.w1
      have WS := hid HRD.out.sent
      have WB := hid HRD.out.bytes
      have WC := hid HRD.out.cut
      clear HRD
      repeat (go_big_quiet_step (first | with_reducible exact W0.out _ | with_reducible exact W1.out _ | with_reducible exact hwe.out _ | with_reducible exact WS.out _ | with_reducible exact WB.out _ | with_reducible exact WC.out _ | fail))
      refine wpQuiet_nil ?_
      rintro _ ⟨nq, rfl⟩
      refine NoPanic.normal ?_
      clear W0 W1 WS WB WC hwe r3 r4 r5 q0 q1 ce
      go_wp2_with fail
      go_roundg (l.length - (m + 1))
      case measure => omega
      case rel => exact ⟨m + 1, by omega, rfl, by go_num, R2, s2, HNX.out.1.drawn nq, HNX.out.2⟩
    · obtain rfl : m = l.length := by omega
      clear HL HB HI hlt
      have HX := hid (And.intro hbb hinv)
      clear hbb hinv
      go_wp2_with fail
      go_loopg [10] 2 (fun k i wr2 => ∃ t : Nat, t ≤ 2 ∧ k = 2 - t ∧ i = .int .i64 t ∧ ∃ R s N, BB w wr2 R w.heap.size w1.heap.size room s s ∧ Inv room N s ∧ N ≤ 50 + 1000 * t)
      case atStart => exact ⟨0, by omega, rfl, rfl, R, s, _, HX.out.1, HX.out.2, by omega⟩
      case round =>
        clear HX hm
        obtain ⟨t, ht, rfl, rfl, R2, s2, N2, hbb2, hinv2, hN2⟩ := hrel
        have HX2 := hid (And.intro hbb2 (And.intro hinv2 hN2))
        clear hbb2 hinv2 hN2
        rcases (show t = 0 ∨ t = 1 ∨ t = 2 by omega) with rfl | rfl | rfl
        · have HRD := HX2.out.1.reads HX2.out.2.1
          obtain ⟨qA, qc, q0⟩ := HRD.q0
          clear HRD
          go_wp2_with fail
          go_loopg [] (s2.ms false).length (fun k wr3 => ∃ R s N, BB w wr3 R w.heap.size w1.heap.size room s s ∧ Inv room N s ∧ k = (s.ms false).length ∧ N + k ≤ 50 + 1000 * 1)
          case atStart =>
            have hf := HX2.out.2.1.few false
            have hN := HX2.out.2.2
            exact ⟨R2, s2, N2, HX2.out.1, HX2.out.2.1, rfl, by omega⟩
          case round =>
            clear q0
            obtain ⟨R3, s3, N3, hbb3, hinv3, rfl, hN3⟩ := hrel
            obtain ⟨qA3, qc3, q3⟩ := (hbb3.reads hinv3).q0
            by_cases hz : 0 < (s3.ms false).length
            · have gz : decide (((s3.ms false).length : Int) > 0) = true := by simp; omega
              have HST := hid (step_ok hbb3 hinv3 (by omega) (b := .slice none 0 0) (bs := []) ⟨(Row.nil w 5 1).src⟩ 1 0 0 0 0 0)
              have hc := HX2.out.1
              clear hbb3 hinv3 hc
              go_wp2_with fail
              refine HST.out.mono ?_
              rintro e' w4 ⟨rfl, R4, s4, hbb4, hinv4, hms⟩
              have hm4 := hms rfl false rfl
              have hlen4 : (s4.ms false).length = (s3.ms false).length - 1 := by rw [hm4, upd_same, List.length_tail]
              have HX4 := hid (And.intro hbb4 hinv4)
              clear hms hm4 hbb4 hinv4 HST q3
              go_wp2_with fail
              go_roundg ((s4.ms false).length)
              case measure => omega
              case rel => exact ⟨R4, s4, _, HX4.out.1, HX4.out.2, rfl, by omega⟩
            · have gz : decide (((s3.ms false).length : Int) > 0) = false := decide_eq_false (by omega)
              have HX3 := hid (And.intro hbb3 hinv3)
              clear hbb3 hinv3
              go_wp2_with fail
              go_roundg (2 - 1)
              case measure => omega
              case rel => exact ⟨1, by omega, rfl, by go_num, R3, s3, N3, HX3.out.1, HX3.out.2, by omega⟩
        · have HRD := HX2.out.1.reads HX2.out.2.1
          obtain ⟨qA, qc, q0⟩ := HRD.q1
          clear HRD
          go_wp2_with fail
          go_loopg [] (s2.ms true).length (fun k wr3 => ∃ R s N, BB w wr3 R w.heap.size w1.heap.size room s s ∧ Inv room N s ∧ k = (s.ms true).length ∧ N + k ≤ 50 + 1000 * 2)
          case atStart =>
            have hf := HX2.out.2.1.few true
            have hN := HX2.out.2.2
            exact ⟨R2, s2, N2, HX2.out.1, HX2.out.2.1, rfl, by omega⟩
          case round =>
            clear q0
            obtain ⟨R3, s3, N3, hbb3, hinv3, rfl, hN3⟩ := hrel
            obtain ⟨qA3, qc3, q3⟩ := (hbb3.reads hinv3).q1
            by_cases hz : 0 < (s3.ms true).length
            · have gz : decide (((s3.ms true).length : Int) > 0) = true := by simp; omega
              have HST := hid (step_ok hbb3 hinv3 (by omega) (b := .slice none 0 0) (bs := []) ⟨(Row.nil w 5 1).src⟩ 1 1 0 0 0 0)
              have hc := HX2.out.1
              clear hbb3 hinv3 hc
              go_wp2_with fail
              refine HST.out.mono ?_
              rintro e' w4 ⟨rfl, R4, s4, hbb4, hinv4, hms⟩
              have hm4 := hms rfl true rfl
              have hlen4 : (s4.ms true).length = (s3.ms true).length - 1 := by rw [hm4, upd_same, List.length_tail]
              have HX4 := hid (And.intro hbb4 hinv4)
              clear hms hm4 hbb4 hinv4 HST q3
              go_wp2_with fail
              go_roundg ((s4.ms true).length)
              case measure => omega
              case rel => exact ⟨R4, s4, _, HX4.out.1, HX4.out.2, rfl, by omega⟩
            · have gz : decide (((s3.ms true).length : Int) > 0) = false := decide_eq_false (by omega)
              have HX3 := hid (And.intro hbb3 hinv3)
              clear hbb3 hinv3
              go_wp2_with fail
              go_roundg (2 - 2)
              case measure => omega
              case rel => exact ⟨2, by omega, rfl, by go_num, R3, s3, N3, HX3.out.1, HX3.out.2, by omega⟩
        · have hkk := Below.ofKeep HX2.out.1.keep (Nat.le_refl _)
          go_wp2_with fail
          go_ret
          exact ⟨rfl, hkk⟩

end Go.Proofs.Ytodbnmigdnmjnaa
