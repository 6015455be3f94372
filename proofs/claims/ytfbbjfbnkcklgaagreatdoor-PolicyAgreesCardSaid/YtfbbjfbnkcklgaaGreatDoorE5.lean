/- spots: the walk -/
import Derived.Test.YtfbbjfbnkcklgaaGreatDoorE1
import Derived.Test.YtfbbjfbnkcklgaaGreatDoorG1
import Derived.Test.YtfbbjfbnkcklgaaGreatDoorB6
import Derived.Test.YtfbbjfbnkcklgaaGreatDoorA1
namespace Go.Proofs.YtfbbjfbnkcklgaaGreatDoor
open Go.RowKit

/-- what the three have at a path -/
structure Spot where
  q : ByteArray
  o : TrI
  a : TrI
  b : TrI
instance : Inhabited Spot := ⟨⟨ByteArray.empty, default, default, default⟩⟩
def Spot.cells (s : Spot) : List Value := [.string s.q, .slice s.o.A s.o.l.length s.o.c, .slice s.a.A s.a.l.length s.a.c, .slice s.b.A s.b.l.length s.b.c]
theorem spot_len (s : Spot) : s.cells.length = 4 := rfl
theorem spot_one (s : Spot) : ∀ u ∈ s.cells, u.oneCell' = true := by
  intro u hu
  simp [Spot.cells] at hu
  rcases hu with rfl | rfl | rfl | rfl <;> rfl
structure SpotOk (w : World) (s : Spot) : Prop where
  size : s.q.size ≤ 140737488351232
  o : Tr w s.o.A s.o.c s.o.l
  a : Tr w s.a.A s.a.c s.a.l
  b : Tr w s.b.A s.b.c s.b.l
theorem SpotOk.below {w w' : World} {s : Spot} (h : SpotOk w s) (hb : Below w.heap.size w w') : SpotOk w' s := ⟨h.size, h.o.below hb, h.a.below hb, h.b.below hb⟩
/-- a slice of these -/
structure SpotsAt (w : World) (A : Option Addr) (c : Nat) (l : List Spot) : Prop where
  recs : Recs Spot.cells 4 w A c l
  max : l.length ≤ 1000000
  ok : ∀ s ∈ l, SpotOk w s
theorem SpotsAt.below {w w' : World} {A : Option Addr} {c : Nat} {l : List Spot} (h : SpotsAt w A c l) (hb : Below w.heap.size w w') : SpotsAt w' A c l := ⟨h.recs.below hb, h.max, fun s hs => (h.ok s hs).below hb⟩
theorem infoSpot : (Tryz.prog.info? 92).map (fun i => (i.zero, i.size, i.bytes)) = some (some (.agg #[.string ByteArray.empty, .slice none 0 0, .slice none 0 0, .slice none 0 0]), 4, 88) := by kernel_rfl
theorem spot_bound {L : List Spot} {s : Spot} (h : L.length ≤ 1000001) : (L.flatMap Spot.cells).length + s.cells.length ≤ maxLen ∧ ((L.flatMap Spot.cells).length + s.cells.length) * 88 ≤ 140737488355328 := by
  rw [flat_len spot_len, spot_len]
  constructor
  · simp only [maxLen]; omega
  · omega
def TrI.own (t : TrI) : Option Nat := (Value.slice t.A t.l.length t.c).ownBlock
/-- slices in blocks that are younger than a mark -/
structure Spot.fresh (m : Nat) (s : Spot) : Prop where
  o : ∀ k, s.o.own = some k → m ≤ k
  a : ∀ k, s.a.own = some k → m ≤ k
  b : ∀ k, s.b.own = some k → m ≤ k
theorem kid_short {l : List Itm} {p q : Txt} (h : kidL l p q ≠ []) : ∃ x ∈ l, climbT p x.p.toList = q ∧ upT q = p := by
  obtain ⟨x, hx⟩ := List.exists_mem_of_ne_nil _ h
  unfold kidL at hx
  rw [List.mem_filter] at hx
  simp only [Bool.and_eq_true, decide_eq_true_eq] at hx
  exact ⟨x, hx.1, hx.2⟩
theorem Kids.tree {w : World} {base M n : Nat} {D : DataW Value} {l : List Itm} {p : Txt} (h : Kids w base M n D l p) (hg : ∀ x ∈ l, Good w x) (hm : l.length ≤ 1000000) (q : Txt) : ∃ (A : Option Addr) (c : Nat), valV D q (.slice A (kidL l p q).length c) ∧ Tr w A c (kidL l p q) ∧ ∀ b, (Value.slice A (kidL l p q).length c).ownBlock = some b → base ≤ b := by
  obtain ⟨A, k, c, h1, h2, h3⟩ := h.val q
  have hl : (kidL l p q).length ≤ l.length := List.length_filter_le _ _
  obtain ⟨rfl, ht⟩ := Tr.ofRow h2 (fun x hx => hg x (List.mem_filter.1 hx).1) (by omega)
  exact ⟨A, c, h1, ht, h3⟩

set_option maxRecDepth 100000 in
set_option maxHeartbeats 8000000 in
theorem spots_walk (oA : Option Addr) (oc : Nat) (lo : List Itm) (aA : Option Addr) (ac : Nat) (la : List Itm) (bA : Option Addr) (bc : Nat) (lb : List Itm) (p : ByteArray) (w : World) (ho : Tr w oA oc lo) (ha : Tr w aA ac la) (hb : Tr w bA bc lb) (hlo : lo.length ≤ 1000) (hla : la.length ≤ 1000) (hlb : lb.length ≤ 1000) :
    Calls Tryz.prog 39 #[.slice oA lo.length oc, .slice aA la.length ac, .slice bA lb.length bc, .string p] w fun e w' =>
      (∃ (C : Option Addr) (u : Nat) (ss : List Spot), e = .returned (.slice C ss.length u) ∧ SpotsAt w' C u ss ∧ sortedN (ss.map (·.q.toList)) ∧ (∀ x, x ∈ ss.map (·.q.toList) ↔ (kidL lo p.toList x ≠ [] ∨ kidL la p.toList x ≠ [] ∨ kidL lb p.toList x ≠ [])) ∧
        (∀ s ∈ ss, s.o.l = kidL lo p.toList s.q.toList ∧ s.a.l = kidL la p.toList s.q.toList ∧ s.b.l = kidL lb p.toList s.q.toList) ∧ (∀ s ∈ ss, s.fresh w.heap.size) ∧ ∀ k, (Value.slice C ss.length u).ownBlock = some k → w.heap.size ≤ k) ∧ Below w.heap.size w w' := by
  obtain ⟨ti, hi0, hz0, hz1, hz2⟩ := info_parts infoSpot
  have HK1 := hid (kids_walk oA oc lo p w ho)
  have HK2 := hid (fun W (hW : Below w.heap.size w W) => kids_walk aA ac la p W (ha.below hW))
  have HK3 := hid (fun W (hW : Below w.heap.size w W) => kids_walk bA bc lb p W (hb.below hW))
  have HO := hid ho
  have HA := hid ha
  have HB := hid hb
  clear ho ha hb
  go_enter Tryz.func39, Tryz.ntmps39
  go_wp2_with fail
  refine HK1.out.mono ?_
  rintro e w1 ⟨⟨M1, n1, D1, rfl, k1, hM1⟩, hb1⟩
  go_wp2_with fail
  refine (HK2.out _ hb1).mono ?_
  rintro e w2 ⟨⟨M2, n2, D2, rfl, k2, hM2⟩, hb2'⟩
  have hb2 := thenB hb1 hb2'
  go_wp2_with fail
  refine (HK3.out _ hb2).mono ?_
  rintro e w3 ⟨⟨M3, n3, D3, rfl, k3, hM3⟩, hb3'⟩
  have hb3 := thenB hb2 hb3'
  have k1' := (k1.below hb2').below hb3'
  have k2' := k2.below hb3'
  have l1 := k1.map.lt
  have l2 := k2.map.lt
  have l3 := k3.map.lt
  have z1 := hb2'.size
  have z2 := hb3'.size
  have m1 := k1.num
  have m2 := k2.num
  have m3 := k3.num
  have K1 := hid k1'
  have K2 := hid k2'
  have K3 := hid k3
  clear k1 k2 k3 k1' k2' HK1 HK2 HK3 hb2' hb3'
  go_wp2_with fail
  refine (clonemap M1 n1 D1 w3 K1.out.map).mono ?_
  rintro e w4 ⟨rfl, hn4, hb4⟩
  have HN4 := hid hn4
  have l4 := hn4.lt
  clear hn4
  go_wp2_with fail
  refine (copymap w3.heap.size M2 n1 n2 D1 D2 w4 HN4.out ((K2.out.below hb4).map) (by omega) (by simp only [maxLen]; omega)).mono ?_
  rintro e w5 ⟨rfl, ⟨n5, hn5, hm5⟩, hg5⟩
  have hb5 : Below w3.heap.size w3 w5 := Below.grownNew hb4 hg5 hb4.size (by intro k hk; cases hk; exact Nat.le_refl _)
  have HN5 := hid hm5
  have hM5 := hm5.isMap
  clear hm5 hg5
  go_wp2_with fail
  refine (copymap w3.heap.size M3 n5 n3 (Lib.mergeD D1 D2) D3 w5 HN5.out ((K3.out.below hb5).map) (by omega) (by simp only [maxLen]; omega)).mono ?_
  rintro e w6 ⟨rfl, ⟨n6, hn6, hm6⟩, hg6⟩
  have hb6 : Below w3.heap.size w3 w6 := Below.grownNew hb5 hg6 hb5.size (by intro k hk; cases hk; exact Nat.le_refl _)
  have HN6 := hid hm6
  have HHAS : HidP (∀ x, Maps.has (Lib.mergeD (Lib.mergeD D1 D2) D3) (keyL x) = true ↔ (kidL lo p.toList x ≠ [] ∨ kidL la p.toList x ≠ [] ∨ kidL lb p.toList x ≠ [])) := hid (fun x => by
    rw [has_mergeD hM5 K3.out.map, has_mergeD K1.out.map.isMap K2.out.map, K1.out.hasK, K2.out.hasK, K3.out.hasK]
    simp only [Bool.or_eq_true, Bool.not_eq_true', List.isEmpty_eq_false_iff, or_assoc])
  clear hm6 hg6
  go_wp2_with fail
  refine (keys_call w3.heap.size w6).mono ?_
  rintro e w7 ⟨rfl, rfl⟩
  go_wp2_with fail
  refine (sorted_call w3.heap.size n6 _ w6 HN6.out (by omega)).mono ?_
  rintro e w8 ⟨⟨sA, sk, sc, ks, rfl, hrow, hsort, hmem, hkl⟩, hb8⟩
  have hb9 := thenB hb3 (thenB hb6 hb8)
  have hcount := hrow.count
  rw [List.length_map, Nat.mul_one] at hcount
  subst hcount
  have hb98 := thenB hb6 hb8
  replace K1 := hid (K1.out.below hb98)
  replace K2 := hid (K2.out.below hb98)
  replace K3 := hid (K3.out.below hb98)
  have HSORT := hid hsort
  have HMEM : HidP (∀ x, x ∈ ks.map (fun z : ByteArray => z.toList) ↔ (kidL lo p.toList x ≠ [] ∨ kidL la p.toList x ≠ [] ∨ kidL lb p.toList x ≠ [])) := hid (fun x => by rw [hmem]; exact HHAS.out x)
  have HSIZE : HidP (∀ q ∈ ks, q.size ≤ 140737488351232) := hid (fun q hq => by
    have h1 := (HMEM.out q.toList).1 (List.mem_map_of_mem hq)
    have key : ∀ (l : List Itm), (∀ x ∈ l, x.p.size ≤ 140737488351232) → kidL l p.toList q.toList ≠ [] → q.size ≤ 140737488351232 := fun l hl hne => by
      obtain ⟨x, hx, he, _⟩ := kid_short hne
      have h2 := climb_len (n := x.p.toList.length) (p := p.toList) (q := x.p.toList)
      have h3 := congrArg List.length he
      unfold climbT at h3
      rw [str_len] at h3
      have h4 := hl x hx
      rw [str_len] at h2 h3
      omega
    rcases h1 with h1 | h1 | h1
    · exact key lo (fun x hx => (HO.out.good x hx).size) h1
    · exact key la (fun x hx => (HA.out.good x hx).size) h1
    · exact key lb (fun x hx => (HB.out.good x hx).size) h1)
  have HROW := hid hrow
  clear hsort hmem hrow HHAS HN4 HN5 HN6 hb4 hb5 hb6 hM5
  go_wp2_with fail
  go_loopg [8, 36] ks.length (fun k out i wr => ∃ (j : Nat) (pA : Option Addr) (pn pc : Nat) (L : List Spot), j ≤ ks.length ∧ k = ks.length - j ∧ i = .int .i64 j ∧ out = .slice pA pn pc ∧ Row wr 92 4 (.slice pA pn pc) (L.flatMap Spot.cells) ∧ Below w8.heap.size w8 wr ∧ (∀ k, (Value.slice pA pn pc).ownBlock = some k → w8.heap.size ≤ k) ∧
    L.map (·.q) = ks.take j ∧ ∀ s ∈ L, (s.o.l = kidL lo p.toList s.q.toList ∧ valV D1 s.q.toList (.slice s.o.A s.o.l.length s.o.c)) ∧ (s.a.l = kidL la p.toList s.q.toList ∧ valV D2 s.q.toList (.slice s.a.A s.a.l.length s.a.c)) ∧ (s.b.l = kidL lb p.toList s.q.toList ∧ valV D3 s.q.toList (.slice s.b.A s.b.l.length s.b.c)))
  case atStart => exact ⟨0, none, 0, 0, [], Nat.zero_le _, rfl, rfl, rfl, Row.nil _ _ _, Below.refl _ _, by simp [Value.ownBlock], rfl, by simp⟩
  case round =>
    obtain ⟨j, pA, pn, pc, L, hj, rfl, rfl, rfl, hrow, hbr, hf, hL, hLs⟩ := hrel
    have HL := hid hL
    have HLS := hid hLs
    by_cases hlt : j < ks.length
    · have i0 : (0 : Int) ≤ (j : Int) := by omega
      have i1 : (j : Int) < (ks.length : Int) := by omega
      obtain ⟨sa, hA, c0'⟩ := HROW.out.at1 (i := j) (u := .string ks[j]) (by rw [List.getElem?_map, List.getElem?_eq_getElem hlt]; rfl)
      have hsp : sa.spot = none := by
        obtain ⟨A', n', c', hv, _, _, _, hh⟩ := HROW.out
        cases hv
        rcases hh with ⟨h, _⟩ | ⟨b, off, cs, h, _⟩
        · rw [hA] at h; cases h
        · rw [hA] at h; cases h; rfl
      obtain ⟨b, off, sp⟩ := sa
      simp only at hsp
      subst hsp
      subst hA
      rw [add_lit'] at c0'
      have c0 := cellB hbr c0'
      have hqs := HSIZE.out ks[j] (List.getElem_mem hlt)
      have hqm : ks[j].size ≤ maxLen := by simp only [maxLen]; omega
      have x1 := K1.out.below hbr
      have x2 := K2.out.below hbr
      have x3 := K3.out.below hbr
      have hbw := thenB hb9 hbr
      obtain ⟨v1, r1, e1⟩ := x1.map.look ks[j] hqm
      obtain ⟨v2, r2, e2⟩ := x2.map.look ks[j] hqm
      obtain ⟨v3, r3, e3⟩ := x3.map.look ks[j] hqm
      obtain ⟨A1, c1, f1, _⟩ := x1.tree (fun x hx => (HO.out.good x hx).below hbw) (by omega) ks[j].toList
      obtain ⟨A2, c2, f2, _⟩ := x2.tree (fun x hx => (HA.out.good x hx).below hbw) (by omega) ks[j].toList
      obtain ⟨A3, c3, f3, _⟩ := x3.tree (fun x hx => (HB.out.good x hx).below hbw) (by omega) ks[j].toList
      have u1 := valV_one e1 f1
      have u2 := valV_one e2 f2
      have u3 := valV_one e3 f3
      subst u1
      subst u2
      subst u3
      have F1 := hid f1
      have F2 := hid f2
      have F3 := hid f3
      have hll : L.length ≤ j := by
        have h1 := congrArg List.length hL
        rw [List.length_map, List.length_take] at h1
        omega
      obtain ⟨S, hS⟩ : ∃ S : Spot, S = ⟨ks[j], ⟨A1, c1, kidL lo p.toList ks[j].toList⟩, ⟨A2, c2, kidL la p.toList ks[j].toList⟩, ⟨A3, c3, kidL lb p.toList ks[j].toList⟩⟩ := ⟨_, rfl⟩
      have hSc : S.cells = [.string ks[j], .slice A1 (kidL lo p.toList ks[j].toList).length c1, .slice A2 (kidL la p.toList ks[j].toList).length c2, .slice A3 (kidL lb p.toList ks[j].toList).length c3] := by rw [hS]; rfl
      have HS := hid hS
      obtain ⟨hc1, hc2⟩ := spot_bound (s := S) (L := L) (by omega)
      have hba := thenA (Below.refl _ wr) (.cells #[.string ks[j], .slice A1 (kidL lo p.toList ks[j].toList).length c1, .slice A2 (kidL la p.toList ks[j].toList).length c2, .slice A3 (kidL lb p.toList ks[j].toList).length c3] 92 (0, 0))
      have hsi := Src.rec spot_len (w := wr.alloc (.cells S.cells.toArray 92)) (b := wr.heap.size) S (heap_alloc_new wr _)
      rw [hSc] at hsi
      have hrow1 := hrow.below hba
      have hsz := hbr.size
      have hone := spot_one S
      rw [hSc] at hone hc1 hc2
      clear hL hLs e1 e2 e3 f1 f2 f3 x1 x2 x3 hS hSc c0'
      go_wp2_with (at_builtin; refine wpList_append_row _ rfl _ _ 68 rfl 92 ti (.agg #[.string ByteArray.empty, .slice none 0 0, .slice none 0 0, .slice none 0 0]) 4 88 Tryz.underlying68 hi0 hz0 hz1 hz2 rfl (by decide) (.slice pA pn pc) (L.flatMap Spot.cells) rfl hrow1 (.slice (some ⟨wr.heap.size, 0, none⟩) 1 1) _ rfl hsi hone hc1 hc2 ?_; intro bA bn bc w9 hr9 hg9 ha9)
      have hb10 : Below w8.heap.size w8 w9 := Below.grownNew (thenB hbr hba) hg9 (by simp; omega) hf
      have hf9 := fresh_of (B := w8.heap.size) ha9 hf (by simp; omega)
      go_roundg (ks.length - (j + 1))
      case measure => omega
      case rel => exact ⟨j + 1, bA, bn, bc, L ++ [S], by omega, rfl, by go_num, rfl, by rw [List.flatMap_append, HS.out]; simpa [Spot.cells] using hr9, hb10, hf9, by rw [List.map_append, HL.out, List.take_add_one, List.getElem?_eq_getElem hlt, HS.out]; rfl, fun s hs => by
        rcases List.mem_append.1 hs with hs | hs
        · exact HLS.out s hs
        · rw [List.mem_singleton.1 hs, HS.out]
          exact ⟨⟨rfl, F1.out⟩, ⟨rfl, F2.out⟩, ⟨rfl, F3.out⟩⟩⟩
    · obtain rfl : j = ks.length := by omega
      have hll : L.length = ks.length := by
        have h1 := congrArg List.length hL
        rw [List.length_map, List.length_take] at h1
        omega
      obtain ⟨hpn, hrc⟩ := Recs.ofRow spot_len (by omega) hrow
      have HRC := hid hrc
      have hbw := thenB hb9 hbr
      have x1 := K1.out.below hbr
      have x2 := K2.out.below hbr
      have x3 := K3.out.below hbr
      have hq : L.map (fun s : Spot => s.q.toList) = ks.map (fun z : ByteArray => z.toList) := by
        have h1 := congrArg (List.map fun z : ByteArray => z.toList) hL
        rw [List.take_length, List.map_map] at h1
        exact h1
      have HQ := hid hq
      have z0 := hb1.size
      have hfr := hf
      have z8 := hb9.size
      have hok : ∀ s ∈ L, SpotOk wr s ∧ s.fresh w.heap.size := fun s hs => by
        obtain ⟨⟨a1, a2⟩, ⟨a3, a4⟩, ⟨a5, a6⟩⟩ := HLS.out s hs
        have hsq : s.q ∈ ks := by
          have h1 : s.q ∈ L.map (·.q) := List.mem_map_of_mem hs
          rw [hL, List.take_length] at h1
          exact h1
        obtain ⟨A1, c1, f1, t1, g1⟩ := x1.tree (fun x hx => (HO.out.good x hx).below hbw) (by omega) s.q.toList
        obtain ⟨A2, c2, f2, t2, g2⟩ := x2.tree (fun x hx => (HA.out.good x hx).below hbw) (by omega) s.q.toList
        obtain ⟨A3, c3, f3, t3, g3⟩ := x3.tree (fun x hx => (HB.out.good x hx).below hbw) (by omega) s.q.toList
        have u1 := valV_one a2 f1
        have u2 := valV_one a4 f2
        have u3 := valV_one a6 f3
        simp only [Value.slice.injEq] at u1 u2 u3
        refine ⟨⟨HSIZE.out _ hsq, ?_, ?_, ?_⟩, ?_, ?_, ?_⟩
        · rw [a1, u1.1, u1.2.2]; exact t1
        · rw [a3, u2.1, u2.2.2]; exact t2
        · rw [a5, u3.1, u3.2.2]; exact t3
        · unfold TrI.own; rw [a1, u1.1, u1.2.2]; exact g1
        · unfold TrI.own; rw [a3, u2.1, u2.2.2]; intro k hk; have := g2 k hk; omega
        · unfold TrI.own; rw [a5, u3.1, u3.2.2]; intro k hk; have := g3 k hk; omega
      have HOK := hid hok
      subst hpn
      have HFR : HidP (∀ k, (Value.slice pA L.length pc).ownBlock = some k → w.heap.size ≤ k) := hid (fun k hk => by have := hfr k hk; omega)
      clear hL hLs hrow hrc x1 x2 x3 hq hok hfr z0 z8
      go_wp2_with fail
      go_ret
      exact ⟨⟨_, _, L, rfl, ⟨HRC.out, by omega, fun s hs => (HOK.out s hs).1⟩, by rw [HQ.out]; exact HSORT.out, by rw [HQ.out]; exact HMEM.out, fun s hs => ⟨(HLS.out s hs).1.1, (HLS.out s hs).2.1.1, (HLS.out s hs).2.2.1⟩, fun s hs => (HOK.out s hs).2, HFR.out⟩, hbw⟩

end Go.Proofs.YtfbbjfbnkcklgaaGreatDoor

/- a result that grows: its rows, what a call leaves; keep; dir -/
namespace Go.Proofs.YtfbbjfbnkcklgaaGreatDoor
open Go.RowKit

/-- a slice value -/
structure Sl where
  A : Option Addr
  n : Nat
  c : Nat
def Sl.own (s : Sl) : Option Nat := (Value.slice s.A s.n s.c).ownBlock
/-- all that there was stands but block R -/
abbrev KR (R : Nat) (w w' : World) : Prop := Keep (fun k => k ≠ R) w w'
theorem KR.then {R : Nat} {w a b : World} (h : KR R w a) (hb : Below a.heap.size a b) : KR R w b :=
  ⟨hb.os.trans h.os, hb.tape.trans h.tape, hb.output.trans h.output, Nat.le_trans h.size hb.size, fun k hk hr => (hb.block k (Nat.lt_of_lt_of_le hk h.size)).trans (h.block k hk hr)⟩
theorem KR.grown {R : Nat} {w a b : World} {row : Option Nat} (h : KR R w a) (hg : a.grownBy b row) (hf : ∀ k, row = some k → w.heap.size ≤ k) : KR R w b :=
  ⟨hg.os.trans h.os, hg.tape.trans h.tape, hg.output.trans h.output, Nat.le_trans h.size hg.size, fun k hk hr => (hg.block k (Nat.lt_of_lt_of_le hk h.size) (fun e => by have := hf k e.symm; omega)).trans (h.block k hk hr)⟩
theorem KR.setR {R : Nat} {w a : World} (h : KR R w a) (i : Nat) (u : Value) : KR R w (a.setCell ⟨R, i, none⟩ u) :=
  ⟨h.os, h.tape, h.output, by simpa using h.size, fun k hk hr => (Below.heap_setCell a _ _ k hr).trans (h.block k hk hr)⟩
/-- an item whose bytes lie beside block R -/
structure GoodR (w : World) (R : Nat) (x : Itm) : Prop where
  good : Good w x
  ne : x.bs ≠ [] → ∀ k, (Value.slice x.dA x.bs.length x.dc).ownBlock = some k → k ≠ R
theorem Src.keepNil {w w' : World} {sz : Nat} {v : Value} (h : Src w sz v []) : Src w' sz v [] := by
  obtain ⟨A, n, c, rfl, hl, hn, h0, _⟩ := h
  exact ⟨A, n, c, rfl, hl, hn, h0, fun j u hj => by simp at hj⟩
theorem GoodR.later {w w' : World} {R : Nat} {x : Itm} (h : GoodR w R x) (hb : KR R w w') : Good w' x := by
  refine ⟨h.good.size, h.good.len, ?_, h.good.rng⟩
  by_cases h0 : x.bs = []
  · have h1 := h.good.src
    rw [h0] at h1 ⊢
    exact Src.keepNil h1
  · exact h.good.src.keep fun k hk hlt => hb.block k hlt (h.ne h0 k hk)
/-- bytes do not lie among slices -/
theorem GoodR.of {w : World} {R : Nat} {x : Itm} {cs : Array Value} {T : TypeId} (h : Good w x) (hR : w.heap[R]? = some (.cells cs T (0, 0))) (hcs : ∀ (i : Nat) (n : Int), cs[i]? ≠ some (Value.int .u8 n)) : GoodR w R x := by
  refine ⟨h, fun h0 k hk e => ?_⟩
  subst e
  obtain ⟨A, n, c, hv, hl, hn, hc, hx⟩ := h.src
  rw [hv] at hk
  cases hb : x.bs with
  | nil => exact h0 hb
  | cons y r =>
    obtain ⟨a, hA, hcell⟩ := hx 0 (.int .u8 y) (by rw [hb]; rfl)
    subst hA
    simp only [Value.ownBlock, Option.some.injEq] at hk
    have hsp := World.cell?_spot hcell
    obtain ⟨ab, ao, asp⟩ := a
    cases asp with
    | some p => exact absurd hsp (by simp [Addr.add])
    | none =>
    rw [add_lit'] at hcell
    simp only at hk
    subst hk
    rw [blkCell hR] at hcell
    exact hcs _ _ hcell
/-- a result in memory: block R, its four rows, all younger than the world w -/
structure RM (w : World) (R : Nat) (a b o c : Sl) (LA LB LO : List Itm) (LC : List ByteArray) (wr : World) : Prop where
  blk : wr.heap[R]? = some (.cells #[.slice a.A a.n a.c, .slice b.A b.n b.c, .slice o.A o.n o.c, .slice c.A c.n c.c] 28 (0, 0))
  ra : Row wr 42 3 (.slice a.A a.n a.c) (LA.flatMap Itm.cells)
  rb : Row wr 42 3 (.slice b.A b.n b.c) (LB.flatMap Itm.cells)
  ro : Row wr 42 3 (.slice o.A o.n o.c) (LO.flatMap Itm.cells)
  rc : Row wr 9 1 (.slice c.A c.n c.c) (LC.map .string)
  fa : ∀ k, a.own = some k → w.heap.size ≤ k
  fb : ∀ k, b.own = some k → w.heap.size ≤ k
  fo : ∀ k, o.own = some k → w.heap.size ≤ k
  fc : ∀ k, c.own = some k → w.heap.size ≤ k
  ab : ∀ k, a.own = some k → b.own ≠ some k
  ao : ∀ k, a.own = some k → o.own ≠ some k
  bo : ∀ k, b.own = some k → o.own ≠ some k
  ga : ∀ x ∈ LA, GoodR w R x
  gb : ∀ x ∈ LB, GoodR w R x
  go : ∀ x ∈ LO, GoodR w R x
  below : KR R w wr
/-- a block that a result has not to do with -/
def Off (R : Nat) (a b o c : Sl) (k : Nat) : Prop := k ≠ R ∧ a.own ≠ some k ∧ b.own ≠ some k ∧ o.own ≠ some k ∧ c.own ≠ some k
/-- what a call leaves of a result -/
structure Mv (R : Nat) (a b o c a' b' o' c' : Sl) (wr w' : World) : Prop where
  keep : Keep (Off R a b o c) wr w'
  na : a'.own = a.own ∨ ∃ k, a'.own = some k ∧ wr.heap.size ≤ k
  nb : b'.own = b.own ∨ ∃ k, b'.own = some k ∧ wr.heap.size ≤ k
  no : o'.own = o.own ∨ ∃ k, o'.own = some k ∧ wr.heap.size ≤ k
  nc : c'.own = c.own ∨ ∃ k, c'.own = some k ∧ wr.heap.size ≤ k
theorem Mv.refl (R : Nat) (a b o c : Sl) (w : World) : Mv R a b o c a b o c w w := ⟨Keep.refl _ w, .inl rfl, .inl rfl, .inl rfl, .inl rfl⟩
theorem off_next {R k m : Nat} {a b o c a' b' o' c' : Sl} (h : Off R a b o c k) (hk : k < m) (na : a'.own = a.own ∨ ∃ k, a'.own = some k ∧ m ≤ k) (nb : b'.own = b.own ∨ ∃ k, b'.own = some k ∧ m ≤ k) (no : o'.own = o.own ∨ ∃ k, o'.own = some k ∧ m ≤ k) (nc : c'.own = c.own ∨ ∃ k, c'.own = some k ∧ m ≤ k) : Off R a' b' o' c' k := by
  obtain ⟨h0, h1, h2, h3, h4⟩ := h
  have key : ∀ {u v : Sl}, (v.own = u.own ∨ ∃ k, v.own = some k ∧ m ≤ k) → u.own ≠ some k → v.own ≠ some k := fun {u v} hn hu => by
    rcases hn with e | ⟨j, e, hj⟩
    · rw [e]; exact hu
    · rw [e]; intro e2; cases e2; omega
  exact ⟨h0, key na h1, key nb h2, key no h3, key nc h4⟩
theorem Mv.off {R : Nat} {a b o c a' b' o' c' : Sl} {wr w' : World} (h : Mv R a b o c a' b' o' c' wr w') {k : Nat} (hk : k < wr.heap.size) (ho : Off R a b o c k) : Off R a' b' o' c' k := off_next ho hk h.na h.nb h.no h.nc
theorem Mv.trans {R : Nat} {a b o c a' b' o' c' a2 b2 o2 c2 : Sl} {wr w' w2 : World} (h : Mv R a b o c a' b' o' c' wr w') (k : Mv R a' b' o' c' a2 b2 o2 c2 w' w2) : Mv R a b o c a2 b2 o2 c2 wr w2 := by
  have hs := h.keep.size
  have key : ∀ {u v x : Sl}, (v.own = u.own ∨ ∃ k, v.own = some k ∧ wr.heap.size ≤ k) → (x.own = v.own ∨ ∃ k, x.own = some k ∧ w'.heap.size ≤ k) → (x.own = u.own ∨ ∃ k, x.own = some k ∧ wr.heap.size ≤ k) := fun {u v x} h1 h2 => by
    rcases h2 with e | ⟨j, e, hj⟩
    · rw [e]; exact h1
    · exact .inr ⟨j, e, by omega⟩
  refine ⟨⟨k.keep.os.trans h.keep.os, k.keep.tape.trans h.keep.tape, k.keep.output.trans h.keep.output, Nat.le_trans hs k.keep.size, fun i hi ho => ?_⟩, key h.na k.na, key h.nb k.nb, key h.no k.no, key h.nc k.nc⟩
  exact (k.keep.block i (by omega) (h.off hi ho)).trans (h.keep.block i hi ho)
/-- calls that lay fresh memory -/
theorem Mv.below {R : Nat} {a b o c : Sl} {wr w' : World} (h : Below wr.heap.size wr w') : Mv R a b o c a b o c wr w' := ⟨Keep.ofBelow h (fun _ hk _ => hk), .inl rfl, .inl rfl, .inl rfl, .inl rfl⟩
theorem RM.later {w : World} {R : Nat} {a b o c : Sl} {LA LB LO : List Itm} {LC : List ByteArray} {wr w' : World} (h : RM w R a b o c LA LB LO LC wr) (hb : Below wr.heap.size wr w') : RM w R a b o c LA LB LO LC w' :=
  ⟨(hb.block _ (blkLt h.blk)).trans h.blk, h.ra.below hb, h.rb.below hb, h.ro.below hb, h.rc.below hb, h.fa, h.fb, h.fo, h.fc, h.ab, h.ao, h.bo, h.ga, h.gb, h.go, KR.then h.below hb⟩
/-- a slice of items that a result has not to do with -/
def Away (R : Nat) (a b o c : Sl) (t : TrI) : Prop := t.l ≠ [] → ∀ k, t.own = some k → Off R a b o c k
theorem Tr.kept {w w' : World} {A : Option Addr} {c : Nat} {l : List Itm} (h : Tr w A c l) (hk : ∀ k, (Value.slice A l.length c).ownBlock = some k → k < w.heap.size → w'.heap[k]? = w.heap[k]?) (hg : ∀ x ∈ l, Good w' x) : Tr w' A c l := by
  refine ⟨⟨h.cap, h.nil, fun i x hx => ?_⟩, h.max, hg⟩
  obtain ⟨b, off, h0, h1, h2, h3⟩ := h.cell i x hx
  subst h0
  have hlt := World.block_lt_of_cell? w _ h1
  have hb := hk b rfl hlt
  have hcell : ∀ i, w'.cell? ⟨b, i, Option.none⟩ = w.cell? ⟨b, i, Option.none⟩ := fun i => World.cell?_of_block (w := w) (w' := w') (a := ⟨b, i, Option.none⟩) hb
  exact ⟨b, off, rfl, (hcell _).trans h1, (hcell _).trans h2, (hcell _).trans h3⟩

/-- append onto the rows: what becomes of the result -/
theorem RM.setO {w : World} {R : Nat} {a b o c : Sl} {LA LB LO : List Itm} {LC : List ByteArray} {wr w2 : World} (h : RM w R a b o c LA LB LO LC wr) {l : List Itm} {nA : Option Addr} {nn nc : Nat} (hg : wr.grownBy w2 (Value.slice o.A o.n o.c).ownBlock)
    (hr : Row w2 42 3 (.slice nA nn nc) (LO.flatMap Itm.cells ++ l.flatMap Itm.cells)) (ha : (Value.slice nA nn nc).ownBlock = (Value.slice o.A o.n o.c).ownBlock ∨ (Value.slice nA nn nc).ownBlock = some wr.heap.size) (hl : ∀ x ∈ l, GoodR w R x) :
    RM w R a b ⟨nA, nn, nc⟩ c LA LB (LO ++ l) LC (w2.setCell ⟨R, 2, none⟩ (.slice nA nn nc)) ∧ Mv R a b o c a b ⟨nA, nn, nc⟩ c wr (w2.setCell ⟨R, 2, none⟩ (.slice nA nn nc)) := by
  have hlt := blkLt h.blk
  have hoR : o.own ≠ some R := h.ro.neBlk h.blk (by decide)
  have hbk2 : w2.heap[R]? = _ := (hg.block R hlt (fun e => hoR e.symm)).trans h.blk
  have far : ∀ k, k ≠ R → (w2.setCell ⟨R, 2, none⟩ (.slice nA nn nc)).heap[k]? = w2.heap[k]? := fun k hk => Below.heap_setCell w2 _ _ k hk
  have keepR : ∀ {e : TypeId} {sz : Nat} {v : Value} {xs : List Value}, Row wr e sz v xs → (∀ k, v.ownBlock = some k → k ≠ R) → (∀ k, v.ownBlock = some k → o.own ≠ some k) → Row (w2.setCell ⟨R, 2, none⟩ (.slice nA nn nc)) e sz v xs := fun hv h1 h2 => hv.keep fun k hk => (far k (h1 k hk)).trans (hg.block k (hv.lt k hk) (fun e => h2 k hk e.symm))
  have ne : ∀ {e : TypeId} {sz : Nat} {v : Value} {xs : List Value}, Row wr e sz v xs → e ≠ 28 → ∀ k, v.ownBlock = some k → k ≠ R := fun hv he k hk e => by subst e; exact hv.neBlk h.blk he hk
  have hnew : ∀ k, (⟨nA, nn, nc⟩ : Sl).own = some k → o.own = some k ∨ k = wr.heap.size := fun k hk => by
    rcases ha with e | e
    · exact .inl (e.symm.trans hk)
    · right
      have : (⟨nA, nn, nc⟩ : Sl).own = some wr.heap.size := e
      rw [this] at hk; cases hk; rfl
  refine ⟨⟨?_, keepR h.ra (ne h.ra (by decide)) h.ao, keepR h.rb (ne h.rb (by decide)) h.bo, ?_, keepR h.rc (ne h.rc (by decide)) (fun k hk => h.rc.neRow h.ro (by decide) hk), h.fa, h.fb, fun k hk => ?_, h.fc, h.ab, fun k hk e => ?_, fun k hk e => ?_, h.ga, h.gb, fun x hx => ?_, ?_⟩, ⟨?_, .inl rfl, .inl rfl, ?_, .inl rfl⟩⟩
  · have := blkSet hbk2 2 (.slice nA nn nc)
    simpa using this
  · rw [List.flatMap_append]
    exact hr.keep fun k hk => far k (by rintro rfl; exact hr.neBlk hbk2 (by decide) hk)
  · rcases hnew k hk with e | e
    · exact h.fo k e
    · rw [e]; exact h.below.size
  · rcases hnew k e with e | e
    · exact h.ao k hk e
    · rw [e] at hk; have := h.ra.lt _ hk; omega
  · rcases hnew k e with e | e
    · exact h.bo k hk e
    · rw [e] at hk; have := h.rb.lt _ hk; omega
  · rcases List.mem_append.1 hx with hx | hx
    · exact h.go x hx
    · exact hl x hx
  · exact (KR.grown h.below hg h.fo).setR _ _
  · refine ⟨hg.os, hg.tape, hg.output, by simpa using hg.size, fun k hk ho => (far k ho.1).trans (hg.block k hk (fun e => ho.2.2.2.1 e.symm))⟩
  · rcases ha with e | e
    · exact .inl e
    · exact .inr ⟨_, e, Nat.le_refl _⟩
theorem RM.setA {w : World} {R : Nat} {a b o c : Sl} {LA LB LO : List Itm} {LC : List ByteArray} {wr w2 : World} (h : RM w R a b o c LA LB LO LC wr) {l : List Itm} {nA : Option Addr} {nn nc : Nat} (hg : wr.grownBy w2 (Value.slice a.A a.n a.c).ownBlock)
    (hr : Row w2 42 3 (.slice nA nn nc) (LA.flatMap Itm.cells ++ l.flatMap Itm.cells)) (ha : (Value.slice nA nn nc).ownBlock = (Value.slice a.A a.n a.c).ownBlock ∨ (Value.slice nA nn nc).ownBlock = some wr.heap.size) (hl : ∀ x ∈ l, GoodR w R x) :
    RM w R ⟨nA, nn, nc⟩ b o c (LA ++ l) LB LO LC (w2.setCell ⟨R, 0, none⟩ (.slice nA nn nc)) ∧ Mv R a b o c ⟨nA, nn, nc⟩ b o c wr (w2.setCell ⟨R, 0, none⟩ (.slice nA nn nc)) := by
  have hlt := blkLt h.blk
  have hoR : a.own ≠ some R := h.ra.neBlk h.blk (by decide)
  have hbk2 : w2.heap[R]? = _ := (hg.block R hlt (fun e => hoR e.symm)).trans h.blk
  have far : ∀ k, k ≠ R → (w2.setCell ⟨R, 0, none⟩ (.slice nA nn nc)).heap[k]? = w2.heap[k]? := fun k hk => Below.heap_setCell w2 _ _ k hk
  have keepR : ∀ {e : TypeId} {sz : Nat} {v : Value} {xs : List Value}, Row wr e sz v xs → (∀ k, v.ownBlock = some k → k ≠ R) → (∀ k, v.ownBlock = some k → a.own ≠ some k) → Row (w2.setCell ⟨R, 0, none⟩ (.slice nA nn nc)) e sz v xs := fun hv h1 h2 => hv.keep fun k hk => (far k (h1 k hk)).trans (hg.block k (hv.lt k hk) (fun e => h2 k hk e.symm))
  have ne : ∀ {e : TypeId} {sz : Nat} {v : Value} {xs : List Value}, Row wr e sz v xs → e ≠ 28 → ∀ k, v.ownBlock = some k → k ≠ R := fun hv he k hk e => by subst e; exact hv.neBlk h.blk he hk
  have hnew : ∀ k, (⟨nA, nn, nc⟩ : Sl).own = some k → a.own = some k ∨ k = wr.heap.size := fun k hk => by
    rcases ha with e | e
    · exact .inl (e.symm.trans hk)
    · right
      have : (⟨nA, nn, nc⟩ : Sl).own = some wr.heap.size := e
      rw [this] at hk; cases hk; rfl
  refine ⟨⟨?_, ?_, keepR h.rb (ne h.rb (by decide)) (fun k hk e => h.ab k e hk), keepR h.ro (ne h.ro (by decide)) (fun k hk e => h.ao k e hk), keepR h.rc (ne h.rc (by decide)) (fun k hk => h.rc.neRow h.ra (by decide) hk), fun k hk => ?_, h.fb, h.fo, h.fc, fun k hk e => ?_, fun k hk e => ?_, h.bo, fun x hx => ?_, h.gb, h.go, ?_⟩, ⟨?_, ?_, .inl rfl, .inl rfl, .inl rfl⟩⟩
  · have := blkSet hbk2 0 (.slice nA nn nc)
    simpa using this
  · rw [List.flatMap_append]
    exact hr.keep fun k hk => far k (by rintro rfl; exact hr.neBlk hbk2 (by decide) hk)
  · rcases hnew k hk with e | e
    · exact h.fa k e
    · rw [e]; exact h.below.size
  · rcases hnew k hk with e2 | e2
    · exact h.ab k e2 e
    · rw [e2] at e; have := h.rb.lt _ e; omega
  · rcases hnew k hk with e2 | e2
    · exact h.ao k e2 e
    · rw [e2] at e; have := h.ro.lt _ e; omega
  · rcases List.mem_append.1 hx with hx | hx
    · exact h.ga x hx
    · exact hl x hx
  · exact (KR.grown h.below hg h.fa).setR _ _
  · refine ⟨hg.os, hg.tape, hg.output, by simpa using hg.size, fun k hk ho => (far k ho.1).trans (hg.block k hk (fun e => ho.2.1 e.symm))⟩
  · rcases ha with e | e
    · exact .inl e
    · exact .inr ⟨_, e, Nat.le_refl _⟩
theorem RM.setB {w : World} {R : Nat} {a b o c : Sl} {LA LB LO : List Itm} {LC : List ByteArray} {wr w2 : World} (h : RM w R a b o c LA LB LO LC wr) {l : List Itm} {nA : Option Addr} {nn nc : Nat} (hg : wr.grownBy w2 (Value.slice b.A b.n b.c).ownBlock)
    (hr : Row w2 42 3 (.slice nA nn nc) (LB.flatMap Itm.cells ++ l.flatMap Itm.cells)) (ha : (Value.slice nA nn nc).ownBlock = (Value.slice b.A b.n b.c).ownBlock ∨ (Value.slice nA nn nc).ownBlock = some wr.heap.size) (hl : ∀ x ∈ l, GoodR w R x) :
    RM w R a ⟨nA, nn, nc⟩ o c LA (LB ++ l) LO LC (w2.setCell ⟨R, 1, none⟩ (.slice nA nn nc)) ∧ Mv R a b o c a ⟨nA, nn, nc⟩ o c wr (w2.setCell ⟨R, 1, none⟩ (.slice nA nn nc)) := by
  have hlt := blkLt h.blk
  have hoR : b.own ≠ some R := h.rb.neBlk h.blk (by decide)
  have hbk2 : w2.heap[R]? = _ := (hg.block R hlt (fun e => hoR e.symm)).trans h.blk
  have far : ∀ k, k ≠ R → (w2.setCell ⟨R, 1, none⟩ (.slice nA nn nc)).heap[k]? = w2.heap[k]? := fun k hk => Below.heap_setCell w2 _ _ k hk
  have keepR : ∀ {e : TypeId} {sz : Nat} {v : Value} {xs : List Value}, Row wr e sz v xs → (∀ k, v.ownBlock = some k → k ≠ R) → (∀ k, v.ownBlock = some k → b.own ≠ some k) → Row (w2.setCell ⟨R, 1, none⟩ (.slice nA nn nc)) e sz v xs := fun hv h1 h2 => hv.keep fun k hk => (far k (h1 k hk)).trans (hg.block k (hv.lt k hk) (fun e => h2 k hk e.symm))
  have ne : ∀ {e : TypeId} {sz : Nat} {v : Value} {xs : List Value}, Row wr e sz v xs → e ≠ 28 → ∀ k, v.ownBlock = some k → k ≠ R := fun hv he k hk e => by subst e; exact hv.neBlk h.blk he hk
  have hnew : ∀ k, (⟨nA, nn, nc⟩ : Sl).own = some k → b.own = some k ∨ k = wr.heap.size := fun k hk => by
    rcases ha with e | e
    · exact .inl (e.symm.trans hk)
    · right
      have : (⟨nA, nn, nc⟩ : Sl).own = some wr.heap.size := e
      rw [this] at hk; cases hk; rfl
  refine ⟨⟨?_, keepR h.ra (ne h.ra (by decide)) h.ab, ?_, keepR h.ro (ne h.ro (by decide)) (fun k hk e => h.bo k e hk), keepR h.rc (ne h.rc (by decide)) (fun k hk => h.rc.neRow h.rb (by decide) hk), h.fa, fun k hk => ?_, h.fo, h.fc, fun k hk e => ?_, h.ao, fun k hk e => ?_, h.ga, fun x hx => ?_, h.go, ?_⟩, ⟨?_, .inl rfl, ?_, .inl rfl, .inl rfl⟩⟩
  · have := blkSet hbk2 1 (.slice nA nn nc)
    simpa using this
  · rw [List.flatMap_append]
    exact hr.keep fun k hk => far k (by rintro rfl; exact hr.neBlk hbk2 (by decide) hk)
  · rcases hnew k hk with e | e
    · exact h.fb k e
    · rw [e]; exact h.below.size
  · rcases hnew k e with e | e
    · exact h.ab k hk e
    · rw [e] at hk; have := h.ra.lt _ hk; omega
  · rcases hnew k hk with e2 | e2
    · exact h.bo k e2 e
    · rw [e2] at e; have := h.ro.lt _ e; omega
  · rcases List.mem_append.1 hx with hx | hx
    · exact h.gb x hx
    · exact hl x hx
  · exact (KR.grown h.below hg h.fb).setR _ _
  · refine ⟨hg.os, hg.tape, hg.output, by simpa using hg.size, fun k hk ho => (far k ho.1).trans (hg.block k hk (fun e => ho.2.2.1 e.symm))⟩
  · rcases ha with e | e
    · exact .inl e
    · exact .inr ⟨_, e, Nat.le_refl _⟩
theorem RM.setC {w : World} {R : Nat} {a b o c : Sl} {LA LB LO : List Itm} {LC : List ByteArray} {wr w2 : World} (h : RM w R a b o c LA LB LO LC wr) {s : ByteArray} {nA : Option Addr} {nn nc : Nat} (hg : wr.grownBy w2 (Value.slice c.A c.n c.c).ownBlock)
    (hr : Row w2 9 1 (.slice nA nn nc) (LC.map .string ++ [.string s])) (ha : (Value.slice nA nn nc).ownBlock = (Value.slice c.A c.n c.c).ownBlock ∨ (Value.slice nA nn nc).ownBlock = some wr.heap.size) :
    RM w R a b o ⟨nA, nn, nc⟩ LA LB LO (LC ++ [s]) (w2.setCell ⟨R, 3, none⟩ (.slice nA nn nc)) ∧ Mv R a b o c a b o ⟨nA, nn, nc⟩ wr (w2.setCell ⟨R, 3, none⟩ (.slice nA nn nc)) := by
  have hlt := blkLt h.blk
  have hoR : c.own ≠ some R := h.rc.neBlk h.blk (by decide)
  have hbk2 : w2.heap[R]? = _ := (hg.block R hlt (fun e => hoR e.symm)).trans h.blk
  have far : ∀ k, k ≠ R → (w2.setCell ⟨R, 3, none⟩ (.slice nA nn nc)).heap[k]? = w2.heap[k]? := fun k hk => Below.heap_setCell w2 _ _ k hk
  have keepR : ∀ {e : TypeId} {sz : Nat} {v : Value} {xs : List Value}, Row wr e sz v xs → (∀ k, v.ownBlock = some k → k ≠ R) → (∀ k, v.ownBlock = some k → c.own ≠ some k) → Row (w2.setCell ⟨R, 3, none⟩ (.slice nA nn nc)) e sz v xs := fun hv h1 h2 => hv.keep fun k hk => (far k (h1 k hk)).trans (hg.block k (hv.lt k hk) (fun e => h2 k hk e.symm))
  have ne : ∀ {e : TypeId} {sz : Nat} {v : Value} {xs : List Value}, Row wr e sz v xs → e ≠ 28 → ∀ k, v.ownBlock = some k → k ≠ R := fun hv he k hk e => by subst e; exact hv.neBlk h.blk he hk
  refine ⟨⟨?_, keepR h.ra (ne h.ra (by decide)) (fun k hk => h.ra.neRow h.rc (by decide) hk), keepR h.rb (ne h.rb (by decide)) (fun k hk => h.rb.neRow h.rc (by decide) hk), keepR h.ro (ne h.ro (by decide)) (fun k hk => h.ro.neRow h.rc (by decide) hk), ?_, h.fa, h.fb, h.fo, fun k hk => ?_, h.ab, h.ao, h.bo, h.ga, h.gb, h.go, ?_⟩, ⟨?_, .inl rfl, .inl rfl, .inl rfl, ?_⟩⟩
  · have := blkSet hbk2 3 (.slice nA nn nc)
    simpa using this
  · rw [List.map_append]
    exact hr.keep fun k hk => far k (by rintro rfl; exact hr.neBlk hbk2 (by decide) hk)
  · rcases ha with e | e
    · exact h.fc k (e.symm.trans hk)
    · have e2 : (⟨nA, nn, nc⟩ : Sl).own = some wr.heap.size := e
      rw [e2] at hk; cases hk; exact h.below.size
  · exact (KR.grown h.below hg h.fc).setR _ _
  · refine ⟨hg.os, hg.tape, hg.output, by simpa using hg.size, fun k hk ho => (far k ho.1).trans (hg.block k hk (fun e => ho.2.2.2.2 e.symm))⟩
  · rcases ha with e | e
    · exact .inl e
    · exact .inr ⟨_, e, Nat.le_refl _⟩

end Go.Proofs.YtfbbjfbnkcklgaaGreatDoor

/- dir; keep -/
namespace Go.Proofs.YtfbbjfbnkcklgaaGreatDoor
open Go.RowKit

/-- the first is the path, and a directory -/
def headDir : List AIt → Txt → Bool
  | [], _ => false
  | x :: _, q => x.p == q && x.d
theorem head_dir {T : List AIt} (hT : sortedA T) {q : Txt} (hq : q ≠ []) : headDir (underA T q) q = foundDir T q := by
  have hs := under_sorted hT q
  have hm : ∀ z, z ∈ underA T q ↔ z ∈ T ∧ withinA q z.p = true := fun z => mem_under
  have hw : withinA q q = true := within_iff.2 (.inl rfl)
  unfold foundDir
  cases hf : findA T q with
  | none =>
    have h0 := find_none_iff.1 hf
    cases hu : underA T q with
    | nil => rfl
    | cons x r =>
      have hx := (hm x).1 (by rw [hu]; exact List.mem_cons_self)
      show (x.p == q && x.d) = false
      rw [show (x.p == q) = false from beq_eq_false_iff_ne.2 (h0 x hx.1)]
      rfl
  | some z =>
    obtain ⟨hz, hp⟩ := (find_iff hT).1 hf
    have hzu := (hm z).2 ⟨hz, by rw [hp]; exact hw⟩
    cases hu : underA T q with
    | nil => rw [hu] at hzu; cases hzu
    | cons x r =>
      rw [hu] at hzu hs
      rcases List.mem_cons.1 hzu with rfl | hzr
      · show (z.p == q && z.d) = z.d
        rw [show (z.p == q) = true from beq_iff_eq.2 hp]
        rfl
      · exfalso
        have h1 := (List.pairwise_cons.1 hs).1 z hzr
        have hx := (hm x).1 (by rw [hu]; exact List.mem_cons_self)
        rw [hp] at h1
        rcases within_iff.1 hx.2 with h2 | h2 | ⟨y, h2⟩
        · rw [h2, less_irrefl] at h1; cases h1
        · exact hq h2
        · rw [h2, less_pref] at h1; cases h1

set_option maxHeartbeats 1600000 in
theorem mdir_walk (A : Option Addr) (c : Nat) (l : List Itm) (q : ByteArray) (w : World) (h : Tr w A c l) :
    Calls Tryz.prog 92 #[.slice A l.length c, .string q] w fun e w' => e = .returned (.bool (headDir (l.map Itm.abs) q.toList)) ∧ w = w' := by
  have hmax := h.max
  cases l with
  | nil =>
    go_enter Tryz.func92, Tryz.ntmps92
    go_wp2_with fail
    go_ret
    exact ⟨rfl, rfl⟩
  | cons x r =>
    obtain ⟨b, off, hA, c0, c1, c2, hg⟩ := h.at (i := 0) (by simp)
    simp only [List.getElem_cons_zero, Nat.zero_mul, Nat.add_zero] at c0 c1 c2 hg
    subst hA
    have i1 : (0 : Int) < ((r.length + 1 : Nat) : Int) := by omega
    show Calls Tryz.prog 92 #[.slice (some ⟨b, off, none⟩) (r.length + 1) c, .string q] w _
    have hout : headDir ((x :: r).map Itm.abs) q.toList = ((x.p.toList == q.toList) && x.d) := rfl
    rw [hout]
    clear hout h hg c2
    cases hd : (x.p.toList == q.toList)
    · go_enter Tryz.func92, Tryz.ntmps92
      go_wp2_with fail
      go_ret
      exact ⟨rfl, rfl⟩
    · go_enter Tryz.func92, Tryz.ntmps92
      go_wp2_with fail
      go_ret
      exact ⟨by simp, rfl⟩

end Go.Proofs.YtfbbjfbnkcklgaaGreatDoor

/- keep -/
namespace Go.Proofs.YtfbbjfbnkcklgaaGreatDoor
open Go.RowKit

theorem itm_len' (x : Itm) : x.cells.length = 3 := rfl
theorem itms_one (l : List Itm) : ∀ u ∈ l.flatMap Itm.cells, u.oneCell' = true := flat_one (fun x u hu => by
  simp [Itm.cells] at hu
  rcases hu with rfl | rfl | rfl <;> rfl) l
theorem apps_bound {L l : List Itm} (h : L.length + l.length ≤ 1000000) : (L.flatMap Itm.cells).length + (l.flatMap Itm.cells).length ≤ maxLen ∧ ((L.flatMap Itm.cells).length + (l.flatMap Itm.cells).length) * 48 ≤ 140737488355328 := by
  rw [flat_len itm_len', flat_len itm_len']
  constructor
  · simp only [maxLen]; omega
  · omega
theorem Tr.ltW {w : World} {A : Option Addr} {c : Nat} {l : List Itm} (h : Tr w A c l) (hl : l ≠ []) : ∀ k, (Value.slice A l.length c).ownBlock = some k → k < w.heap.size := by
  cases l with
  | nil => exact absurd rfl hl
  | cons x r =>
    obtain ⟨b, off, hA, c0, _⟩ := h.cell 0 x rfl
    subst hA
    intro k hk
    simp only [Value.ownBlock, Option.some.injEq] at hk
    subst hk
    exact World.block_lt_of_cell? w _ c0
theorem Tr.moved {w : World} {R : Nat} {a b o c a' b' o' c' : Sl} {wr w' : World} {t : TrI} (h : Tr wr t.A t.c t.l) (ha : Away R a b o c t) (hm : Mv R a b o c a' b' o' c' wr w') (hg : ∀ x ∈ t.l, GoodR w R x) (hb : KR R w w') : Tr w' t.A t.c t.l := by
  by_cases hl : t.l = []
  · have hc := h.cap
    have hn := h.nil
    rw [hl] at hc ⊢
    exact ⟨⟨hc, hn, fun i x hx => by simp at hx⟩, by simp, by simp⟩
  · exact h.kept (fun k hk hlt => hm.keep.block k hlt (ha hl k hk)) (fun x hx => (hg x hx).later hb)
theorem Away.moved {R : Nat} {a b o c a' b' o' c' : Sl} {wr w' : World} {t : TrI} (ha : Away R a b o c t) (h : Tr wr t.A t.c t.l) (hm : Mv R a b o c a' b' o' c' wr w') : Away R a' b' o' c' t :=
  fun hl k hk => hm.off (h.ltW hl k hk) (ha hl k hk)

set_option maxRecDepth 100000 in
set_option maxHeartbeats 4000000 in
theorem keep_walk {w : World} {R : Nat} {a b o c : Sl} {LA LB LO : List Itm} {LC : List ByteArray} {wr : World} (h : RM w R a b o c LA LB LO LC wr) (tO tA tB : TrI) (hO : Tr wr tO.A tO.c tO.l) (hA : Tr wr tA.A tA.c tA.l) (hB : Tr wr tB.A tB.c tB.l)
    (aA : Away R a b o c tA) (aB : Away R a b o c tB) (gO : ∀ x ∈ tO.l, GoodR w R x) (gA : ∀ x ∈ tA.l, GoodR w R x) (gB : ∀ x ∈ tB.l, GoodR w R x)
    (nO : LO.length + tO.l.length ≤ 1000000) (nA : LA.length + tA.l.length ≤ 1000000) (nB : LB.length + tB.l.length ≤ 1000000) :
    Calls Tryz.prog 91 #[.pointer (some ⟨R, 0, none⟩), .slice tO.A tO.l.length tO.c, .slice tA.A tA.l.length tA.c, .slice tB.A tB.l.length tB.c] wr fun e w' => (∃ v, e = .returned v) ∧ ∃ a' b' o', RM w R a' b' o' c (LA ++ tA.l) (LB ++ tB.l) (LO ++ tO.l) LC w' ∧ Mv R a b o c a' b' o' c wr w' := by
  obtain ⟨ti, hi0, hz0, hz1, hz2⟩ := info_parts infoItem
  obtain ⟨o1, o2⟩ := apps_bound nO
  obtain ⟨a1, a2⟩ := apps_bound nA
  obtain ⟨b1, b2⟩ := apps_bound nB
  have c2 : wr.cell? ⟨R, 2, none⟩ = some (.slice o.A o.n o.c) := (blkCell h.blk 2).trans rfl
  have HR := hid h
  have HSO := hid hO.src
  have HTA := hid hA
  have HTB := hid hB
  have hro := h.ro
  clear hO hA hB
  go_enter Tryz.func91, Tryz.ntmps91
  go_wp2_with (first | (at_builtin; refine wpList_append_row _ rfl _ _ 25 rfl 42 ti (.agg #[.string ByteArray.empty, .bool false, .slice none 0 0]) 3 48 Tryz.underlying25 hi0 hz0 hz1 hz2 rfl (by decide) (.slice o.A o.n o.c) (LO.flatMap Itm.cells) rfl hro (.slice tO.A tO.l.length tO.c) (tO.l.flatMap Itm.cells) rfl HSO.out (itms_one _) o1 o2 ?_; intro oA on oc w2 hr2 hg2 ha2; have hk2 := (hg2.block R (blkLt HR.out.blk) (fun e => HR.out.ro.neBlk HR.out.blk (by decide) e.symm)).trans HR.out.blk; have f2 := blkFree hk2 2; have q2 : w2.cell? ⟨R, 2, none⟩ = some (.slice o.A o.n o.c) := (blkCell hk2 2).trans rfl; have HS2 := hid (HR.out.setO hg2 hr2 ha2 gO); have c0 : (w2.setCell ⟨R, 2, none⟩ (.slice oA on oc)).cell? ⟨R, 0, none⟩ = some (.slice a.A a.n a.c) := (blkCell HS2.out.1.blk 0).trans rfl; have hra := HS2.out.1.ra; have hsa := (HTA.out.moved aA HS2.out.2 gA HS2.out.1.below).src; clear hr2 hg2 ha2 hk2 hro) | (at_builtin; refine wpList_append_row _ rfl _ _ 25 rfl 42 ti (.agg #[.string ByteArray.empty, .bool false, .slice none 0 0]) 3 48 Tryz.underlying25 hi0 hz0 hz1 hz2 rfl (by decide) (.slice a.A a.n a.c) (LA.flatMap Itm.cells) rfl hra (.slice tA.A tA.l.length tA.c) (tA.l.flatMap Itm.cells) rfl hsa (itms_one _) a1 a2 ?_; intro aA' an ac w3 hr3 hg3 ha3; have hk3 := (hg3.block R (blkLt HS2.out.1.blk) (fun e => HS2.out.1.ra.neBlk HS2.out.1.blk (by decide) e.symm)).trans HS2.out.1.blk; have f3 := blkFree hk3 0; have q3 : w3.cell? ⟨R, 0, none⟩ = some (.slice a.A a.n a.c) := (blkCell hk3 0).trans rfl; have HS3 := hid (HS2.out.1.setA hg3 hr3 ha3 gA); have HM3 := hid (HS2.out.2.trans HS3.out.2); have c1 : (w3.setCell ⟨R, 0, none⟩ (.slice aA' an ac)).cell? ⟨R, 1, none⟩ = some (.slice b.A b.n b.c) := (blkCell HS3.out.1.blk 1).trans rfl; have hrb := HS3.out.1.rb; have hsb := (HTB.out.moved aB HM3.out gB HS3.out.1.below).src; clear hr3 hg3 ha3 hk3 hra hsa) | (at_builtin; refine wpList_append_row _ rfl _ _ 25 rfl 42 ti (.agg #[.string ByteArray.empty, .bool false, .slice none 0 0]) 3 48 Tryz.underlying25 hi0 hz0 hz1 hz2 rfl (by decide) (.slice b.A b.n b.c) (LB.flatMap Itm.cells) rfl hrb (.slice tB.A tB.l.length tB.c) (tB.l.flatMap Itm.cells) rfl hsb (itms_one _) b1 b2 ?_; intro bA bn bc w4 hr4 hg4 ha4; have hk4 := (hg4.block R (blkLt HS3.out.1.blk) (fun e => HS3.out.1.rb.neBlk HS3.out.1.blk (by decide) e.symm)).trans HS3.out.1.blk; have f4 := blkFree hk4 1; have q4 : w4.cell? ⟨R, 1, none⟩ = some (.slice b.A b.n b.c) := (blkCell hk4 1).trans rfl; have HS4 := hid (HS3.out.1.setB hg4 hr4 ha4 gB); have HM4 := hid (HM3.out.trans HS4.out.2); clear hr4 hg4 ha4 hk4 hrb hsb) | fail)
  go_end0
  exact ⟨⟨_, rfl⟩, _, _, _, HS4.out.1, HM4.out⟩

end Go.Proofs.YtfbbjfbnkcklgaaGreatDoor

/- the parts of a part of a right tree -/
namespace Go.Proofs.YtfbbjfbnkcklgaaGreatDoor
open Go.RowKit

/-- what a tree has within a path; or nothing, where the path is no directory of it -/
def PartOf (T : List AIt) (q : Txt) (l : List Itm) : Prop := l.map Itm.abs = underA T q ∨ (l = [] ∧ foundDir T q = false ∧ q ≠ [])
theorem dir_found {T : List AIt} (hT : RightP T) {q : Txt} {y : AIt} (hy : y ∈ T) (hp : y.p = q) (hd : y.d = true) : foundDir T q = true := by
  unfold foundDir
  rw [(find_iff hT.sorted).2 ⟨hy, hp⟩]
  exact hd
theorem part_kid {T : List AIt} {q : Txt} {l : List Itm} (hT : RightP T) (h : PartOf T q l) {x : Txt} (hx : pathB x = true) (hu : upT x = q) : (kidL l q x).map Itm.abs = underA T x := by
  have hqx : withinA q x = true := up_within hx hu
  have hne := path_ne hx
  rcases h with h | ⟨rfl, hf, hq⟩
  · have e : (kidL l q x).map Itm.abs = (l.map Itm.abs).filter fun z => decide (climbT q z.p = x) := by
      rw [List.filter_map]
      unfold kidL
      congr 1
      apply List.filter_congr
      intro y _
      simp only [hu, decide_true, Bool.and_true]
      rfl
    rw [e, h]
    unfold underA
    rw [List.filter_filter]
    apply List.filter_congr
    intro z hz
    rw [Bool.eq_iff_iff, Bool.and_eq_true, decide_eq_true_eq, climb_iff hT hx hu hz]
    exact ⟨fun h => h.1, fun h => ⟨h, within_trans hne hqx h⟩⟩
  · unfold underA
    symm
    show _ = []
    rw [List.filter_eq_nil_iff]
    intro z hz hw
    have h1 := up_short hx
    have h2 := within_len hw
    rw [hu] at h1
    obtain ⟨y, hy, hp, hd⟩ := right_above hT hq _ z (Nat.le_refl _) hz (within_trans hne hqx hw) (fun e => by rw [← e] at h2; omega)
    rw [dir_found hT hy hp hd] at hf
    cases hf
theorem part_has {T : List AIt} {q : Txt} {l : List Itm} (hT : RightP T) (h : PartOf T q l) (x : Txt) : kidL l q x ≠ [] ↔ upT x = q ∧ ∃ z ∈ T, z.p = x := by
  constructor
  · intro hk
    obtain ⟨y, hy, hc, hu⟩ := kid_short hk
    refine ⟨hu, ?_⟩
    rcases h with h | ⟨rfl, _, _⟩
    · have hm : y.abs ∈ underA T q := by rw [← h]; exact List.mem_map_of_mem hy
      obtain ⟨⟨z, hz, hp⟩, _⟩ := climb_spec hT (p := q) y.abs.p.length y.abs (Nat.le_refl _) (mem_under.1 hm).1
      exact ⟨z, hz, hp.trans hc⟩
    · cases hy
  · rintro ⟨hu, z, hz, rfl⟩ hk
    have h1 := part_kid hT h (hT.path hz) hu
    rw [hk] at h1
    have h2 : z ∈ underA T z.p := mem_under.2 ⟨hz, within_self _⟩
    rw [← h1] at h2
    cases h2
theorem names_are {o a b : List AIt} {q : Txt} {lo la lb : List Itm} (h : Right3 o a b) (ho : PartOf o q lo) (ha : PartOf a q la) (hb : PartOf b q lb) {ns : List Txt} (hs : sortedN ns) (hm : ∀ x, x ∈ ns ↔ (kidL lo q x ≠ [] ∨ kidL la q x ≠ [] ∨ kidL lb q x ≠ [])) : ns = namesA o a b q := by
  refine sortedN_ext hs (namesA_sorted o a b q) fun x => ?_
  rw [hm, mem_names, part_has h.o ho, part_has h.a ha, part_has h.b hb]
  unfold inU
  constructor
  · rintro (⟨h1, h2⟩ | ⟨h1, h2⟩ | ⟨h1, h2⟩)
    · exact ⟨h1, .inl h2⟩
    · exact ⟨h1, .inr (.inl h2)⟩
    · exact ⟨h1, .inr (.inr h2)⟩
  · rintro ⟨h1, h2 | h2 | h2⟩
    · exact .inl ⟨h1, h2⟩
    · exact .inr (.inl ⟨h1, h2⟩)
    · exact .inr (.inr ⟨h1, h2⟩)

/-- a result's parts -/
structure RS where
  a : Sl
  b : Sl
  o : Sl
  c : Sl
  LA : List Itm
  LB : List Itm
  LO : List Itm
  LC : List ByteArray
abbrev RS.In (w : World) (R : Nat) (S : RS) (wr : World) : Prop := RM w R S.a S.b S.o S.c S.LA S.LB S.LO S.LC wr
abbrev RS.Mv (R : Nat) (S S' : RS) (wr w' : World) : Prop := Go.Proofs.YtfbbjfbnkcklgaaGreatDoor.Mv R S.a S.b S.o S.c S'.a S'.b S'.o S'.c wr w'
abbrev RS.Off (R : Nat) (S : RS) (k : Nat) : Prop := Go.Proofs.YtfbbjfbnkcklgaaGreatDoor.Off R S.a S.b S.o S.c k
abbrev RS.Away (R : Nat) (S : RS) (t : TrI) : Prop := Go.Proofs.YtfbbjfbnkcklgaaGreatDoor.Away R S.a S.b S.o S.c t
/-- what a call brings -/
structure RS.Grow (S S' : RS) (XA XB XO : List AIt) (XC : List Txt) : Prop where
  a : S'.LA.map Itm.abs = S.LA.map Itm.abs ++ XA
  b : S'.LB.map Itm.abs = S.LB.map Itm.abs ++ XB
  o : S'.LO.map Itm.abs = S.LO.map Itm.abs ++ XO
  c : S'.LC.map (fun z : ByteArray => z.toList) = S.LC.map (fun z : ByteArray => z.toList) ++ XC
theorem RS.Grow.refl (S : RS) : S.Grow S [] [] [] [] := ⟨by simp, by simp, by simp, by simp⟩
theorem RS.Grow.trans {S S' S2 : RS} {XA XB XO YA YB YO : List AIt} {XC YC : List Txt} (h : S.Grow S' XA XB XO XC) (k : S'.Grow S2 YA YB YO YC) : S.Grow S2 (XA ++ YA) (XB ++ YB) (XO ++ YO) (XC ++ YC) :=
  ⟨by rw [k.a, h.a, List.append_assoc], by rw [k.b, h.b, List.append_assoc], by rw [k.o, h.o, List.append_assoc], by rw [k.c, h.c, List.append_assoc]⟩
/-- room for what comes -/
structure RS.Room (S : RS) (XA XB XO : List AIt) (XC : List Txt) : Prop where
  a : S.LA.length + XA.length ≤ 100000
  b : S.LB.length + XB.length ≤ 100000
  o : S.LO.length + XO.length ≤ 100000
  c : S.LC.length + XC.length ≤ 100000
theorem RS.Room.left {S : RS} {XA XB XO YA YB YO : List AIt} {XC YC : List Txt} (h : S.Room (XA ++ YA) (XB ++ YB) (XO ++ YO) (XC ++ YC)) : S.Room XA XB XO XC := by
  obtain ⟨h1, h2, h3, h4⟩ := h
  rw [List.length_append] at h1 h2 h3 h4
  exact ⟨by omega, by omega, by omega, by omega⟩
theorem RS.Room.right {S S' : RS} {XA XB XO YA YB YO : List AIt} {XC YC : List Txt} (h : S.Room (XA ++ YA) (XB ++ YB) (XO ++ YO) (XC ++ YC)) (g : S.Grow S' XA XB XO XC) : S'.Room YA YB YO YC := by
  obtain ⟨h1, h2, h3, h4⟩ := h
  rw [List.length_append] at h1 h2 h3 h4
  have g1 := congrArg List.length g.a
  have g2 := congrArg List.length g.b
  have g3 := congrArg List.length g.o
  have g4 := congrArg List.length g.c
  simp only [List.length_append, List.length_map] at g1 g2 g3 g4
  exact ⟨by omega, by omega, by omega, by omega⟩
theorem RM.offNew {w : World} {R : Nat} {a b o c : Sl} {LA LB LO : List Itm} {LC : List ByteArray} {wr : World} (h : RM w R a b o c LA LB LO LC wr) {k : Nat} (hk : wr.heap.size ≤ k) : Off R a b o c k := by
  have h0 := blkLt h.blk
  refine ⟨by omega, fun e => ?_, fun e => ?_, fun e => ?_, fun e => ?_⟩
  · have := h.ra.lt _ e; omega
  · have := h.rb.lt _ e; omega
  · have := h.ro.lt _ e; omega
  · have := h.rc.lt _ e; omega
theorem Recs.kept {α : Type} {f : α → List Value} {m : Nat} {w w' : World} {A : Option Addr} {c : Nat} {l : List α} (h : Recs f m w A c l) (hk : ∀ k, (Value.slice A l.length c).ownBlock = some k → k < w.heap.size → w'.heap[k]? = w.heap[k]?) : Recs f m w' A c l :=
  ⟨h.cap, h.nil, fun i x hx => by
    obtain ⟨b, off, h0, h1⟩ := h.cell i x hx
    subst h0
    refine ⟨b, off, rfl, fun k u hu => ?_⟩
    have hc := h1 k u hu
    have hlt := World.block_lt_of_cell? w _ hc
    exact (World.cell?_of_block (w := w) (w' := w') (a := ⟨b, off + i * m + k, Option.none⟩) (hk b rfl hlt)).trans hc⟩

end Go.Proofs.YtfbbjfbnkcklgaaGreatDoor

/- all, where at is known -/
namespace Go.Proofs.YtfbbjfbnkcklgaaGreatDoor
open Go.RowKit

/-- a part that the walk stands at -/
structure SpotG (o a b : List AIt) (w wr : World) (R : Nat) (S : RS) (s : Spot) : Prop where
  ok : SpotOk wr s
  io : s.o.l.map Itm.abs = underA o s.q.toList
  ia : s.a.l.map Itm.abs = underA a s.q.toList
  ib : s.b.l.map Itm.abs = underA b s.q.toList
  go : ∀ x ∈ s.o.l, GoodR w R x
  ga : ∀ x ∈ s.a.l, GoodR w R x
  gb : ∀ x ∈ s.b.l, GoodR w R x
  wo : S.Away R s.o
  wa : S.Away R s.a
  wb : S.Away R s.b
theorem SpotG.moved {o a b : List AIt} {w wr w' : World} {R : Nat} {S S' : RS} {s : Spot} (h : SpotG o a b w wr R S s) (hm : S.Mv R S' wr w') (hb : KR R w w') : SpotG o a b w w' R S' s :=
  ⟨⟨h.ok.size, h.ok.o.moved h.wo hm h.go hb, h.ok.a.moved h.wa hm h.ga hb, h.ok.b.moved h.wb hm h.gb hb⟩, h.io, h.ia, h.ib, h.go, h.ga, h.gb, h.wo.moved h.ok.o hm, h.wa.moved h.ok.a hm, h.wb.moved h.ok.b hm⟩
/-- what a call of at, of all does -/
def Brings (w : World) (R : Nat) (S : RS) (wr : World) (XA XB XO : List AIt) (XC : List Txt) (e : Ending) (w' : World) : Prop :=
  (∃ v, e = .returned v) ∧ ∃ S' : RS, S'.In w R w' ∧ S.Mv R S' wr w' ∧ S.Grow S' XA XB XO XC
theorem SpotsAt.at {w : World} {A : Option Addr} {c : Nat} {l : List Spot} (h : SpotsAt w A c l) {i : Nat} (hi : i < l.length) : ∃ b off, A = some ⟨b, off, none⟩ ∧ w.cell? ⟨b, off + i * 4, none⟩ = some (.string l[i].q) ∧ w.cell? ⟨b, off + i * 4 + 1, none⟩ = some (.slice l[i].o.A l[i].o.l.length l[i].o.c) ∧
    w.cell? ⟨b, off + i * 4 + 2, none⟩ = some (.slice l[i].a.A l[i].a.l.length l[i].a.c) ∧ w.cell? ⟨b, off + i * 4 + 3, none⟩ = some (.slice l[i].b.A l[i].b.l.length l[i].b.c) := by
  obtain ⟨b, off, hA, hc⟩ := h.recs.cell i l[i] (List.getElem?_eq_getElem hi)
  exact ⟨b, off, hA, hc 0 _ rfl, hc 1 _ rfl, hc 2 _ rfl, hc 3 _ rfl⟩
theorem flat_take {α β : Type} (l : List α) (f : α → List β) {j : Nat} (h : j < l.length) : (l.take (j + 1)).flatMap f = (l.take j).flatMap f ++ f l[j] := by
  rw [List.take_add_one, List.getElem?_eq_getElem h, List.flatMap_append]
  simp
theorem flat_part {α β : Type} (l : List α) (f : α → List β) {j : Nat} (h : j < l.length) : l.flatMap f = (l.take j).flatMap f ++ (f l[j] ++ (l.drop (j + 1)).flatMap f) := by
  rw [← List.append_assoc, ← flat_take l f h, ← List.flatMap_append, List.take_append_drop]

set_option maxRecDepth 100000 in
set_option maxHeartbeats 4000000 in
theorem all_loop (o a b : List AIt) (w : World) (R : Nat) (S : RS) (ws : World) (C : Option Addr) (u : Nat) (ss : List Spot) (fA fB fO : Txt → List AIt) (fC : Txt → List Txt) (hin : S.In w R ws) (hss : SpotsAt ws C u ss) (hC : ∀ k, (Value.slice C ss.length u).ownBlock = some k → S.Off R k)
    (hs : ∀ s ∈ ss, SpotG o a b w ws R S s) (hroom : S.Room (ss.flatMap fun s => fA s.q.toList) (ss.flatMap fun s => fB s.q.toList) (ss.flatMap fun s => fO s.q.toList) (ss.flatMap fun s => fC s.q.toList))
    (hat : ∀ s ∈ ss, ∀ (S' : RS) (w1 : World), S'.In w R w1 → SpotG o a b w w1 R S' s → S'.Room (fA s.q.toList) (fB s.q.toList) (fO s.q.toList) (fC s.q.toList) →
      Calls Tryz.prog 58 #[.pointer (some ⟨R, 0, none⟩), .agg #[.string s.q, .slice s.o.A s.o.l.length s.o.c, .slice s.a.A s.a.l.length s.a.c, .slice s.b.A s.b.l.length s.b.c]] w1 (Brings w R S' w1 (fA s.q.toList) (fB s.q.toList) (fO s.q.toList) (fC s.q.toList))) :
    Calls Tryz.prog 38 #[.pointer (some ⟨R, 0, none⟩), .slice C ss.length u] ws (Brings w R S ws (ss.flatMap fun s => fA s.q.toList) (ss.flatMap fun s => fB s.q.toList) (ss.flatMap fun s => fO s.q.toList) (ss.flatMap fun s => fC s.q.toList)) := by
  have hmax := hss.max
  have HS := hid hs
  have HAT := hid hat
  have HIN := hid hin
  have HROOM := hid hroom
  clear hs hat hin hroom
  go_enter Tryz.func38, Tryz.ntmps38
  go_wp2_with fail
  go_loopg [8] ss.length (fun k i wr => ∃ (j : Nat) (S' : RS), j ≤ ss.length ∧ k = ss.length - j ∧ i = .int .i64 j ∧ S'.In w R wr ∧ S.Mv R S' ws wr ∧ S.Grow S' ((ss.take j).flatMap fun s => fA s.q.toList) ((ss.take j).flatMap fun s => fB s.q.toList) ((ss.take j).flatMap fun s => fO s.q.toList) ((ss.take j).flatMap fun s => fC s.q.toList))
  case atStart => exact ⟨0, S, Nat.zero_le _, rfl, rfl, HIN.out, Mv.refl _ _ _ _ _ _, RS.Grow.refl S⟩
  case round =>
    obtain ⟨j, S', hj, rfl, rfl, hin, hmv, hgr⟩ := hrel
    have HI := hid hin
    have HM := hid hmv
    have HG := hid hgr
    by_cases hlt : j < ss.length
    · have i0 : (0 : Int) ≤ (j : Int) := by omega
      have i1 : (j : Int) < (ss.length : Int) := by omega
      obtain ⟨b0, off, hA, k0, k1, k2, k3⟩ := hss.at hlt
      subst hA
      have hsame : ∀ (i : Nat) (x : Value), ws.cell? ⟨b0, i, none⟩ = some x → wr.cell? ⟨b0, i, none⟩ = some x := fun i x hx => (World.cell?_of_block (w := ws) (w' := wr) (a := ⟨b0, i, none⟩) (hmv.keep.block b0 (World.block_lt_of_cell? ws _ hx) (hC b0 rfl))).trans hx
      have c0 := hsame _ _ k0
      have c1 := hsame _ _ k1
      have c2 := hsame _ _ k2
      have c3 := hsame _ _ k3
      have hrm := HROOM.out
      rw [flat_part ss (fun s => fA s.q.toList) hlt, flat_part ss (fun s => fB s.q.toList) hlt, flat_part ss (fun s => fO s.q.toList) hlt, flat_part ss (fun s => fC s.q.toList) hlt] at hrm
      have hrm2 := (hrm.right hgr).left
      have hba := thenA (Below.refl _ wr) (.cells #[.string ss[j].q, .slice ss[j].o.A ss[j].o.l.length ss[j].o.c, .slice ss[j].a.A ss[j].a.l.length ss[j].a.c, .slice ss[j].b.A ss[j].b.l.length ss[j].b.c] 92 (0, 0))
      have hin2 := hin.later hba
      have hmv2 : S'.Mv R S' wr _ := Mv.below hba
      have hsg := ((HS.out ss[j] (List.getElem_mem hlt)).moved hmv hin.below).moved hmv2 hin2.below
      have HCALL := hid (HAT.out ss[j] (List.getElem_mem hlt) S' _ hin2 hsg hrm2)
      have HM2 := hid (hmv.trans hmv2)
      clear hin hmv hgr k0 k1 k2 k3 hsame hrm hrm2 hba hin2 hmv2 hsg
      go_wp2_with fail
      refine HCALL.out.mono ?_
      rintro e w2 ⟨⟨v, rfl⟩, S2, h1, h2, h3⟩
      have H1 := hid h1
      have H2 := hid (HM2.out.trans h2)
      have H3 := hid (HG.out.trans h3)
      clear h1 h2 h3
      go_wp2_with fail
      go_roundg (ss.length - (j + 1))
      case measure => omega
      case rel => exact ⟨j + 1, S2, by omega, rfl, by go_num, H1.out, H2.out, by rw [flat_take ss (fun s => fA s.q.toList) hlt, flat_take ss (fun s => fB s.q.toList) hlt, flat_take ss (fun s => fO s.q.toList) hlt, flat_take ss (fun s => fC s.q.toList) hlt]; exact H3.out⟩
    · obtain rfl : j = ss.length := by omega
      clear hin hmv hgr
      go_wp2_with fail
      go_end0
      refine ⟨⟨_, rfl⟩, S', HI.out, HM.out, ?_⟩
      have := HG.out
      rw [List.take_length] at this
      exact this

end Go.Proofs.YtfbbjfbnkcklgaaGreatDoor

/- what at brings, case by case; all out of at -/
namespace Go.Proofs.YtfbbjfbnkcklgaaGreatDoor
open Go.RowKit

section
variable (o a b : List AIt)
def resX (R : Txt → List AIt) (n : Nat) (q : Txt) : List AIt := if descB o a b q = true then ⟨q, true, []⟩ :: mgX (namesA o a b) (descB o a b) R n q else R q
def resC (n : Nat) (q : Txt) : List Txt := if descB o a b q = true then mgC (namesA o a b) (descB o a b) (confB o a b) n q else if confB o a b q = true then [q] else []
abbrev allX (R : Txt → List AIt) (n : Nat) (p : Txt) : List AIt := mgX (namesA o a b) (descB o a b) R n p
abbrev allC (n : Nat) (p : Txt) : List Txt := mgC (namesA o a b) (descB o a b) (confB o a b) n p
def AtOk (n : Nat) : Prop := ∀ (w : World) (R : Nat) (S : RS) (wr : World) (s : Spot), S.In w R wr → SpotG o a b w wr R S s → inU o a b s.q.toList → 126 ≤ s.q.toList.length + n →
  S.Room (resX o a b (ruleA o a b) n s.q.toList) (resX o a b (ruleB o a b) n s.q.toList) (resX o a b (ruleO o a b) n s.q.toList) (resC o a b n s.q.toList) →
  Calls Tryz.prog 58 #[.pointer (some ⟨R, 0, none⟩), .agg #[.string s.q, .slice s.o.A s.o.l.length s.o.c, .slice s.a.A s.a.l.length s.a.c, .slice s.b.A s.b.l.length s.b.c]] wr
    (Brings w R S wr (resX o a b (ruleA o a b) n s.q.toList) (resX o a b (ruleB o a b) n s.q.toList) (resX o a b (ruleO o a b) n s.q.toList) (resC o a b n s.q.toList))
def AllOk (n : Nat) : Prop := ∀ (w : World) (R : Nat) (S : RS) (wr : World) (C : Option Addr) (u : Nat) (ss : List Spot) (p : Txt), S.In w R wr → SpotsAt wr C u ss → (∀ k, (Value.slice C ss.length u).ownBlock = some k → S.Off R k) → (∀ s ∈ ss, SpotG o a b w wr R S s) →
  ss.map (fun s => s.q.toList) = namesA o a b p → 126 ≤ p.length + n → S.Room (allX o a b (ruleA o a b) n p) (allX o a b (ruleB o a b) n p) (allX o a b (ruleO o a b) n p) (allC o a b n p) →
  Calls Tryz.prog 38 #[.pointer (some ⟨R, 0, none⟩), .slice C ss.length u] wr (Brings w R S wr (allX o a b (ruleA o a b) n p) (allX o a b (ruleB o a b) n p) (allX o a b (ruleO o a b) n p) (allC o a b n p))
end
section
variable {o a b : List AIt}
theorem res_take {n : Nat} {q : Txt} (h : takeA o a b q = true) : resX o a b (ruleA o a b) n q = underA a q ∧ resX o a b (ruleB o a b) n q = underA a q ∧ resX o a b (ruleO o a b) n q = underA a q ∧ resC o a b n q = [] := by
  simp [resX, resC, descB, confB, ruleA, ruleB, ruleO, h]
theorem res_first {n : Nat} {q : Txt} (h : takeA o a b q = false) (h1 : firstO o a q = true) : resX o a b (ruleA o a b) n q = underA b q ∧ resX o a b (ruleB o a b) n q = underA b q ∧ resX o a b (ruleO o a b) n q = underA b q ∧ resC o a b n q = [] := by
  simp [resX, resC, descB, confB, ruleA, ruleB, ruleO, h, h1]
theorem res_desc {n : Nat} {q : Txt} (h : takeA o a b q = false) (h1 : firstO o a q = false) (h2 : bothD a b q = true) (R : Txt → List AIt) : resX o a b R n q = [⟨q, true, []⟩] ++ allX o a b R n q := by
  simp [resX, descB, h, h1, h2]
theorem resC_desc {n : Nat} {q : Txt} (h : takeA o a b q = false) (h1 : firstO o a q = false) (h2 : bothD a b q = true) : resC o a b n q = [] ++ allC o a b n q := by
  simp [resC, descB, h, h1, h2]
theorem res_conf {n : Nat} {q : Txt} (h : takeA o a b q = false) (h1 : firstO o a q = false) (h2 : bothD a b q = false) : resX o a b (ruleA o a b) n q = underA a q ∧ resX o a b (ruleB o a b) n q = underA b q ∧ resX o a b (ruleO o a b) n q = underA o q ∧ resC o a b n q = [q] := by
  simp [resX, resC, descB, confB, ruleA, ruleB, ruleO, h, h1, h2]

theorem names_far (h : Right3 o a b) {p : Txt} (hn : 126 ≤ p.length) : namesA o a b p = [] := by
  cases hl : namesA o a b p with
  | nil => rfl
  | cons q r =>
    exfalso
    have hq : q ∈ namesA o a b p := by rw [hl]; exact List.mem_cons_self
    obtain ⟨h1, h2⟩ := mem_names.1 hq
    have h3 := h.pathU h2
    have h4 := pathB_short h3
    have h5 := up_short h3
    rw [h1] at h5
    omega
theorem all_zero (h : Right3 o a b) : AllOk o a b 0 := by
  intro w R S wr C u ss p hin hss hC hs hn hl hroom
  have h0 := names_far h (p := p) (by omega)
  rw [h0] at hn
  obtain rfl : ss = [] := List.map_eq_nil_iff.1 hn
  exact all_loop o a b w R S wr C u [] (fun _ => []) (fun _ => []) (fun _ => []) (fun _ => []) hin hss hC hs hroom (fun s hs => by cases hs)
theorem all_of_at (h : Right3 o a b) {n : Nat} (hat : AtOk o a b n) : AllOk o a b (n + 1) := by
  intro w R S wr C u ss p hin hss hC hs hn hl hroom
  have key : ∀ {β : Type} (f : Txt → List β), ss.flatMap (fun s => f s.q.toList) = (namesA o a b p).flatMap f := fun f => by
    rw [← hn, List.flatMap_map]
  have eA : allX o a b (ruleA o a b) (n + 1) p = ss.flatMap fun s => resX o a b (ruleA o a b) n s.q.toList := (key _).symm
  have eB : allX o a b (ruleB o a b) (n + 1) p = ss.flatMap fun s => resX o a b (ruleB o a b) n s.q.toList := (key _).symm
  have eO : allX o a b (ruleO o a b) (n + 1) p = ss.flatMap fun s => resX o a b (ruleO o a b) n s.q.toList := (key _).symm
  have eC : allC o a b (n + 1) p = ss.flatMap fun s => resC o a b n s.q.toList := (key _).symm
  rw [eA, eB, eO, eC] at hroom ⊢
  refine all_loop o a b w R S wr C u ss _ _ _ _ hin hss hC hs hroom fun s hsm S' w1 h1 h2 h3 => ?_
  have hq : s.q.toList ∈ namesA o a b p := by rw [← hn]; exact List.mem_map_of_mem hsm
  obtain ⟨h4, h5⟩ := mem_names.1 hq
  have h6 := up_short (h.pathU h5)
  rw [h4] at h6
  exact hat w R S' w1 s h1 h2 h5 (by omega) h3

/-- what comes of a keep -/
theorem keepB {w : World} {R : Nat} {S : RS} {wr : World} (hin : S.In w R wr) (tO tA tB : TrI) (hO : Tr wr tO.A tO.c tO.l) (hA : Tr wr tA.A tA.c tA.l) (hB : Tr wr tB.A tB.c tB.l) (aA : S.Away R tA) (aB : S.Away R tB)
    (gO : ∀ x ∈ tO.l, GoodR w R x) (gA : ∀ x ∈ tA.l, GoodR w R x) (gB : ∀ x ∈ tB.l, GoodR w R x) {XA XB XO : List AIt} {XC : List Txt} (hroom : S.Room XA XB XO XC) (eO : tO.l.map Itm.abs = XO) (eA : tA.l.map Itm.abs = XA) (eB : tB.l.map Itm.abs = XB) (W : World) (hb : Below wr.heap.size wr W) :
    Calls Tryz.prog 91 #[.pointer (some ⟨R, 0, none⟩), .slice tO.A tO.l.length tO.c, .slice tA.A tA.l.length tA.c, .slice tB.A tB.l.length tB.c] W (Brings w R S wr XA XB XO []) := by
  have h1 := hroom.a
  have h2 := hroom.b
  have h3 := hroom.o
  subst eO
  subst eA
  subst eB
  rw [List.length_map] at h1 h2 h3
  refine (keep_walk (hin.later hb) tO tA tB (hO.below hb) (hA.below hb) (hB.below hb) aA aB gO gA gB (by omega) (by omega) (by omega)).mono ?_
  rintro e w' ⟨hv, a', b', o', hr, hm⟩
  exact ⟨hv, ⟨a', b', o', S.c, S.LA ++ tA.l, S.LB ++ tB.l, S.LO ++ tO.l, S.LC⟩, hr, (Mv.below hb).trans hm, ⟨by simp, by simp, by simp, by simp⟩⟩
end

end Go.Proofs.YtfbbjfbnkcklgaaGreatDoor
