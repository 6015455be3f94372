/- prefixes; tree.within -/
import Derived.Test.YtfbbjfbnkcklgaaGreatDoorK6
namespace Go.Proofs.YtfbbjfbnkcklgaaGreatDoor
open Go.RowKit

def prefB (p s : List UInt8) : Bool := decide (p.length ≤ s.length) && (s.take p.length == p)

set_option maxHeartbeats 1600000 in
theorem hasprefix (s p : ByteArray) (w : World) : Calls Tryz.prog 145 #[.string s, .string p] w fun e w' => e = .returned (.bool (prefB p.toList s.toList)) ∧ w = w' := by
  have hlp := str_len p
  have hls := str_len s
  unfold prefB
  by_cases h : p.size ≤ s.size
  · have g1 : decide ((s.size : Int) ≥ (p.size : Int)) = true := decide_eq_true (by omega)
    have e1 : decide (p.toList.length ≤ s.toList.length) = true := decide_eq_true (by omega)
    have e2 : (s.extract 0 p.size).toList = s.toList.take p.toList.length := by rw [ext_take, hlp]
    rw [e1, ← e2]
    have i0 : (0 : Int) ≤ (p.size : Int) := by omega
    have i1 : (p.size : Int) ≤ (s.size : Int) := by omega
    clear e1 e2
    go_enter Tryz.func145, Tryz.ntmps145
    go_wp2_with fail
    go_ret
    exact ⟨by simp, rfl⟩
  · have g1 : decide ((s.size : Int) ≥ (p.size : Int)) = false := decide_eq_false (by omega)
    have e1 : decide (p.toList.length ≤ s.toList.length) = false := decide_eq_false (by omega)
    rw [e1]
    clear e1
    go_enter Tryz.func145, Tryz.ntmps145
    go_wp2_with fail
    go_ret
    exact ⟨by simp, rfl⟩
theorem prefB_len {p s : List UInt8} (h : prefB p s = true) : p.length ≤ s.length := by
  unfold prefB at h
  simp at h
  exact h.1

set_option maxHeartbeats 1600000 in
theorem cutprefix (s p : ByteArray) (w : World) : Calls Tryz.prog 119 #[.string s, .string p] w fun e w' => e = .returned (.tuple #[.string (if prefB p.toList s.toList then s.extract p.size s.size else s), .bool (prefB p.toList s.toList)]) ∧ w = w' := by
  have H := hid (hasprefix s p w)
  have hlp := str_len p
  have hls := str_len s
  have HC : Calls Tryz.prog 151 #[.string s, .string p] w fun e w' => e = .returned (.tuple #[.string (if prefB p.toList s.toList then s.extract p.size s.size else s), .bool (prefB p.toList s.toList)]) ∧ w = w' := by
    cases h : prefB p.toList s.toList
    · rw [h] at H
      go_enter Tryz.func151, Tryz.ntmps151
      go_wp2_with fail
      refine H.out.mono ?_
      rintro e w' ⟨rfl, rfl⟩
      go_wp2_with fail
      go_ret2
      exact ⟨rfl, rfl⟩
    · rw [h] at H
      have h1 := prefB_len h
      have i0 : (0 : Int) ≤ (p.size : Int) := by omega
      have i1 : (p.size : Int) ≤ (s.size : Int) := by omega
      go_enter Tryz.func151, Tryz.ntmps151
      go_wp2_with fail
      refine H.out.mono ?_
      rintro e w' ⟨rfl, rfl⟩
      go_wp2_with fail
      go_ret2
      exact ⟨rfl, rfl⟩
  replace HC := hid HC
  clear H
  generalize (if prefB p.toList s.toList then s.extract p.size s.size else s) = R at HC ⊢
  generalize prefB p.toList s.toList = B at HC ⊢
  go_enter Tryz.func119, Tryz.ntmps119
  go_wp2_with fail
  refine HC.out.mono ?_
  rintro e w' ⟨rfl, rfl⟩
  go_wp2_with fail
  go_ret2
  exact ⟨rfl, rfl⟩

theorem within_pref {p q : List UInt8} : withinA p q = (prefB p q && (p == [] || q.drop p.length == [] || (q.drop p.length)[0]? == some 47)) := by
  unfold withinA prefB
  rw [Bool.eq_iff_iff]
  simp only [Bool.or_eq_true, beq_iff_eq, Bool.and_eq_true, decide_eq_true_eq]
  constructor
  · rintro ((rfl | rfl) | ⟨⟨h1, h2⟩, h3⟩)
    · exact ⟨⟨Nat.le_refl _, by simp⟩, .inl (.inr (by simp))⟩
    · exact ⟨by simp, .inl (.inl rfl)⟩
    · exact ⟨⟨by omega, h2⟩, .inr (by rw [List.getElem?_drop]; simpa using h3)⟩
  · rintro ⟨⟨h1, h2⟩, (h3 | h3) | h3⟩
    · exact .inl (.inr h3)
    · left; left
      have : q.length ≤ p.length := by
        have := congrArg List.length h3
        rw [List.length_drop] at this
        simp at this
        omega
      rw [List.take_of_length_le this] at h2
      exact h2
    · right
      rw [List.getElem?_drop] at h3
      have h4 := (List.getElem?_eq_some_iff.1 h3).1
      exact ⟨⟨by omega, h2⟩, by simpa using h3⟩

set_option maxRecDepth 100000 in
set_option maxHeartbeats 1600000 in
theorem within_walk (p q : ByteArray) (w : World) : Calls Tryz.prog 88 #[.string p, .string q] w fun e w' => e = .returned (.bool (withinA p.toList q.toList)) ∧ w = w' := by
  have H := hid (cutprefix q p w)
  have hlp := str_len p
  have hlq := str_len q
  rw [within_pref]
  cases h : prefB p.toList q.toList
  · rw [h] at H
    go_enter Tryz.func88, Tryz.ntmps88
    go_wp2_with fail
    refine H.out.mono ?_
    rintro e w' ⟨rfl, rfl⟩
    go_wp2_with fail
    go_ret
    exact ⟨by simp, rfl⟩
  rw [h, if_pos rfl] at H
  have hd : (q.extract p.size q.size).toList = q.toList.drop p.toList.length := by rw [ext_drop, hlp]
  rw [← hd]
  have hle := prefB_len h
  generalize hr : q.extract p.size q.size = R at *
  clear hd hr h
  have hlr := str_len R
  cases h1 : (p.toList == [])
  case true =>
    go_enter Tryz.func88, Tryz.ntmps88
    go_wp2_with fail
    refine H.out.mono ?_
    rintro e w' ⟨rfl, rfl⟩
    go_wp2_with fail
    go_ret
    exact ⟨by simp, rfl⟩
  cases h2 : (R.toList == [])
  case true =>
    go_enter Tryz.func88, Tryz.ntmps88
    go_wp2_with fail
    refine H.out.mono ?_
    rintro e w' ⟨rfl, rfl⟩
    go_wp2_with fail
    go_ret
    exact ⟨by simp, rfl⟩
  have hpos : 0 < R.size := by
    rcases Nat.eq_zero_or_pos R.size with h | h
    · rw [h] at hlr; rw [List.eq_nil_of_length_eq_zero hlr] at h2; simp at h2
    · exact h
  have hg := str_get R 0 hpos
  have e5 : (R.toList[0]? == some 47) = ((R[0].toNat : Int) == 47) := by
    rw [hg, Bool.eq_iff_iff]
    simp only [beq_iff_eq, Option.some.injEq]
    constructor
    · intro h; rw [h]; rfl
    · intro h; exact UInt8.toNat_inj.1 (by exact_mod_cast h)
  rw [e5]
  have i1 : (0 : Int) < (R.size : Int) := by omega
  clear hg e5
  go_enter Tryz.func88, Tryz.ntmps88
  go_wp2_with fail
  refine H.out.mono ?_
  rintro e w' ⟨rfl, rfl⟩
  go_wp2_with fail
  go_ret
  exact ⟨by simp, rfl⟩

set_option maxHeartbeats 1600000 in
theorem trimprefix (s p : ByteArray) (w : World) : Calls Tryz.prog 150 #[.string s, .string p] w fun e w' => e = .returned (.string (if prefB p.toList s.toList then s.extract p.size s.size else s)) ∧ w = w' := by
  have H := hid (hasprefix s p w)
  have hlp := str_len p
  have hls := str_len s
  have HC : Calls Tryz.prog 165 #[.string s, .string p] w fun e w' => e = .returned (.string (if prefB p.toList s.toList then s.extract p.size s.size else s)) ∧ w = w' := by
    cases h : prefB p.toList s.toList
    · rw [h] at H
      go_enter Tryz.func165, Tryz.ntmps165
      go_wp2_with fail
      refine H.out.mono ?_
      rintro e w' ⟨rfl, rfl⟩
      go_wp2_with fail
      go_ret
      exact ⟨rfl, rfl⟩
    · rw [h] at H
      have h1 := prefB_len h
      have i0 : (0 : Int) ≤ (p.size : Int) := by omega
      have i1 : (p.size : Int) ≤ (s.size : Int) := by omega
      go_enter Tryz.func165, Tryz.ntmps165
      go_wp2_with fail
      refine H.out.mono ?_
      rintro e w' ⟨rfl, rfl⟩
      go_wp2_with fail
      go_ret
      exact ⟨rfl, rfl⟩
  replace HC := hid HC
  clear H
  generalize (if prefB p.toList s.toList then s.extract p.size s.size else s) = R at HC ⊢
  go_enter Tryz.func150, Tryz.ntmps150
  go_wp2_with fail
  refine HC.out.mono ?_
  rintro e w' ⟨rfl, rfl⟩
  go_wp2_with fail
  go_ret
  exact ⟨rfl, rfl⟩

end Go.Proofs.YtfbbjfbnkcklgaaGreatDoor

/- (Tree).parted, Under, Bytes -/
namespace Go.Proofs.YtfbbjfbnkcklgaaGreatDoor
open Go.RowKit

/-- a row beside one that grows -/
theorem Row.beside {w w' : World} {e : TypeId} {sz : Nat} {v u : Value} {xs : List Value} (h : Row w e sz v xs) (hg : w.grownBy w' u.ownBlock) (hne : ∀ k, v.ownBlock = some k → u.ownBlock ≠ some k) : Row w' e sz v xs :=
  h.keep fun k hk => hg.block k (h.lt k hk) (fun e => hne k hk e.symm)

set_option maxRecDepth 100000 in
set_option maxHeartbeats 4000000 in
theorem parted_walk (A : Option Addr) (c : Nat) (l : List Itm) (q : ByteArray) (w : World) (h : Tr w A c l) :
    Calls Tryz.prog 56 #[.slice A l.length c, .string q] w fun e w' => (∃ B d C u, e = .returned (.tuple #[.slice B (l.filter (fun x => withinA q.toList x.p.toList)).length d, .slice C (l.filter (fun x => !withinA q.toList x.p.toList)).length u]) ∧
      Tr w' B d (l.filter (fun x => withinA q.toList x.p.toList)) ∧ Tr w' C u (l.filter (fun x => !withinA q.toList x.p.toList))) ∧ Below w.heap.size w w' := by
  obtain ⟨i0, hi0, hz0, hz1, hz2⟩ := info_parts infoItem
  have h48 := h.max
  go_enter Tryz.func56, Tryz.ntmps56
  go_wp2_with fail
  go_loopg [4, 5, 10] l.length (fun k inn out i wr => ∃ (j : Nat) (pA : Option Addr) (pn pc : Nat) (rA : Option Addr) (rn rc : Nat), j ≤ l.length ∧ k = l.length - j ∧ i = .int .i64 j ∧ inn = .slice pA pn pc ∧ out = .slice rA rn rc ∧
    Row wr 42 3 (.slice pA pn pc) (((l.take j).filter (fun x => withinA q.toList x.p.toList)).flatMap Itm.cells) ∧ Row wr 42 3 (.slice rA rn rc) (((l.take j).filter (fun x => !withinA q.toList x.p.toList)).flatMap Itm.cells) ∧ Below w.heap.size w wr ∧
    (∀ k, (Value.slice pA pn pc).ownBlock = some k → w.heap.size ≤ k) ∧ (∀ k, (Value.slice rA rn rc).ownBlock = some k → w.heap.size ≤ k) ∧ (∀ k, (Value.slice pA pn pc).ownBlock = some k → (Value.slice rA rn rc).ownBlock ≠ some k))
  case atStart => exact ⟨0, none, 0, 0, none, 0, 0, Nat.zero_le _, rfl, rfl, rfl, rfl, Row.nil _ _ _, Row.nil _ _ _, Below.refl _ _, by simp [Value.ownBlock], by simp [Value.ownBlock], by simp [Value.ownBlock]⟩
  case round =>
    obtain ⟨j, pA, pn, pc, rA, rn, rc, hj, rfl, rfl, rfl, rfl, hrow, hrow2, hb, hf, hf2, hne⟩ := hrel
    by_cases hlt : j < l.length
    · have k0 : (0 : Int) ≤ (j : Int) := by omega
      have k1 : (j : Int) < (l.length : Int) := by omega
      obtain ⟨b, off, hA, c0, c1, c2, hg⟩ := (h.below hb).at hlt
      have HW := hid (fun W => within_walk q l[j].p W)
      subst hA
      have hnx : (l.take (j + 1)).filter (fun x => withinA q.toList x.p.toList) = (l.take j).filter (fun x => withinA q.toList x.p.toList) ++ (if withinA q.toList l[j].p.toList then [l[j]] else []) := by
        rw [List.take_add_one, List.filter_append, List.getElem?_eq_getElem hlt]
        simp [List.filter_cons]
      have hnx2 : (l.take (j + 1)).filter (fun x => !withinA q.toList x.p.toList) = (l.take j).filter (fun x => !withinA q.toList x.p.toList) ++ (if withinA q.toList l[j].p.toList then [] else [l[j]]) := by
        rw [List.take_add_one, List.filter_append, List.getElem?_eq_getElem hlt]
        cases hw : withinA q.toList l[j].p.toList <;> simp [hw]
      have HN := hid hnx
      have HN2 := hid hnx2
      have hle : ((l.take j).filter (fun x => withinA q.toList x.p.toList)).length ≤ j := Nat.le_trans (List.length_filter_le _ _) (by simp; omega)
      have hle2 : ((l.take j).filter (fun x => !withinA q.toList x.p.toList)).length ≤ j := Nat.le_trans (List.length_filter_le _ _) (by simp; omega)
      generalize (l.take j).filter (fun x => withinA q.toList x.p.toList) = L at *
      generalize (l.take j).filter (fun x => !withinA q.toList x.p.toList) = M at *
      have hc1 : (L.flatMap Itm.cells).length + l[j].cells.length ≤ maxLen := by rw [cells_len, show l[j].cells.length = 3 from rfl]; simp only [maxLen]; omega
      have hc2 : ((L.flatMap Itm.cells).length + l[j].cells.length) * 48 ≤ 140737488355328 := by rw [cells_len, show l[j].cells.length = 3 from rfl]; omega
      have hd1 : (M.flatMap Itm.cells).length + l[j].cells.length ≤ maxLen := by rw [cells_len, show l[j].cells.length = 3 from rfl]; simp only [maxLen]; omega
      have hd2 : ((M.flatMap Itm.cells).length + l[j].cells.length) * 48 ≤ 140737488355328 := by rw [cells_len, show l[j].cells.length = 3 from rfl]; omega
      have hba := thenA (Below.refl _ wr) (.cells #[.string l[j].p, .bool l[j].d, .slice l[j].dA l[j].bs.length l[j].dc] 42 (0, 0))
      have hba2 := thenA hba (.cells #[.string l[j].p, .bool l[j].d, .slice l[j].dA l[j].bs.length l[j].dc] 42 (0, 0))
      have hsi := Src.item (b := wr.heap.size + 1) l[j] (heap_alloc_new (wr.alloc (.cells #[.string l[j].p, .bool l[j].d, .slice l[j].dA l[j].bs.length l[j].dc] 42 (0, 0))) (.cells #[.string l[j].p, .bool l[j].d, .slice l[j].dA l[j].bs.length l[j].dc] 42 (0, 0)) |> fun h => by rw [World.size_alloc] at h; exact h)
      have hl1 := hrow.lt
      have hl2 := hrow2.lt
      have hsz := hb.size
      clear hnx hnx2 h
      cases hw : withinA q.toList l[j].p.toList
      · rw [hw] at HW
        go_wp2_with fail
        refine (HW.out _).mono ?_
        rintro e w' ⟨rfl, rfl⟩
        go_wp2_with (at_builtin; refine wpList_append_row _ rfl _ _ 25 rfl 42 i0 (.agg #[.string ByteArray.empty, .bool false, .slice none 0 0]) 3 48 Tryz.underlying25 hi0 hz0 hz1 hz2 rfl (by decide) (.slice rA rn rc) (M.flatMap Itm.cells) rfl (by exact hrow2.below hba2) (.slice (some ⟨wr.heap.size + 1, 0, none⟩) 1 1) l[j].cells rfl hsi (by simp [Itm.cells, Value.oneCell']) hd1 hd2 ?_; intro bA bn bc w2 hr2 hg2 ha2)
        have hb2 : Below w.heap.size w w2 := Below.grownNew (thenB hb hba2) hg2 (by simp; omega) hf2
        have hf3 := fresh_of ha2 hf2 (by simp; omega)
        have hk1 := (hrow.below hba2).beside hg2 hne
        go_roundg (l.length - (j + 1))
        case measure => omega
        case rel => exact ⟨j + 1, pA, pn, pc, bA, bn, bc, by omega, rfl, by go_num, rfl, rfl, by rw [HN.out, hw]; simpa using hk1, by rw [HN2.out, hw, List.flatMap_append]; simpa using hr2, hb2, hf, hf3, fun k hk => by
          rcases ha2 with e | e
          · rw [e]; exact hne k hk
          · rw [e]; intro e2; have := hl1 k hk; simp at e2; omega⟩
      · rw [hw] at HW
        go_wp2_with fail
        refine (HW.out _).mono ?_
        rintro e w' ⟨rfl, rfl⟩
        go_wp2_with (at_builtin; refine wpList_append_row _ rfl _ _ 25 rfl 42 i0 (.agg #[.string ByteArray.empty, .bool false, .slice none 0 0]) 3 48 Tryz.underlying25 hi0 hz0 hz1 hz2 rfl (by decide) (.slice pA pn pc) (L.flatMap Itm.cells) rfl (by exact hrow.below hba2) (.slice (some ⟨wr.heap.size + 1, 0, none⟩) 1 1) l[j].cells rfl hsi (by simp [Itm.cells, Value.oneCell']) hc1 hc2 ?_; intro bA bn bc w2 hr2 hg2 ha2)
        have hb2 : Below w.heap.size w w2 := Below.grownNew (thenB hb hba2) hg2 (by simp; omega) hf
        have hf3 := fresh_of ha2 hf (by simp; omega)
        have hk1 := (hrow2.below hba2).beside hg2 (fun k hk e => hne k e hk)
        go_roundg (l.length - (j + 1))
        case measure => omega
        case rel => exact ⟨j + 1, bA, bn, bc, rA, rn, rc, by omega, rfl, by go_num, rfl, rfl, by rw [HN.out, hw, List.flatMap_append]; simpa using hr2, by rw [HN2.out, hw]; simpa using hk1, hb2, hf3, hf2, fun k hk => by
          rcases ha2 with e | e
          · rw [e] at hk; exact hne k hk
          · rw [e] at hk; intro e2; have := hl2 k e2; simp at hk; omega⟩
    · obtain rfl : j = l.length := by omega
      rw [List.take_length] at hrow hrow2
      have hlen : ((l.filter fun x => withinA q.toList x.p.toList).length) ≤ l.length := List.length_filter_le _ _
      have hlen2 : ((l.filter fun x => !withinA q.toList x.p.toList).length) ≤ l.length := List.length_filter_le _ _
      obtain ⟨rfl, ht⟩ := Tr.ofRow hrow (fun x hx => (h.good x (List.mem_filter.1 hx).1).below hb) (by omega)
      obtain ⟨rfl, ht2⟩ := Tr.ofRow hrow2 (fun x hx => (h.good x (List.mem_filter.1 hx).1).below hb) (by omega)
      go_wp2_with fail
      go_ret2
      exact ⟨⟨_, _, _, _, rfl, ht, ht2⟩, hb⟩

/-- what own hands back, as a slice of items -/
theorem own_tr (A : Option Addr) (c : Nat) (l : List Itm) (w : World) (h : Tr w A c l) :
    Calls Tryz.prog 57 #[.slice A l.length c] w fun e w' => (∃ (B : Option Addr) (d : Nat) (l' : List Itm), e = .returned (.slice B l'.length d) ∧ Tr w' B d l' ∧ l'.map Itm.abs = l.map Itm.abs) ∧ Below w.heap.size w w' := by
  refine (own_walk A c l w h).mono ?_
  rintro e w' ⟨⟨B, d, l', rfl, hr, _, hm, hg⟩, hb⟩
  have hl : l'.length = l.length := by have := congrArg List.length hm; simpa using this
  obtain ⟨_, ht⟩ := Tr.ofRow hr (fun x hx => (hg x hx).1) (by have := h.max; omega)
  exact ⟨⟨B, d, l', rfl, ht, hm⟩, hb⟩

set_option maxHeartbeats 1600000 in
theorem under_walk (A : Option Addr) (c : Nat) (l : List Itm) (q : ByteArray) (w : World) (h : Tr w A c l) :
    Calls Tryz.prog 37 #[.slice A l.length c, .string q] w fun e w' => (∃ (B : Option Addr) (d : Nat) (l' : List Itm), e = .returned (.slice B l'.length d) ∧ Tr w' B d l' ∧ l'.map Itm.abs = underA (l.map Itm.abs) q.toList) ∧ Below w.heap.size w w' := by
  have H := hid (parted_walk A c l q w h)
  have hun : (l.filter fun x => withinA q.toList x.p.toList).map Itm.abs = underA (l.map Itm.abs) q.toList := by unfold underA; rw [List.filter_map]; rfl
  have HU := hid hun
  clear hun h
  go_enter Tryz.func37, Tryz.ntmps37
  go_wp2_with fail
  refine H.out.mono ?_
  rintro e w1 ⟨⟨B, d, C, u, rfl, ht, _⟩, hb⟩
  have HO := hid (own_tr B d _ w1 ht)
  go_wp2_with fail
  refine HO.out.mono ?_
  rintro e w2 ⟨⟨B', d', l', rfl, ht', hm⟩, hb2⟩
  have hb3 := thenB hb hb2
  have HM := hid hm
  clear hm
  go_wp2_with fail
  go_ret
  exact ⟨⟨_, _, _, rfl, ht', by rw [HM.out, HU.out]⟩, hb3⟩

end Go.Proofs.YtfbbjfbnkcklgaaGreatDoor
