/- the reference's Rename -/
import Derived.Test.YtfoedcmcdpekoaaDoorI11
import Derived.Laws.Concat
namespace Go.Proofs.YtfoedcmcdpekoaaDoor
open Go.RowKit

/-- items, moved one by one into a tree -/
def moveL (frm to : List UInt8) : List AIt → List AIt → Option (List AIt)
  | [], out => some out
  | x :: r, out => if pathB (to ++ x.p.drop frm.length) then moveL frm to r (putA out ⟨to ++ x.p.drop frm.length, x.d, x.b⟩) else none
def renameA (t : List AIt) (frm to : List UInt8) : List AIt × Int :=
  if rightA t = false then ([], 1) else if pathB frm = false ∨ pathB to = false then ([], 10) else if (findA t frm).isSome = false then ([], 5) else if dirA t to ≠ 0 then ([], dirA t to) else
  if (findA t to).isSome = true ∧ frm ≠ to then ([], 6) else if frm ≠ to ∧ withinA frm to = true then ([], 1) else
  match moveL frm to (underA t frm) (withoutA t frm) with
  | none => ([], 10)
  | some o => (o, 0)
theorem within_len {p q : List UInt8} (h : withinA p q = true) : p.length ≤ q.length := by
  unfold withinA at h
  simp only [Bool.or_eq_true, beq_iff_eq, Bool.and_eq_true, decide_eq_true_eq] at h
  rcases h with (h | h) | h
  · rw [h]; exact Nat.le_refl _
  · rw [h]; exact Nat.zero_le _
  · omega
theorem right_path {t : List AIt} (h : rightA t = true) {x : AIt} (hx : x ∈ t) : pathB x.p = true := by
  obtain ⟨j, hj, e⟩ := List.getElem_of_mem hx
  have := (fine_parts (List.getElem?_eq_getElem hj)).1 ((right_fine h).2 j hj)
  rw [e] at this
  exact this.1
theorem putA_sorted {t : List AIt} (h : sortedA t) (x : AIt) : sortedA (putA t x) := by
  unfold sortedA putA
  rw [List.pairwise_append]
  refine ⟨h.filter _, ?_, ?_⟩
  · rw [List.pairwise_cons]
    exact ⟨fun y hy => (List.mem_filter.1 hy).2, h.filter _⟩
  · intro a ha b hb
    have h1 := (List.mem_filter.1 ha).2
    rcases List.mem_cons.1 hb with rfl | hb
    · exact h1
    · exact less_trans h1 (List.mem_filter.1 hb).2
theorem putA_len (t : List AIt) (x : AIt) : (putA t x).length ≤ t.length + 1 := by
  have key : ∀ (t : List AIt) (p q : AIt → Bool), (∀ y, p y = true → q y = false) → (t.filter p).length + (t.filter q).length ≤ t.length := by
    intro t p q hpq
    induction t with
    | nil => simp
    | cons y r ih =>
      rw [List.filter_cons, List.filter_cons]
      cases hp : p y <;> cases hq : q y <;> simp <;> try omega
      rw [hpq y hp] at hq; cases hq
  unfold putA
  rw [List.length_append, List.length_cons]
  have := key t (fun y => Op.bytesLess y.p x.p) (fun y => Op.bytesLess x.p y.p) (fun y hy => less_asymm hy)
  omega
theorem under_mem {l : List Itm} {q : List UInt8} {x : Itm} (h : x ∈ l.filter fun x => withinA q x.p.toList) : x ∈ l ∧ withinA q x.p.toList = true := by simpa using List.mem_filter.1 h
theorem app_toList (a b : ByteArray) : (a ++ b).toList = a.toList ++ b.toList := by
  rw [ByteArray.toList_eq, ByteArray.toList_eq, ByteArray.toList_eq]
  simp

set_option maxRecDepth 100000 in
set_option maxHeartbeats 8000000 in
theorem refrename (A : Option Addr) (c : Nat) (l : List Itm) (frm to : ByteArray) (w : World) (h : Tr w A c l) (hf : frm.size ≤ 140737488351232) (ht : to.size ≤ 140737488351232) :
    Calls Tryd.prog 53 #[.slice A l.length c, .string frm, .string to] w fun e w' => (∃ B d l' f, e = .returned (.tuple #[.slice B l'.length d, .int .i64 f]) ∧ Tr w' B d l' ∧ (l'.map Itm.abs, f) = renameA (l.map Itm.abs) frm.toList to.toList) ∧ Below w.heap.size w w' := by
  have HF := hid (reffind_is A c l frm w h)
  have HG := hid (fun W (hW : Below w.heap.size w W) => reffind_is A c l to W (h.below hW))
  have HD := hid (fun W (hW : Below w.heap.size w W) => refdir A c l to W (h.below hW) ht)
  have HR := hid (fun W (hW : Below w.heap.size w W) => refright A c l W (h.below hW))
  have HP := hid (fun W => refpath frm W)
  have HQ := hid (fun W => refpath to W)
  have HW := hid (fun W => refwithin frm to W hf)
  have HU := hid (fun W (hW : Below w.heap.size w W) => refunder A c l frm W (h.below hW) hf)
  have HO := hid (fun W (hW : Below w.heap.size w W) => refwithout A c l frm W (h.below hW) hf)
  have hun : (l.filter fun x => withinA frm.toList x.p.toList).map Itm.abs = underA (l.map Itm.abs) frm.toList := by unfold underA; rw [List.filter_map]; rfl
  have hwo : (l.filter fun x => !withinA frm.toList x.p.toList).map Itm.abs = withoutA (l.map Itm.abs) frm.toList := by unfold withoutA; rw [List.filter_map]; rfl
  have HUN := hid hun
  have HWO := hid hwo
  have HS := hid (right_sorted (t := l.map Itm.abs))
  have HRP := hid (fun (hR : rightA (l.map Itm.abs) = true) (x : Itm) (hx : x ∈ l) => right_path hR (List.mem_map_of_mem (f := Itm.abs) hx))
  have hm := h.max
  clear h hun hwo
  obtain ⟨D, hD⟩ : ∃ D, dirA (l.map Itm.abs) to.toList = D := ⟨_, rfl⟩
  rw [hD] at HD
  have HDD := hid hD
  clear hD
  cases hR : rightA (l.map Itm.abs)
  · rw [hR] at HR
    go_enter Tryd.func53, Tryd.ntmps53
    go_wp2_with fail
    refine HF.out.mono ?_
    rintro e w1 ⟨⟨a0, a1, a2, a3, rfl⟩, hb1⟩
    go_wp2_with fail
    refine (HG.out _ (thenA hb1 _)).mono ?_
    rintro e w2 ⟨⟨b0, b1, b2, b3, rfl⟩, hb2⟩
    replace hb2 := thenB (thenA hb1 _) hb2
    go_wp2_with fail
    refine (HD.out _ (thenA hb2 _)).mono ?_
    rintro e w3 ⟨rfl, hb3⟩
    replace hb3 := thenB (thenA hb2 _) hb3
    go_wp2_with fail
    refine (HR.out _ hb3).mono ?_
    rintro e w4 ⟨rfl, hb4⟩
    replace hb4 := thenB hb3 hb4
    go_wp2_with fail
    go_ret2
    exact ⟨⟨none, 0, [], 1, rfl, Tr.none _, by simp [renameA, hR]⟩, hb4⟩
  · rw [hR] at HR
    cases hP : pathB frm.toList
    · rw [hP] at HP
      go_enter Tryd.func53, Tryd.ntmps53
      go_wp2_with fail
      refine HF.out.mono ?_
      rintro e w1 ⟨⟨a0, a1, a2, a3, rfl⟩, hb1⟩
      go_wp2_with fail
      refine (HG.out _ (thenA hb1 _)).mono ?_
      rintro e w2 ⟨⟨b0, b1, b2, b3, rfl⟩, hb2⟩
      replace hb2 := thenB (thenA hb1 _) hb2
      go_wp2_with fail
      refine (HD.out _ (thenA hb2 _)).mono ?_
      rintro e w3 ⟨rfl, hb3⟩
      replace hb3 := thenB (thenA hb2 _) hb3
      go_wp2_with fail
      refine (HR.out _ hb3).mono ?_
      rintro e w4 ⟨rfl, hb4⟩
      replace hb4 := thenB hb3 hb4
      go_wp2_with fail
      refine (HP.out _).mono ?_
      rintro e w5 ⟨rfl, hb5⟩
      replace hb5 := thenB hb4 hb5
      go_wp2_with fail
      go_ret2
      exact ⟨⟨none, 0, [], 10, rfl, Tr.none _, by simp [renameA, hR, hP]⟩, hb5⟩
    · rw [hP] at HP
      cases hQ : pathB to.toList
      · rw [hQ] at HQ
        go_enter Tryd.func53, Tryd.ntmps53
        go_wp2_with fail
        refine HF.out.mono ?_
        rintro e w1 ⟨⟨a0, a1, a2, a3, rfl⟩, hb1⟩
        go_wp2_with fail
        refine (HG.out _ (thenA hb1 _)).mono ?_
        rintro e w2 ⟨⟨b0, b1, b2, b3, rfl⟩, hb2⟩
        replace hb2 := thenB (thenA hb1 _) hb2
        go_wp2_with fail
        refine (HD.out _ (thenA hb2 _)).mono ?_
        rintro e w3 ⟨rfl, hb3⟩
        replace hb3 := thenB (thenA hb2 _) hb3
        go_wp2_with fail
        refine (HR.out _ hb3).mono ?_
        rintro e w4 ⟨rfl, hb4⟩
        replace hb4 := thenB hb3 hb4
        go_wp2_with fail
        refine (HP.out _).mono ?_
        rintro e w5 ⟨rfl, hb5⟩
        replace hb5 := thenB hb4 hb5
        go_wp2_with fail
        refine (HQ.out _).mono ?_
        rintro e w6 ⟨rfl, hb6⟩
        replace hb6 := thenB hb5 hb6
        go_wp2_with fail
        go_ret2
        exact ⟨⟨none, 0, [], 10, rfl, Tr.none _, by simp [renameA, hR, hP, hQ]⟩, hb6⟩
      · rw [hQ] at HQ
        replace hQ := hid hQ
        cases hF : (findA (l.map Itm.abs) frm.toList).isSome
        · rw [hF] at HF
          have hF2 := hid hF
          clear hF
          go_enter Tryd.func53, Tryd.ntmps53
          go_wp2_with fail
          refine HF.out.mono ?_
          rintro e w1 ⟨⟨a0, a1, a2, a3, rfl⟩, hb1⟩
          go_wp2_with fail
          refine (HG.out _ (thenA hb1 _)).mono ?_
          rintro e w2 ⟨⟨b0, b1, b2, b3, rfl⟩, hb2⟩
          replace hb2 := thenB (thenA hb1 _) hb2
          go_wp2_with fail
          refine (HD.out _ (thenA hb2 _)).mono ?_
          rintro e w3 ⟨rfl, hb3⟩
          replace hb3 := thenB (thenA hb2 _) hb3
          go_wp2_with fail
          refine (HR.out _ hb3).mono ?_
          rintro e w4 ⟨rfl, hb4⟩
          replace hb4 := thenB hb3 hb4
          go_wp2_with fail
          refine (HP.out _).mono ?_
          rintro e w5 ⟨rfl, hb5⟩
          replace hb5 := thenB hb4 hb5
          go_wp2_with fail
          refine (HQ.out _).mono ?_
          rintro e w6 ⟨rfl, hb6⟩
          replace hb6 := thenB hb5 hb6
          go_wp2_with fail
          go_ret2
          exact ⟨⟨none, 0, [], 5, rfl, Tr.none _, by simp [renameA, hR, hP, hQ.out, hF2.out]⟩, hb6⟩
        · rw [hF] at HF
          have hF2 := hid hF
          clear hF
          by_cases hz : D = 0
          · subst hz
            cases hG : (findA (l.map Itm.abs) to.toList).isSome
            · rw [hG] at HG
              by_cases hft : frm.toList = to.toList
              · exact absurd hF2.out (by rw [hft, hG]; simp)
              · have hne : (frm.toList == to.toList) = false := by simp [hft]
                have hG2 := hid hG
                clear hG
                cases hW : withinA frm.toList to.toList
                · rw [hW] at HW
                  have hW2 := hid hW
                  clear hW
                  go_enter Tryd.func53, Tryd.ntmps53
                  go_wp2_with fail
                  refine HF.out.mono ?_
                  rintro e w1 ⟨⟨a0, a1, a2, a3, rfl⟩, hb1⟩
                  go_wp2_with fail
                  refine (HG.out _ (thenA hb1 _)).mono ?_
                  rintro e w2 ⟨⟨b0, b1, b2, b3, rfl⟩, hb2⟩
                  replace hb2 := thenB (thenA hb1 _) hb2
                  go_wp2_with fail
                  refine (HD.out _ (thenA hb2 _)).mono ?_
                  rintro e w3 ⟨rfl, hb3⟩
                  replace hb3 := thenB (thenA hb2 _) hb3
                  go_wp2_with fail
                  refine (HR.out _ hb3).mono ?_
                  rintro e w4 ⟨rfl, hb4⟩
                  replace hb4 := thenB hb3 hb4
                  go_wp2_with fail
                  refine (HP.out _).mono ?_
                  rintro e w5 ⟨rfl, hb5⟩
                  replace hb5 := thenB hb4 hb5
                  go_wp2_with fail
                  refine (HQ.out _).mono ?_
                  rintro e w6 ⟨rfl, hb6⟩
                  replace hb6 := thenB hb5 hb6
                  go_wp2_with fail
                  refine (HW.out _).mono ?_
                  rintro e w7 ⟨rfl, rfl⟩
                  go_wp2_with fail
                  refine (HO.out _ hb6).mono ?_
                  rintro e w8 ⟨⟨B, d, rfl, htO⟩, hb8⟩
                  replace hb8 := thenB hb6 hb8
                  go_wp2_with fail
                  refine (HU.out _ hb8).mono ?_
                  rintro e w9 ⟨⟨C, u, rfl, htU⟩, hb9⟩
                  replace htO := htO.below hb9
                  replace hb9 := thenB hb8 hb9
                  clear hb8
                  have hmu := List.length_filter_le (fun x => withinA frm.toList x.p.toList) l
                  have hmo := List.length_filter_le (fun x => !withinA frm.toList x.p.toList) l
                  have HUM : HidP (∀ x ∈ l.filter (fun x => withinA frm.toList x.p.toList), pathB x.p.toList = true ∧ frm.toList.length ≤ x.p.toList.length) := hid (fun x hx => ⟨HRP.out hR x (under_mem hx).1, within_len (under_mem hx).2⟩)
                  have hsw : sortedA ((l.filter fun x => !withinA frm.toList x.p.toList).map Itm.abs) := by rw [HWO.out]; exact (HS.out hR).filter _
                  have HSW := hid hsw
                  clear hsw
                  generalize (l.filter fun x => withinA frm.toList x.p.toList) = U at *
                  generalize (l.filter fun x => !withinA frm.toList x.p.toList) = O at *
                  have h60 := (right_fine hR).1
                  rw [List.length_map] at h60
                  have hlf := str_len frm
                  have hlt := str_len to
                  have hto : to.size ≤ 125 := by rw [← hlt]; exact pathB_short hQ.out
                  have e0 : renameA (l.map Itm.abs) frm.toList to.toList = match moveL frm.toList to.toList (U.map Itm.abs) (O.map Itm.abs) with | none => ([], 10) | some o => (o, 0) := by rw [HUN.out, HWO.out]; simp [renameA, hR, hP, hQ.out, hF2.out, HDD.out, hG2.out, hft, hW2.out]
                  have HE := hid e0
                  clear e0
                  go_wp2_with fail
                  go_loopg [13, 15] U.length (fun k out i wr => ∃ (j : Nat) (pA : Option Addr) (pc : Nat) (L : List Itm), j ≤ U.length ∧ k = U.length - j ∧ i = .int .i64 j ∧ out = .slice pA L.length pc ∧ Tr wr pA pc L ∧ Below w9.heap.size w9 wr ∧ L.length ≤ O.length + j ∧ sortedA (L.map Itm.abs) ∧ moveL frm.toList to.toList (U.map Itm.abs) (O.map Itm.abs) = moveL frm.toList to.toList ((U.drop j).map Itm.abs) (L.map Itm.abs))
                  case atStart => exact ⟨0, B, d, O, Nat.zero_le _, rfl, rfl, rfl, htO, Below.refl _ _, by omega, HSW.out, by simp⟩
                  case round =>
                    obtain ⟨j, pA, pc, L, hj, rfl, rfl, rfl, htr, hb, hle, hso, hmv⟩ := hrel
                    have HSO := hid hso
                    have HMV := hid hmv
                    clear hso hmv
                    by_cases hlt2 : j < U.length
                    · have k0 : (0 : Int) ≤ (j : Int) := by omega
                      have k1 : (j : Int) < (U.length : Int) := by omega
                      obtain ⟨hpx, hfl⟩ := HUM.out U[j] (List.getElem_mem hlt2)
                      obtain ⟨b, off, hA, c0, c1, c2, hg⟩ := (htU.below hb).at hlt2
                      have hlx := str_len U[j].p
                      have hsx : U[j].p.size ≤ 125 := by rw [← hlx]; exact pathB_short hpx
                      have i0 : (0 : Int) ≤ (frm.size : Int) := by omega
                      have i1 : (frm.size : Int) ≤ (U[j].p.size : Int) := by omega
                      have hadd : ∀ W, (Op.stringOp .add to (U[j].p.extract frm.size U[j].p.size)).run Tryd.prog W = .ok (.string (to ++ U[j].p.extract frm.size U[j].p.size)) W := fun W => run_string_add_sum W _ _ (by simp; omega)
                      have hq : (to ++ U[j].p.extract frm.size U[j].p.size).toList = to.toList ++ U[j].p.toList.drop frm.toList.length := by rw [app_toList, ext_drop, hlf]
                      have hqs : (to ++ U[j].p.extract frm.size U[j].p.size).size ≤ 140737488351232 := by simp; omega
                      have hst : moveL frm.toList to.toList ((U.drop j).map Itm.abs) (L.map Itm.abs) = if pathB (to.toList ++ U[j].p.toList.drop frm.toList.length) then moveL frm.toList to.toList ((U.drop (j + 1)).map Itm.abs) (putA (L.map Itm.abs) ⟨to.toList ++ U[j].p.toList.drop frm.toList.length, U[j].d, U[j].bs⟩) else none := by
                        rw [List.drop_eq_getElem_cons hlt2]; rfl
                      rw [← hq] at hst
                      have HST := hid hst
                      have HQ2 := hid hq
                      clear hst hq hpx hfl hlx
                      subst hA
                      generalize to ++ U[j].p.extract frm.size U[j].p.size = Q at *
                      have HPQ := hid (fun W => refpath Q W)
                      cases hpq : pathB Q.toList
                      · rw [hpq] at HPQ
                        go_wp2_with fail
                        refine (HPQ.out _).mono ?_
                        rintro e w10 ⟨rfl, hb10⟩
                        go_wp2_with fail
                        go_ret2
                        exact ⟨⟨none, 0, [], 10, rfl, Tr.none _, by rw [HE.out, HMV.out, HST.out, hpq]; rfl⟩, thenB hb9 (thenB (thenA hb _) hb10)⟩
                      · rw [hpq] at HPQ
                        go_wp2_with fail
                        refine (HPQ.out _).mono ?_
                        rintro e w10 ⟨rfl, hb10⟩
                        have y0 := cellB hb10 ((blkCell (heap_alloc_new wr _) 0).trans rfl)
                        have y1 := cellB hb10 ((blkCell (heap_alloc_new wr _) 1).trans rfl)
                        have y2 := cellB hb10 ((blkCell (heap_alloc_new wr _) 2).trans rfl)
                        have hbr := thenB (thenA (Below.refl _ wr) _) hb10
                        replace hb10 := thenB (thenA hb _) hb10
                        go_wp2_with fail
                        refine (refput_sorted pA pc L ⟨Q, U[j].d, U[j].dA, U[j].dc, U[j].bs⟩ w10 (htr.below hbr) ⟨hqs, hg.len, hg.src.below hbr, hg.rng⟩ (by omega) HSO.out).mono ?_
                        rintro e w11 ⟨⟨B', d', L', rfl, ht', hl'⟩, hb11⟩
                        have hlen : L'.length ≤ L.length + 1 := by have h1 := congrArg List.length hl'; rw [List.length_map] at h1; have h2 := putA_len (L.map Itm.abs) (Itm.abs ⟨Q, U[j].d, U[j].dA, U[j].dc, U[j].bs⟩); rw [List.length_map] at h2; omega
                        have HL' := hid hl'
                        clear hl'
                        go_wp2_with fail
                        go_roundg (U.length - (j + 1))
                        case measure => omega
                        case rel => exact ⟨j + 1, B', d', L', by omega, rfl, by go_num, rfl, ht', thenB hb10 hb11, by omega, by rw [HL'.out]; exact putA_sorted HSO.out _, by rw [HMV.out, HST.out, hpq, HL'.out]; rfl⟩
                    · obtain rfl : j = U.length := by omega
                      go_wp2_with fail
                      go_ret2
                      refine ⟨⟨pA, pc, L, 0, rfl, htr, ?_⟩, thenB hb9 hb⟩
                      rw [HE.out, HMV.out]
                      simp [moveL]
                · rw [hW] at HW
                  have hW2 := hid hW
                  clear hW
                  go_enter Tryd.func53, Tryd.ntmps53
                  go_wp2_with fail
                  refine HF.out.mono ?_
                  rintro e w1 ⟨⟨a0, a1, a2, a3, rfl⟩, hb1⟩
                  go_wp2_with fail
                  refine (HG.out _ (thenA hb1 _)).mono ?_
                  rintro e w2 ⟨⟨b0, b1, b2, b3, rfl⟩, hb2⟩
                  replace hb2 := thenB (thenA hb1 _) hb2
                  go_wp2_with fail
                  refine (HD.out _ (thenA hb2 _)).mono ?_
                  rintro e w3 ⟨rfl, hb3⟩
                  replace hb3 := thenB (thenA hb2 _) hb3
                  go_wp2_with fail
                  refine (HR.out _ hb3).mono ?_
                  rintro e w4 ⟨rfl, hb4⟩
                  replace hb4 := thenB hb3 hb4
                  go_wp2_with fail
                  refine (HP.out _).mono ?_
                  rintro e w5 ⟨rfl, hb5⟩
                  replace hb5 := thenB hb4 hb5
                  go_wp2_with fail
                  refine (HQ.out _).mono ?_
                  rintro e w6 ⟨rfl, hb6⟩
                  replace hb6 := thenB hb5 hb6
                  go_wp2_with fail
                  refine (HW.out _).mono ?_
                  rintro e w7 ⟨rfl, rfl⟩
                  go_wp2_with fail
                  go_ret2
                  exact ⟨⟨none, 0, [], 1, rfl, Tr.none _, by simp [renameA, hR, hP, hQ.out, hF2.out, HDD.out, hG2.out, hft, hW2.out]⟩, hb6⟩
            · rw [hG] at HG
              by_cases hft : frm.toList = to.toList
              · have heq : (frm.toList == to.toList) = true := by simp [hft]
                have hG2 := hid hG
                clear hG
                have hft2 := hid hft
                clear hft
                go_enter Tryd.func53, Tryd.ntmps53
                go_wp2_with fail
                refine HF.out.mono ?_
                rintro e w1 ⟨⟨a0, a1, a2, a3, rfl⟩, hb1⟩
                go_wp2_with fail
                refine (HG.out _ (thenA hb1 _)).mono ?_
                rintro e w2 ⟨⟨b0, b1, b2, b3, rfl⟩, hb2⟩
                replace hb2 := thenB (thenA hb1 _) hb2
                go_wp2_with fail
                refine (HD.out _ (thenA hb2 _)).mono ?_
                rintro e w3 ⟨rfl, hb3⟩
                replace hb3 := thenB (thenA hb2 _) hb3
                go_wp2_with fail
                refine (HR.out _ hb3).mono ?_
                rintro e w4 ⟨rfl, hb4⟩
                replace hb4 := thenB hb3 hb4
                go_wp2_with fail
                refine (HP.out _).mono ?_
                rintro e w5 ⟨rfl, hb5⟩
                replace hb5 := thenB hb4 hb5
                go_wp2_with fail
                refine (HQ.out _).mono ?_
                rintro e w6 ⟨rfl, hb6⟩
                replace hb6 := thenB hb5 hb6
                go_wp2_with fail
                refine (HO.out _ hb6).mono ?_
                rintro e w8 ⟨⟨B, d, rfl, htO⟩, hb8⟩
                replace hb8 := thenB hb6 hb8
                go_wp2_with fail
                refine (HU.out _ hb8).mono ?_
                rintro e w9 ⟨⟨C, u, rfl, htU⟩, hb9⟩
                replace htO := htO.below hb9
                replace hb9 := thenB hb8 hb9
                clear hb8
                have hmu := List.length_filter_le (fun x => withinA frm.toList x.p.toList) l
                have hmo := List.length_filter_le (fun x => !withinA frm.toList x.p.toList) l
                have HUM : HidP (∀ x ∈ l.filter (fun x => withinA frm.toList x.p.toList), pathB x.p.toList = true ∧ frm.toList.length ≤ x.p.toList.length) := hid (fun x hx => ⟨HRP.out hR x (under_mem hx).1, within_len (under_mem hx).2⟩)
                have hsw : sortedA ((l.filter fun x => !withinA frm.toList x.p.toList).map Itm.abs) := by rw [HWO.out]; exact (HS.out hR).filter _
                have HSW := hid hsw
                clear hsw
                generalize (l.filter fun x => withinA frm.toList x.p.toList) = U at *
                generalize (l.filter fun x => !withinA frm.toList x.p.toList) = O at *
                have h60 := (right_fine hR).1
                rw [List.length_map] at h60
                have hlf := str_len frm
                have hlt := str_len to
                have hto : to.size ≤ 125 := by rw [← hlt]; exact pathB_short hQ.out
                have e0 : renameA (l.map Itm.abs) frm.toList to.toList = match moveL frm.toList to.toList (U.map Itm.abs) (O.map Itm.abs) with | none => ([], 10) | some o => (o, 0) := by rw [HUN.out, HWO.out]; simp [renameA, hR, hQ.out, HDD.out, hG2.out, hft2.out]
                have HE := hid e0
                clear e0
                go_wp2_with fail
                go_loopg [13, 15] U.length (fun k out i wr => ∃ (j : Nat) (pA : Option Addr) (pc : Nat) (L : List Itm), j ≤ U.length ∧ k = U.length - j ∧ i = .int .i64 j ∧ out = .slice pA L.length pc ∧ Tr wr pA pc L ∧ Below w9.heap.size w9 wr ∧ L.length ≤ O.length + j ∧ sortedA (L.map Itm.abs) ∧ moveL frm.toList to.toList (U.map Itm.abs) (O.map Itm.abs) = moveL frm.toList to.toList ((U.drop j).map Itm.abs) (L.map Itm.abs))
                case atStart => exact ⟨0, B, d, O, Nat.zero_le _, rfl, rfl, rfl, htO, Below.refl _ _, by omega, HSW.out, by simp⟩
                case round =>
                  obtain ⟨j, pA, pc, L, hj, rfl, rfl, rfl, htr, hb, hle, hso, hmv⟩ := hrel
                  have HSO := hid hso
                  have HMV := hid hmv
                  clear hso hmv
                  by_cases hlt2 : j < U.length
                  · have k0 : (0 : Int) ≤ (j : Int) := by omega
                    have k1 : (j : Int) < (U.length : Int) := by omega
                    obtain ⟨hpx, hfl⟩ := HUM.out U[j] (List.getElem_mem hlt2)
                    obtain ⟨b, off, hA, c0, c1, c2, hg⟩ := (htU.below hb).at hlt2
                    have hlx := str_len U[j].p
                    have hsx : U[j].p.size ≤ 125 := by rw [← hlx]; exact pathB_short hpx
                    have i0 : (0 : Int) ≤ (frm.size : Int) := by omega
                    have i1 : (frm.size : Int) ≤ (U[j].p.size : Int) := by omega
                    have hadd : ∀ W, (Op.stringOp .add to (U[j].p.extract frm.size U[j].p.size)).run Tryd.prog W = .ok (.string (to ++ U[j].p.extract frm.size U[j].p.size)) W := fun W => run_string_add_sum W _ _ (by simp; omega)
                    have hq : (to ++ U[j].p.extract frm.size U[j].p.size).toList = to.toList ++ U[j].p.toList.drop frm.toList.length := by rw [app_toList, ext_drop, hlf]
                    have hqs : (to ++ U[j].p.extract frm.size U[j].p.size).size ≤ 140737488351232 := by simp; omega
                    have hst : moveL frm.toList to.toList ((U.drop j).map Itm.abs) (L.map Itm.abs) = if pathB (to.toList ++ U[j].p.toList.drop frm.toList.length) then moveL frm.toList to.toList ((U.drop (j + 1)).map Itm.abs) (putA (L.map Itm.abs) ⟨to.toList ++ U[j].p.toList.drop frm.toList.length, U[j].d, U[j].bs⟩) else none := by
                      rw [List.drop_eq_getElem_cons hlt2]; rfl
                    rw [← hq] at hst
                    have HST := hid hst
                    have HQ2 := hid hq
                    clear hst hq hpx hfl hlx
                    subst hA
                    generalize to ++ U[j].p.extract frm.size U[j].p.size = Q at *
                    have HPQ := hid (fun W => refpath Q W)
                    cases hpq : pathB Q.toList
                    · rw [hpq] at HPQ
                      go_wp2_with fail
                      refine (HPQ.out _).mono ?_
                      rintro e w10 ⟨rfl, hb10⟩
                      go_wp2_with fail
                      go_ret2
                      exact ⟨⟨none, 0, [], 10, rfl, Tr.none _, by rw [HE.out, HMV.out, HST.out, hpq]; rfl⟩, thenB hb9 (thenB (thenA hb _) hb10)⟩
                    · rw [hpq] at HPQ
                      go_wp2_with fail
                      refine (HPQ.out _).mono ?_
                      rintro e w10 ⟨rfl, hb10⟩
                      have y0 := cellB hb10 ((blkCell (heap_alloc_new wr _) 0).trans rfl)
                      have y1 := cellB hb10 ((blkCell (heap_alloc_new wr _) 1).trans rfl)
                      have y2 := cellB hb10 ((blkCell (heap_alloc_new wr _) 2).trans rfl)
                      have hbr := thenB (thenA (Below.refl _ wr) _) hb10
                      replace hb10 := thenB (thenA hb _) hb10
                      go_wp2_with fail
                      refine (refput_sorted pA pc L ⟨Q, U[j].d, U[j].dA, U[j].dc, U[j].bs⟩ w10 (htr.below hbr) ⟨hqs, hg.len, hg.src.below hbr, hg.rng⟩ (by omega) HSO.out).mono ?_
                      rintro e w11 ⟨⟨B', d', L', rfl, ht', hl'⟩, hb11⟩
                      have hlen : L'.length ≤ L.length + 1 := by have h1 := congrArg List.length hl'; rw [List.length_map] at h1; have h2 := putA_len (L.map Itm.abs) (Itm.abs ⟨Q, U[j].d, U[j].dA, U[j].dc, U[j].bs⟩); rw [List.length_map] at h2; omega
                      have HL' := hid hl'
                      clear hl'
                      go_wp2_with fail
                      go_roundg (U.length - (j + 1))
                      case measure => omega
                      case rel => exact ⟨j + 1, B', d', L', by omega, rfl, by go_num, rfl, ht', thenB hb10 hb11, by omega, by rw [HL'.out]; exact putA_sorted HSO.out _, by rw [HMV.out, HST.out, hpq, HL'.out]; rfl⟩
                  · obtain rfl : j = U.length := by omega
                    go_wp2_with fail
                    go_ret2
                    refine ⟨⟨pA, pc, L, 0, rfl, htr, ?_⟩, thenB hb9 hb⟩
                    rw [HE.out, HMV.out]
                    simp [moveL]
              · have hne : (frm.toList == to.toList) = false := by simp [hft]
                have hG2 := hid hG
                clear hG
                go_enter Tryd.func53, Tryd.ntmps53
                go_wp2_with fail
                refine HF.out.mono ?_
                rintro e w1 ⟨⟨a0, a1, a2, a3, rfl⟩, hb1⟩
                go_wp2_with fail
                refine (HG.out _ (thenA hb1 _)).mono ?_
                rintro e w2 ⟨⟨b0, b1, b2, b3, rfl⟩, hb2⟩
                replace hb2 := thenB (thenA hb1 _) hb2
                go_wp2_with fail
                refine (HD.out _ (thenA hb2 _)).mono ?_
                rintro e w3 ⟨rfl, hb3⟩
                replace hb3 := thenB (thenA hb2 _) hb3
                go_wp2_with fail
                refine (HR.out _ hb3).mono ?_
                rintro e w4 ⟨rfl, hb4⟩
                replace hb4 := thenB hb3 hb4
                go_wp2_with fail
                refine (HP.out _).mono ?_
                rintro e w5 ⟨rfl, hb5⟩
                replace hb5 := thenB hb4 hb5
                go_wp2_with fail
                refine (HQ.out _).mono ?_
                rintro e w6 ⟨rfl, hb6⟩
                replace hb6 := thenB hb5 hb6
                go_wp2_with fail
                go_ret2
                exact ⟨⟨none, 0, [], 6, rfl, Tr.none _, by simp [renameA, hR, hP, hQ.out, hF2.out, HDD.out, hG2.out, hft]⟩, hb6⟩
          · have g1 : (D != 0) = true := by simp [hz]
            go_enter Tryd.func53, Tryd.ntmps53
            go_wp2_with fail
            refine HF.out.mono ?_
            rintro e w1 ⟨⟨a0, a1, a2, a3, rfl⟩, hb1⟩
            go_wp2_with fail
            refine (HG.out _ (thenA hb1 _)).mono ?_
            rintro e w2 ⟨⟨b0, b1, b2, b3, rfl⟩, hb2⟩
            replace hb2 := thenB (thenA hb1 _) hb2
            go_wp2_with fail
            refine (HD.out _ (thenA hb2 _)).mono ?_
            rintro e w3 ⟨rfl, hb3⟩
            replace hb3 := thenB (thenA hb2 _) hb3
            go_wp2_with fail
            refine (HR.out _ hb3).mono ?_
            rintro e w4 ⟨rfl, hb4⟩
            replace hb4 := thenB hb3 hb4
            go_wp2_with fail
            refine (HP.out _).mono ?_
            rintro e w5 ⟨rfl, hb5⟩
            replace hb5 := thenB hb4 hb5
            go_wp2_with fail
            refine (HQ.out _).mono ?_
            rintro e w6 ⟨rfl, hb6⟩
            replace hb6 := thenB hb5 hb6
            go_wp2_with fail
            go_ret2
            exact ⟨⟨none, 0, [], D, rfl, Tr.none _, by simp [renameA, hR, hP, hQ.out, hF2.out, HDD.out, hz]⟩, hb6⟩

end Go.Proofs.YtfoedcmcdpekoaaDoor
