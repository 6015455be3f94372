/- the reference's put -/
import Derived.Test.YtheccdidfkcbbaaDoorI7
namespace Go.Proofs.YtheccdidfkcbbaaDoor
open Go.RowKit

def putS (x : Itm) (s : Bool × List Itm) (y : Itm) : Bool × List Itm :=
  (s.1 || !Op.bytesLess y.p.toList x.p.toList, s.2 ++ (if !s.1 && !Op.bytesLess y.p.toList x.p.toList then [x] else []) ++ (if y.p.toList == x.p.toList then [] else [y]))
def putE (x : Itm) (s : Bool × List Itm) : List Itm := if s.1 then s.2 else s.2 ++ [x]
/-- a tree with an item: the reference's way -/
def putR (l : List Itm) (x : Itm) : List Itm := putE x (l.foldl (putS x) (false, []))
theorem putS_next {l : List Itm} {x : Itm} {j : Nat} {s : Bool × List Itm} (hj : j < l.length) (h : (l.take j).foldl (putS x) (false, []) = s) : (l.take (j + 1)).foldl (putS x) (false, []) = putS x s l[j] := by
  rw [List.take_add_one, List.foldl_append, h, List.getElem?_eq_getElem hj]
  rfl
theorem app_bound {L : List Itm} {x : Itm} (h : L.length ≤ 1000001) : (L.flatMap Itm.cells).length + x.cells.length ≤ maxLen ∧ ((L.flatMap Itm.cells).length + x.cells.length) * 48 ≤ 140737488355328 := by
  rw [cells_len, show x.cells.length = 3 from rfl]
  constructor
  · simp only [maxLen]; omega
  · omega
theorem cellB {w W : World} {a : Addr} {v : Value} (hB : Below w.heap.size w W) (h : w.cell? a = some v) : W.cell? a = some v := (hB.cell (World.block_lt_of_cell? w _ h)).trans h
theorem putS_mem {x y : Itm} {l L : List Itm} {b : Bool} (h : ∀ z ∈ L, z = x ∨ z ∈ l) (hy : y ∈ l) : ∀ z ∈ (putS x (b, L) y).2, z = x ∨ z ∈ l := by
  intro z hz
  unfold putS at hz
  simp only [List.mem_append] at hz
  rcases hz with (hz | hz) | hz
  · exact h z hz
  · split at hz
    · exact .inl (by simpa using hz)
    · cases hz
  · split at hz
    · cases hz
    · exact .inr (by rw [List.mem_singleton.1 hz]; exact hy)
theorem putS_len {x y : Itm} {L : List Itm} {b : Bool} {j : Nat} (h : L.length ≤ j + (if b then 1 else 0)) : (putS x (b, L) y).2.length ≤ j + 1 + (if (putS x (b, L) y).1 then 1 else 0) := by
  unfold putS
  cases b <;> cases hl : Op.bytesLess y.p.toList x.p.toList <;> cases he : (y.p.toList == x.p.toList) <;> simp at h ⊢ <;> omega

set_option maxRecDepth 100000 in
set_option maxHeartbeats 4000000 in
theorem refput (A : Option Addr) (c : Nat) (l : List Itm) (x : Itm) (w : World) (h : Tr w A c l) (hx : Good w x) (hlen : l.length ≤ 900000) :
    Calls Tryd.prog 52 #[.slice A l.length c, .agg #[.string x.p, .bool x.d, .slice x.dA x.bs.length x.dc]] w fun e w' => (∃ B d, e = .returned (.slice B (putR l x).length d) ∧ Tr w' B d (putR l x)) ∧ Below w.heap.size w w' := by
  obtain ⟨i0, hi0, hz0, hz1, hz2⟩ := info_parts infoItem
  go_enter Tryd.func52, Tryd.ntmps52
  go_wp2_with fail
  have hbx := heap_alloc_new w (.cells #[.string x.p, .bool x.d, .slice x.dA x.bs.length x.dc] 31 (0, 0))
  have hb0 : Below w.heap.size w (w.alloc (.cells #[.string x.p, .bool x.d, .slice x.dA x.bs.length x.dc] 31 (0, 0))) := (Below.refl _ w).alloc (Nat.le_refl _) _
  have hs0 : (w.alloc (.cells #[.string x.p, .bool x.d, .slice x.dA x.bs.length x.dc] 31 (0, 0))).heap.size = w.heap.size + 1 := by simp
  generalize w.alloc (.cells #[.string x.p, .bool x.d, .slice x.dA x.bs.length x.dc] 31 (0, 0)) = w1 at *
  go_loopg [5, 6, 7] l.length (fun k out inn i wr => ∃ (j : Nat) (b : Bool) (L : List Itm) (pA : Option Addr) (pn pc : Nat), j ≤ l.length ∧ k = l.length - j ∧ i = .int .i64 j ∧ inn = .bool b ∧ out = .slice pA pn pc ∧ Row wr 31 3 (.slice pA pn pc) (L.flatMap Itm.cells) ∧ Below w1.heap.size w1 wr ∧
    (∀ k, (Value.slice pA pn pc).ownBlock = some k → w1.heap.size ≤ k) ∧ (l.take j).foldl (putS x) (false, []) = (b, L) ∧ L.length ≤ j + (if b then 1 else 0) ∧ (∀ y ∈ L, y = x ∨ y ∈ l))
  case atStart => exact ⟨0, false, [], none, 0, 0, Nat.zero_le _, rfl, rfl, rfl, rfl, Row.nil _ _ _, Below.refl _ _, by simp [Value.ownBlock], rfl, by simp, by simp⟩
  case round =>
    obtain ⟨j, inn, L, pA, pn, pc, hj, rfl, rfl, rfl, rfl, hrow, hb, hf, hst, hle, hmem⟩ := hrel
    have hbb : Below w.heap.size w wr := hb0.trans (hb.mono (by omega))
    have hbx2 := (hb.block _ (by omega)).trans hbx
    have x0 : wr.cell? ⟨w.heap.size, 0, none⟩ = some (.string x.p) := (blkCell hbx2 0).trans rfl
    have x1 : wr.cell? ⟨w.heap.size, 1, none⟩ = some (.bool x.d) := (blkCell hbx2 1).trans rfl
    have x2 : wr.cell? ⟨w.heap.size, 2, none⟩ = some (.slice x.dA x.bs.length x.dc) := (blkCell hbx2 2).trans rfl
    have HM := hid hmem
    have HST := hid hst
    have HLE := hid hle
    have hle1 : L.length ≤ j + 1 := by cases inn <;> simp at hle <;> omega
    have hsz := hb.size
    clear hmem hst hle
    by_cases hlt : j < l.length
    · have k0 : (0 : Int) ≤ (j : Int) := by omega
      have k1 : (j : Int) < (l.length : Int) := by omega
      obtain ⟨b, off, hA, d0, d1, d2, hg⟩ := h.at hlt
      have HL := hid (fun W => refless l[j].p x.p W hg.size)
      have HNX := hid (putS_next hlt HST.out)
      have HMY := hid (fun b => putS_mem (b := b) HM.out (List.getElem_mem hlt))
      have HLN := hid (putS_len (x := x) (y := l[j]) HLE.out)
      have hbd := app_bound (L := L) (x := x) (by omega)
      have hbd2 := app_bound (L := L) (x := l[j]) (by omega)
      have hbd3 := app_bound (L := L ++ [x]) (x := l[j]) (by rw [List.length_append]; simp; omega)
      have hm := h.max
      subst hA
      clear h hg hx
      have c0 := cellB hbb d0
      have c1 := cellB hbb d1
      have c2 := cellB hbb d2
      cases inn
      · cases hless : Op.bytesLess l[j].p.toList x.p.toList
        · rw [hless] at HL
          cases heq : (l[j].p.toList == x.p.toList)
          · go_wp2_with fail
            go_quiet (exact Calls.quiet_of (HL.out _))
            go_wp2_with (at_builtin; refine wpList_append_row _ rfl _ _ 22 rfl 31 i0 (.agg #[.string ByteArray.empty, .bool false, .slice none 0 0]) 3 48 Tryd.underlying22 hi0 hz0 hz1 hz2 rfl (by decide) (.slice pA pn pc) (L.flatMap Itm.cells) rfl (by exact hrow.keep fun k hk => Below.heap_alloc _ _ _ (hrow.lt k hk)) (.slice (some ⟨wr.heap.size, 0, none⟩) 1 1) x.cells rfl (Src.item x (heap_alloc_new _ _)) (by simp [Itm.cells, Value.oneCell']) hbd.1 hbd.2 ?_; intro aA an ac aw ar ag ah)
            have hb2 : Below w1.heap.size w1 aw := Below.grownNew ((Below.drewN (n := nq) hb).alloc (by exact hb.size) (.cells #[.string x.p, .bool x.d, .slice x.dA x.bs.length x.dc] 31 (0, 0))) ag (by simp; omega) hf
            have hf2 := fresh_of ah hf (by simp; omega)
            have hbb2 : Below w.heap.size w aw := hb0.trans (hb2.mono (by omega))
            have c0' := cellB hbb2 d0
            have c1' := cellB hbb2 d1
            have c2' := cellB hbb2 d2
            have hbx3 := (hb2.block _ (by omega)).trans hbx
            have x0' : aw.cell? ⟨w.heap.size, 0, none⟩ = some (.string x.p) := (blkCell hbx3 0).trans rfl
            clear ag ah
            have ar2 : Row aw 31 3 (.slice aA an ac) ((L ++ [x]).flatMap Itm.cells) := by rw [List.flatMap_append]; simpa using ar
            have hsz2 := hb2.size
            go_quiet (fail)
            go_wp2_with (at_builtin; refine wpList_append_row _ rfl _ _ 22 rfl 31 i0 (.agg #[.string ByteArray.empty, .bool false, .slice none 0 0]) 3 48 Tryd.underlying22 hi0 hz0 hz1 hz2 rfl (by decide) (.slice aA an ac) ((L ++ [x]).flatMap Itm.cells) rfl (by exact ar2.keep fun k hk => Below.heap_alloc _ _ _ (ar2.lt k hk)) (.slice (some ⟨aw.heap.size, 0, none⟩) 1 1) l[j].cells rfl (Src.item l[j] (heap_alloc_new _ _)) (by simp [Itm.cells, Value.oneCell']) hbd3.1 hbd3.2 ?_; intro bA bn bc bw br bg bh)
            have hb3 : Below w1.heap.size w1 bw := Below.grownNew ((Below.drewN (n := nq) hb2).alloc (by exact hb2.size) (.cells #[.string l[j].p, .bool l[j].d, .slice l[j].dA l[j].bs.length l[j].dc] 31 (0, 0))) bg (by simp; omega) hf2
            have hf3 := fresh_of bh hf2 (by simp; omega)
            have hps : putS x (false, L) l[j] = (true, (L ++ [x] ++ [l[j]])) := by simp [putS, hless, heq]
            have hmm := HMY.out false
            have hll := HLN.out
            rw [hps] at hmm hll
            have hmm := hid hmm
            have hll := hid hll
            have hps := hid hps
            go_roundg (l.length - (j + 1))
            case measure => omega
            case rel => exact ⟨j + 1, true, (L ++ [x] ++ [l[j]]), bA, bn, bc, by omega, rfl, by go_num, rfl, rfl, by rw [List.flatMap_append]; simpa using br, hb3, hf3, by rw [HNX.out, hps.out], hll.out, hmm.out⟩
          · go_wp2_with fail
            go_quiet (exact Calls.quiet_of (HL.out _))
            go_wp2_with (at_builtin; refine wpList_append_row _ rfl _ _ 22 rfl 31 i0 (.agg #[.string ByteArray.empty, .bool false, .slice none 0 0]) 3 48 Tryd.underlying22 hi0 hz0 hz1 hz2 rfl (by decide) (.slice pA pn pc) (L.flatMap Itm.cells) rfl (by exact hrow.keep fun k hk => Below.heap_alloc _ _ _ (hrow.lt k hk)) (.slice (some ⟨wr.heap.size, 0, none⟩) 1 1) x.cells rfl (Src.item x (heap_alloc_new _ _)) (by simp [Itm.cells, Value.oneCell']) hbd.1 hbd.2 ?_; intro aA an ac aw ar ag ah)
            have hb2 : Below w1.heap.size w1 aw := Below.grownNew ((Below.drewN (n := nq) hb).alloc (by exact hb.size) (.cells #[.string x.p, .bool x.d, .slice x.dA x.bs.length x.dc] 31 (0, 0))) ag (by simp; omega) hf
            have hf2 := fresh_of ah hf (by simp; omega)
            have hbb2 : Below w.heap.size w aw := hb0.trans (hb2.mono (by omega))
            have c0' := cellB hbb2 d0
            have c1' := cellB hbb2 d1
            have c2' := cellB hbb2 d2
            have hbx3 := (hb2.block _ (by omega)).trans hbx
            have x0' : aw.cell? ⟨w.heap.size, 0, none⟩ = some (.string x.p) := (blkCell hbx3 0).trans rfl
            clear ag ah
            have ar2 : Row aw 31 3 (.slice aA an ac) ((L ++ [x]).flatMap Itm.cells) := by rw [List.flatMap_append]; simpa using ar
            have hsz2 := hb2.size
            go_quiet (fail)
            go_wp2_with fail
            have hps : putS x (false, L) l[j] = (true, (L ++ [x])) := by simp [putS, hless, heq]
            have hmm := HMY.out false
            have hll := HLN.out
            rw [hps] at hmm hll
            have hmm := hid hmm
            have hll := hid hll
            have hps := hid hps
            go_roundg (l.length - (j + 1))
            case measure => omega
            case rel => exact ⟨j + 1, true, (L ++ [x]), aA, an, ac, by omega, rfl, by go_num, rfl, rfl, ar2.keep fun _ _ => rfl, Below.drewN hb2, hf2, by rw [HNX.out, hps.out], hll.out, hmm.out⟩
        · rw [hless] at HL
          cases heq : (l[j].p.toList == x.p.toList)
          · go_wp2_with fail
            go_quiet (exact Calls.quiet_of (HL.out _))
            go_wp2_with fail
            go_quiet (fail)
            go_wp2_with (at_builtin; refine wpList_append_row _ rfl _ _ 22 rfl 31 i0 (.agg #[.string ByteArray.empty, .bool false, .slice none 0 0]) 3 48 Tryd.underlying22 hi0 hz0 hz1 hz2 rfl (by decide) (.slice pA pn pc) (L.flatMap Itm.cells) rfl (by exact hrow.keep fun k hk => Below.heap_alloc _ _ _ (hrow.lt k hk)) (.slice (some ⟨wr.heap.size, 0, none⟩) 1 1) l[j].cells rfl (Src.item l[j] (heap_alloc_new _ _)) (by simp [Itm.cells, Value.oneCell']) hbd2.1 hbd2.2 ?_; intro bA bn bc bw br bg bh)
            have hb3 : Below w1.heap.size w1 bw := by refine Below.grownNew ?_ bg (by simp; omega) hf; exact (Below.drewN hb).alloc (by exact hb.size) _
            have hf3 := fresh_of bh hf (by simp; omega)
            have hps : putS x (false, L) l[j] = (false, (L ++ [l[j]])) := by simp [putS, hless, heq]
            have hmm := HMY.out false
            have hll := HLN.out
            rw [hps] at hmm hll
            have hmm := hid hmm
            have hll := hid hll
            have hps := hid hps
            go_roundg (l.length - (j + 1))
            case measure => omega
            case rel => exact ⟨j + 1, false, (L ++ [l[j]]), bA, bn, bc, by omega, rfl, by go_num, rfl, rfl, by rw [List.flatMap_append]; simpa using br, hb3, hf3, by rw [HNX.out, hps.out], hll.out, hmm.out⟩
          · go_wp2_with fail
            go_quiet (exact Calls.quiet_of (HL.out _))
            go_wp2_with fail
            go_quiet (fail)
            go_wp2_with fail
            have hps : putS x (false, L) l[j] = (false, L) := by simp [putS, hless, heq]
            have hmm := HMY.out false
            have hll := HLN.out
            rw [hps] at hmm hll
            have hmm := hid hmm
            have hll := hid hll
            have hps := hid hps
            go_roundg (l.length - (j + 1))
            case measure => omega
            case rel => exact ⟨j + 1, false, L, pA, pn, pc, by omega, rfl, by go_num, rfl, rfl, hrow.keep fun _ _ => rfl, Below.drewN hb, hf, by rw [HNX.out, hps.out], hll.out, hmm.out⟩
      · cases heq : (l[j].p.toList == x.p.toList)
        · go_wp2_with fail
          go_quiet (exact Calls.quiet_of (HL.out _))
          go_wp2_with fail
          go_quiet (fail)
          go_wp2_with (at_builtin; refine wpList_append_row _ rfl _ _ 22 rfl 31 i0 (.agg #[.string ByteArray.empty, .bool false, .slice none 0 0]) 3 48 Tryd.underlying22 hi0 hz0 hz1 hz2 rfl (by decide) (.slice pA pn pc) (L.flatMap Itm.cells) rfl (by exact hrow.keep fun k hk => Below.heap_alloc _ _ _ (hrow.lt k hk)) (.slice (some ⟨wr.heap.size, 0, none⟩) 1 1) l[j].cells rfl (Src.item l[j] (heap_alloc_new _ _)) (by simp [Itm.cells, Value.oneCell']) hbd2.1 hbd2.2 ?_; intro bA bn bc bw br bg bh)
          have hb3 : Below w1.heap.size w1 bw := by refine Below.grownNew ?_ bg (by simp; omega) hf; exact (Below.drewN hb).alloc (by exact hb.size) _
          have hf3 := fresh_of bh hf (by simp; omega)
          have hps : putS x (true, L) l[j] = (true, (L ++ [l[j]])) := by simp [putS, heq]
          have hmm := HMY.out true
          have hll := HLN.out
          rw [hps] at hmm hll
          have hmm := hid hmm
          have hll := hid hll
          have hps := hid hps
          go_roundg (l.length - (j + 1))
          case measure => omega
          case rel => exact ⟨j + 1, true, (L ++ [l[j]]), bA, bn, bc, by omega, rfl, by go_num, rfl, rfl, by rw [List.flatMap_append]; simpa using br, hb3, hf3, by rw [HNX.out, hps.out], hll.out, hmm.out⟩
        · go_wp2_with fail
          go_quiet (exact Calls.quiet_of (HL.out _))
          go_wp2_with fail
          go_quiet (fail)
          go_wp2_with fail
          have hps : putS x (true, L) l[j] = (true, L) := by simp [putS, heq]
          have hmm := HMY.out true
          have hll := HLN.out
          rw [hps] at hmm hll
          have hmm := hid hmm
          have hll := hid hll
          have hps := hid hps
          go_roundg (l.length - (j + 1))
          case measure => omega
          case rel => exact ⟨j + 1, true, L, pA, pn, pc, by omega, rfl, by go_num, rfl, rfl, hrow.keep fun _ _ => rfl, Below.drewN hb, hf, by rw [HNX.out, hps.out], hll.out, hmm.out⟩
    · obtain rfl : j = l.length := by omega
      have hst := HST.out
      rw [List.take_length] at hst
      have hput : putR l x = putE x (inn, L) := by unfold putR; rw [hst]
      have hgx : Good wr x := hx.below hbb
      have hgl : ∀ y ∈ L, Good wr y := fun y hy => by
        rcases HM.out y hy with rfl | h1
        · exact hgx
        · exact (h.good y h1).below hbb
      have hbd := app_bound (L := L) (x := x) (by omega)
      have hm := h.max
      have HPU := hid hput
      clear hput hst
      cases inn
      · go_wp2_with (at_builtin; refine wpList_append_row _ rfl _ _ 22 rfl 31 i0 (.agg #[.string ByteArray.empty, .bool false, .slice none 0 0]) 3 48 Tryd.underlying22 hi0 hz0 hz1 hz2 rfl (by decide) (.slice pA pn pc) (L.flatMap Itm.cells) rfl (by exact hrow.keep fun k hk => Below.heap_alloc _ _ _ (hrow.lt k hk)) (.slice (some ⟨wr.heap.size, 0, none⟩) 1 1) x.cells rfl (Src.item x (heap_alloc_new _ _)) (by simp [Itm.cells, Value.oneCell']) hbd.1 hbd.2 ?_; intro aA an ac aw ar ag ah)
        have hb2 : Below w1.heap.size w1 aw := Below.grownNew (hb.alloc (by exact hb.size) (.cells #[.string x.p, .bool x.d, .slice x.dA x.bs.length x.dc] 31 (0, 0))) ag (by simp; omega) hf
        have hbw : Below wr.heap.size wr wr := Below.refl _ _
        have ar2 : Row aw 31 3 (.slice aA an ac) ((L ++ [x]).flatMap Itm.cells) := by rw [List.flatMap_append]; simpa using ar
        have hbb2 : Below w.heap.size w aw := hb0.trans (hb2.mono (by omega))
        obtain ⟨rfl, ht⟩ := Tr.ofRow ar2 (fun y hy => by
          rcases List.mem_append.1 hy with hy | hy
          · rcases HM.out y hy with rfl | h1
            · exact hx.below hbb2
            · exact (h.good y h1).below hbb2
          · rw [List.mem_singleton.1 hy]; exact hx.below hbb2) (by rw [List.length_append]; simp; omega)
        go_ret
        rw [show putR l x = L ++ [x] from HPU.out]
        exact ⟨⟨_, _, rfl, ht⟩, hbb2⟩
      · obtain ⟨rfl, ht⟩ := Tr.ofRow hrow hgl (by omega)
        go_wp2_with fail
        go_ret
        rw [show putR l x = L from HPU.out]
        exact ⟨⟨_, _, rfl, ht⟩, hbb⟩

end Go.Proofs.YtheccdidfkcbbaaDoor
