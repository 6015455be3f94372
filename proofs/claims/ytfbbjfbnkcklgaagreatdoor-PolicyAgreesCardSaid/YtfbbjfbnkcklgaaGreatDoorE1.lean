/- a map of texts whose elements are told as values -/
import Derived.Test.YtfbbjfbnkcklgaaGreatDoorU
import Derived.Test.YtfbbjfbnkcklgaaGreatDoorChecked
import Derived.StringKeys
import Derived.Maps.Own
import Derived.Maps.OwnOps
import Derived.Maps.Views
import Derived.Lib.SlMapMerge
import Derived.Sort.KeysCollected
import Derived.Test.YtfbbjfbnkcklgaaGreatDoorG1
import Derived.Test.YtfbbjfbnkcklgaaGreatDoorA1
import Derived.Test.YtfbbjfbnkcklgaaGreatDoorK2
import Derived.Test.YtfbbjfbnkcklgaaGreatDoorM1
import Derived.Test.YtfbbjfbnkcklgaaGreatDoorSH
namespace Go.Proofs.YtfbbjfbnkcklgaaGreatDoor
open Go.Maps Go.RowKit Go.WideMaps

/-- an element as it stands -/
def heldR (v : Value) : Option (DataW Value × List MemPlace) := some (.held v, [])
/-- block b is a map from texts -/
def IsMapV (w : World) (b n : Nat) (D : DataW Value) : Prop := w.ownsMap Tryz.prog 9 heldR b n D
def keyL (q : List UInt8) : Lit := .string q
theorem keyL_lit (q : List UInt8) : WideAt.IsKeyLit (keyL q) := trivial
theorem keyL_inj {q r : List UInt8} : keyL q = keyL r ↔ q = r := by unfold keyL; simp
theorem zeroTree (w : World) : (zeroValue 25).run Tryz.prog w = .ok (.slice none 0 0) w := by kernel_rfl
/-- what a text leads to -/
def valV (D : DataW Value) (q : List UInt8) (v : Value) : Prop := D.atKey (keyL q) (.held (.slice none 0 0)) = .held v
theorem valV_one {D : DataW Value} {q : List UInt8} {u v : Value} (h1 : valV D q u) (h2 : valV D q v) : u = v := by
  unfold valV at h1 h2
  rw [h1] at h2
  exact DataW.held.inj h2
theorem IsMapV.isMap {w : World} {b n : Nat} {D : DataW Value} (h : IsMapV w b n D) : IsMap D := by
  obtain ⟨es, clock, _, _, _, hD⟩ := h
  exact ⟨_, hD⟩
theorem IsMapV.lt {w : World} {b n : Nat} {D : DataW Value} (h : IsMapV w b n D) : b < w.heap.size := World.ownsMap.lt h
theorem IsMapV.obj {w : World} {b n : Nat} {D : DataW Value} (h : IsMapV w b n D) : ∃ es clock, w.heap[b]? = some (.map es clock) := by
  obtain ⟨es, clock, h1, _⟩ := h
  exact ⟨es, clock, h1⟩
theorem IsMapV.same {w w' : World} {b n : Nat} {D : DataW Value} (h : IsMapV w b n D) (hb : w'.heap[b]? = w.heap[b]?) : IsMapV w' b n D := by
  obtain ⟨es, clock, h1, F, hs, hD⟩ := h
  exact ⟨es, clock, hb.trans h1, F, hs, hD⟩
theorem IsMapV.below {w w' : World} {b n : Nat} {D : DataW Value} (h : IsMapV w b n D) (hb : Below w.heap.size w w') : IsMapV w' b n D := h.same (hb.block _ h.lt)
theorem IsMapV.kept {w w' : World} {b n : Nat} {D : DataW Value} {row : Option Nat} (h : IsMapV w b n D) (hg : w.grownBy w' row) (hne : some b ≠ row) : IsMapV w' b n D := World.ownsMap.kept h hg hne
theorem IsMapV.made (w : World) : IsMapV (w.alloc (.map #[] 0)) w.heap.size 0 (.map []) := World.ownsMap_made w _ _ _
theorem toList_data (s : ByteArray) : s.data.toList = s.toList := (ByteArray.toList_eq s).symm
theorem IsMapV.look {w : World} {b n : Nat} {D : DataW Value} (h : IsMapV w b n D) (s : ByteArray) (hs : s.size ≤ maxLen) : ∃ v, (Instr.lookup 94 (.map (some b)) (.string s) false).run Tryz.prog w = .ok v w ∧ valV D s.toList v := by
  obtain ⟨v, ps, hrun, hv⟩ := World.ownsMap.lookup h lawS Tryz.underlying94 (zeroTree w) (show heldR (.slice none 0 0) = some (.held (.slice none 0 0), []) from rfl) (keyOf_string_mk Tryz.underlying9 hs)
  refine ⟨v, hrun, ?_⟩
  have h1 := congrArg Prod.fst (Option.some.inj hv)
  unfold valV keyL
  rw [← toList_data]
  exact h1.symm
theorem IsMapV.put {w : World} {b n : Nat} {D : DataW Value} (h : IsMapV w b n D) (s : ByteArray) (v : Value) (hs : s.size ≤ maxLen) (hn : n < maxLen) :
    ∃ w', (Instr.mapUpdate 94 (.map (some b)) (.string s) v).run Tryz.prog w = .ok () w' ∧ IsMapV w' b (n + 1) (D.put (keyL s.toList) (.held v)) ∧ w.grownBy w' (some b) := by
  obtain ⟨w', h1, h2, h3⟩ := World.ownsMap.update h lawS Tryz.underlying94 hn (keyOf_string_mk Tryz.underlying9 hs) (show heldR v = some (.held v, []) from rfl)
  rw [toList_data] at h2
  exact ⟨w', h1, h2, h3⟩
theorem valV_same {D : DataW Value} (hD : IsMap D) (q : List UInt8) (v : Value) : valV (D.put (keyL q) (.held v)) q v := by
  unfold valV
  exact atKey_put_same hD (keyL_lit q) _ _
theorem valV_other {D : DataW Value} {q r : List UInt8} (h : r ≠ q) (v u : Value) : valV (D.put (keyL q) (.held v)) r u ↔ valV D r u := by
  unfold valV
  rw [atKey_put_other (fun e => h (keyL_inj.1 e))]
theorem has_same {D : DataW Value} (hD : IsMap D) (q : List UInt8) (v : DataW Value) : Maps.has (D.put (keyL q) v) (keyL q) = true := has_put_same hD (keyL_lit q) v
theorem has_other {D : DataW Value} {q r : List UInt8} (h : r ≠ q) (v : DataW Value) : Maps.has (D.put (keyL q) v) (keyL r) = Maps.has D (keyL r) := has_put_other (fun e => h (keyL_inj.1 e)) v
theorem valV_nil (q : List UInt8) : valV (.map []) q (.slice none 0 0) := rfl
theorem Row.neMap {w : World} {e : TypeId} {sz : Nat} {v : Value} {xs : List Value} (h : Row w e sz v xs) {b n : Nat} {D : DataW Value} (hs : IsMapV w b n D) : v.ownBlock ≠ some b := by
  obtain ⟨es, clock, hb⟩ := hs.obj
  obtain ⟨A, n, c, rfl, _, _, _, h⟩ := h
  rcases h with ⟨rfl, _⟩ | ⟨b', off, cs, rfl, hb', _⟩
  · simp [Value.ownBlock]
  · intro e
    simp only [Value.ownBlock, Option.some.injEq] at e
    subst e
    rw [hb] at hb'
    cases hb'

end Go.Proofs.YtfbbjfbnkcklgaaGreatDoor

/- the parts of a tree at paths of one part more: kids -/
namespace Go.Proofs.YtfbbjfbnkcklgaaGreatDoor
open Go.RowKit

theorem up_lt {q : Txt} (h : upT q ≠ []) : (upT q).length < q.length := by
  have hp : pathB q = true := by
    cases hp : pathB q
    · unfold upT splitL at h
      rw [hp] at h
      exact absurd rfl h
    · rfl
  exact up_short hp
/-- up from a path till its directory is p, or none -/
def climbA : Nat → Txt → Txt → Txt
  | 0, _, q => q
  | n + 1, p, q => if upT q ≠ p ∧ upT q ≠ [] then climbA n p (upT q) else q
theorem climb_stay {n : Nat} {p q : Txt} (h : ¬ (upT q ≠ p ∧ upT q ≠ [])) : climbA n p q = q := by
  cases n with
  | zero => rfl
  | succ n => unfold climbA; rw [if_neg h]
def climbT (p q : Txt) : Txt := climbA q.length p q
/-- the items that climb to q -/
def kidL (l : List Itm) (p q : Txt) : List Itm := l.filter fun x => decide (climbT p x.p.toList = q) && decide (upT q = p)
theorem kidL_snoc (l : List Itm) (p q : Txt) (x : Itm) : kidL (l ++ [x]) p q = kidL l p q ++ (if climbT p x.p.toList = q ∧ upT q = p then [x] else []) := by
  unfold kidL
  rw [List.filter_append, List.filter_cons]
  by_cases h : climbT p x.p.toList = q ∧ upT q = p
  · rw [if_pos h, if_pos (by simp [h])]
    rfl
  · rw [if_neg h, if_neg (by simp only [Bool.and_eq_true, decide_eq_true_eq]; exact h)]
    rfl
/-- where a climb leads -/
theorem climb_spec {T : List AIt} (hT : RightP T) {p : Txt} : ∀ (n : Nat) (x : AIt), x.p.length ≤ n → x ∈ T → (∃ y ∈ T, y.p = climbA n p x.p) ∧ withinA (climbA n p x.p) x.p = true ∧ (upT (climbA n p x.p) = p ∨ (upT (climbA n p x.p) = [] ∧ (p = [] ∨ withinA p x.p = false ∨ x.p = p))) := by
  intro n
  induction n with
  | zero =>
    intro x hn hx
    exact absurd (List.eq_nil_of_length_eq_zero (by omega)) (hT.nonempty hx)
  | succ n ih =>
    intro x hn hx
    by_cases hc : upT x.p ≠ p ∧ upT x.p ≠ []
    · have e : climbA (n + 1) p x.p = climbA n p (upT x.p) := by conv => lhs; unfold climbA; rw [if_pos hc]
      rw [e]
      rcases (hT.each x hx).2 with h0 | ⟨y, hy, hyp, hyd⟩
      · exact absurd h0 hc.2
      · have hlen := up_lt hc.2
        have hyp' : y.p = upT x.p := hyp
        obtain ⟨h1, h2, h3⟩ := ih y (by rw [hyp']; omega) hy
        rw [hyp'] at h1 h2 h3
        have hux : withinA (upT x.p) x.p = true := dir_within (hT.path hx) hc.2
        refine ⟨h1, within_trans hc.2 h2 hux, ?_⟩
        rcases h3 with h3 | ⟨h3, h4⟩
        · exact .inl h3
        · refine .inr ⟨h3, ?_⟩
          rcases h4 with h4 | h4 | h4
          · exact .inl h4
          · by_cases hpx : x.p = p
            · exact .inr (.inr hpx)
            · by_cases hp0 : p = []
              · exact .inl hp0
              · cases hw : withinA p x.p
                · exact .inr (.inl rfl)
                · have := (within_up (hT.path hx) hp0 (Ne.symm hpx) hw).2
                  rw [show (splitL x.p).1 = upT x.p from rfl, h4] at this
                  cases this
          · exact absurd h4 hc.1
    · rw [climb_stay hc]
      refine ⟨⟨x, hx, rfl⟩, within_self _, ?_⟩
      by_cases h1 : upT x.p = p
      · exact .inl h1
      · have h2 : upT x.p = [] := Classical.byContradiction fun h2 => hc ⟨h1, h2⟩
        refine .inr ⟨h2, ?_⟩
        by_cases hp0 : p = []
        · exact .inl hp0
        · by_cases hpx : x.p = p
          · exact .inr (.inr hpx)
          · cases hw : withinA p x.p
            · exact .inr (.inl rfl)
            · exact absurd h2 (within_up (hT.path hx) hp0 (Ne.symm hpx) hw).1
/-- in a right tree what climbs to a path of one part more than p is what is within it -/
theorem climb_iff {T : List AIt} (hT : RightP T) {p q : Txt} (hq : pathB q = true) (hu : upT q = p) {x : AIt} (hx : x ∈ T) : climbT p x.p = q ↔ withinA q x.p = true := by
  obtain ⟨⟨y, hy, hyp⟩, h2, h3⟩ := climb_spec hT (p := p) x.p.length x (Nat.le_refl _) hx
  constructor
  · intro e
    rw [← e]
    exact h2
  · intro hw
    unfold climbT
    have hcp : pathB (climbA x.p.length p x.p) = true := by rw [← hyp]; exact hT.path hy
    have hpx : withinA p x.p = true := within_trans (path_ne hq) (up_within hq hu) hw
    have hne : x.p ≠ p := fun e => by
      have h4 := within_len hw
      have h5 := up_short hq
      rw [hu] at h5
      rw [e] at h4
      omega
    rcases h3 with h3 | ⟨h3, h4⟩
    · exact kid_one hcp hq h2 hw h3 hu
    · rcases h4 with h4 | h4 | h4
      · exact kid_one hcp hq h2 hw (h3.trans h4.symm) hu
      · rw [hpx] at h4; cases h4
      · exact absurd h4 hne

/-- what a map of parts is good for -/
structure Kids (w : World) (base M n : Nat) (D : DataW Value) (l : List Itm) (p : Txt) : Prop where
  map : IsMapV w M n D
  num : n ≤ l.length
  hasK : ∀ q, Maps.has D (keyL q) = !(kidL l p q).isEmpty
  val : ∀ q, ∃ (A : Option Addr) (k c : Nat), valV D q (.slice A k c) ∧ Row w 42 3 (.slice A k c) ((kidL l p q).flatMap Itm.cells) ∧ ∀ b, (Value.slice A k c).ownBlock = some b → base ≤ b
  apart : ∀ q r u v b, q ≠ r → valV D q u → valV D r v → u.ownBlock = some b → v.ownBlock ≠ some b
theorem Kids.below {w w' : World} {base M n : Nat} {D : DataW Value} {l : List Itm} {p : Txt} (h : Kids w base M n D l p) (hb : Below w.heap.size w w') : Kids w' base M n D l p :=
  ⟨h.map.below hb, h.num, h.hasK, fun q => by
    obtain ⟨A, k, c, h1, h2, h3⟩ := h.val q
    exact ⟨A, k, c, h1, h2.below hb, h3⟩, h.apart⟩
theorem Kids.made (w : World) (p : Txt) : Kids (w.alloc (.map #[] 0)) w.heap.size w.heap.size 0 (.map []) [] p :=
  ⟨IsMapV.made w, Nat.le_refl _, fun _ => rfl, fun q => ⟨none, 0, 0, valV_nil q, Row.nil _ _ _, by simp [Value.ownBlock]⟩, fun q r u v b _ h1 _ h3 => by
    have := valV_one h1 (valV_nil q)
    rw [this] at h3
    simp [Value.ownBlock] at h3⟩
/-- an item that climbs to nothing of p -/
theorem Kids.skip {w : World} {base M n : Nat} {D : DataW Value} {l : List Itm} {p : Txt} (h : Kids w base M n D l p) {x : Itm} (hx : upT (climbT p x.p.toList) ≠ p) : Kids w base M n D (l ++ [x]) p := by
  have e : ∀ q, kidL (l ++ [x]) p q = kidL l p q := fun q => by
    rw [kidL_snoc, if_neg (fun ⟨h1, h2⟩ => hx (by rw [h1]; exact h2)), List.append_nil]
  exact ⟨h.map, by have := h.num; simp; omega, fun q => by rw [e]; exact h.hasK q, fun q => by rw [e]; exact h.val q, h.apart⟩
/-- an item that climbs to c, laid behind what is there -/
theorem Kids.add {w w2 w3 : World} {base M n : Nat} {D : DataW Value} {l : List Itm} {p : Txt} (h : Kids w base M n D l p) {x : Itm} {c : Txt} (hc : climbT p x.p.toList = c) (hu : upT c = p) {A bA : Option Addr} {k cc bn bc : Nat} (hv : valV D c (.slice A k cc))
    (hg : w.grownBy w2 (Value.slice A k cc).ownBlock) (hr : Row w2 42 3 (.slice bA bn bc) ((kidL l p c).flatMap Itm.cells ++ x.cells)) (ha : (Value.slice bA bn bc).ownBlock = (Value.slice A k cc).ownBlock ∨ (Value.slice bA bn bc).ownBlock = some w.heap.size) (hbase : base ≤ w.heap.size)
    (hm : IsMapV w3 M (n + 1) (D.put (keyL c) (.held (.slice bA bn bc)))) (hg3 : w2.grownBy w3 (some M)) : Kids w3 base M (n + 1) (D.put (keyL c) (.held (.slice bA bn bc))) (l ++ [x]) p := by
  have hmap2 : IsMapV w2 M n D := h.map.kept hg (fun e => by
    obtain ⟨A', k', c', h1, h2, _⟩ := h.val c
    have := valV_one h1 hv
    rw [this] at h2
    exact h2.neMap h.map e.symm)
  have keep : ∀ {v : Value} {xs : List Value}, Row w2 42 3 v xs → Row w3 42 3 v xs := fun {v xs} hrow => hrow.keep fun b hb => hg3.block b (hrow.lt b hb) (fun e => hrow.neMap hmap2 (by rw [hb, e]))
  have hsame : kidL (l ++ [x]) p c = kidL l p c ++ [x] := by rw [kidL_snoc, if_pos ⟨hc, hu⟩]
  have hoth : ∀ q, q ≠ c → kidL (l ++ [x]) p q = kidL l p q := fun q hq => by rw [kidL_snoc, if_neg (fun ⟨h1, _⟩ => hq (by rw [← h1, hc])), List.append_nil]
  have hold : ∀ (q : Txt) (A' : Option Addr) (k' c' : Nat), q ≠ c → valV D q (.slice A' k' c') → Row w 42 3 (.slice A' k' c') ((kidL l p q).flatMap Itm.cells) → Row w2 42 3 (.slice A' k' c') ((kidL l p q).flatMap Itm.cells) := fun q A' k' c' hq h1 h2 =>
    h2.keep fun b hb => hg.block b (h2.lt b hb) (fun e => h.apart q c _ _ b hq h1 hv hb e.symm)
  refine ⟨hm, by have := h.num; simp; omega, fun q => ?_, fun q => ?_, fun q r u v b hne h1 h2 h3 => ?_⟩
  · by_cases hq : q = c
    · subst hq
      rw [hsame, has_same h.map.isMap]
      simp
    · rw [hoth q hq, has_other hq]
      exact h.hasK q
  · by_cases hq : q = c
    · subst hq
      refine ⟨bA, bn, bc, valV_same h.map.isMap q _, keep (by rw [hsame, List.flatMap_append]; simpa using hr), fun b hb => ?_⟩
      rcases ha with e | e
      · obtain ⟨A', k', c', h1, _, h3⟩ := h.val q
        have := valV_one h1 hv
        rw [this] at h3
        exact h3 b (e ▸ hb)
      · rw [e] at hb; cases hb; exact hbase
    · obtain ⟨A', k', c', h1, h2, h3⟩ := h.val q
      rw [hoth q hq]
      exact ⟨A', k', c', (valV_other hq _ _).2 h1, keep (hold q A' k' c' hq h1 h2), h3⟩
  · by_cases hq : q = c
    · have hr' : r ≠ c := fun e => hne (hq.trans e.symm)
      rw [hq] at h1
      have hu1 := valV_one h1 (valV_same h.map.isMap c _)
      rw [valV_other hr'] at h2
      rw [hu1] at h3
      rcases ha with e | e
      · rw [e] at h3
        exact h.apart c r _ _ b (Ne.symm hr') hv h2 h3
      · rw [e] at h3
        cases h3
        intro e2
        obtain ⟨A', k', c', k1, k2, _⟩ := h.val r
        have := valV_one k1 h2
        rw [← this] at e2
        have := k2.lt _ e2
        omega
    · rw [valV_other hq] at h1
      by_cases hr' : r = c
      · rw [hr'] at h2
        have hv1 := valV_one h2 (valV_same h.map.isMap c _)
        rw [hv1]
        intro e2
        rcases ha with e | e
        · rw [e] at e2
          exact h.apart q c _ _ b hq h1 hv h3 e2
        · rw [e] at e2
          cases e2
          obtain ⟨A', k', c', k1, k2, _⟩ := h.val q
          have := valV_one k1 h1
          rw [← this] at h3
          have := k2.lt _ h3
          omega
      · rw [valV_other hr'] at h2
        exact h.apart q r u v b hne h1 h2 h3

end Go.Proofs.YtfbbjfbnkcklgaaGreatDoor

/- kids: the walk; dir -/
namespace Go.Proofs.YtfbbjfbnkcklgaaGreatDoor
open Go.RowKit

theorem climb_len {n : Nat} {p q : Txt} : (climbA n p q).length ≤ q.length := by
  induction n generalizing q with
  | zero => exact Nat.le_refl _
  | succ n ih =>
    unfold climbA
    split
    · rename_i h
      have := up_lt h.2
      have := ih (q := upT q)
      omega
    · exact Nat.le_refl _
/-- more rounds than a text has bytes are none -/
theorem climb_more : ∀ (n m : Nat) (p q : Txt), q.length ≤ n → q.length ≤ m → climbA n p q = climbA m p q
  | 0, m, p, q, h1, _ => by
    have hq : q = [] := List.eq_nil_of_length_eq_zero (by omega)
    subst hq
    rw [climb_stay (n := m)]
    · rfl
    · rintro ⟨_, h⟩
      have := up_lt h
      simp at this
  | n + 1, 0, p, q, _, h2 => by
    have hq : q = [] := List.eq_nil_of_length_eq_zero (by omega)
    subst hq
    rw [climb_stay (n := n + 1)]
    · rfl
    · rintro ⟨_, h⟩
      have := up_lt h
      simp at this
  | n + 1, m + 1, p, q, h1, h2 => by
    unfold climbA
    split
    · rename_i h
      have := up_lt h.2
      exact climb_more n m p (upT q) (by omega) (by omega)
    · rfl
theorem climb_up {p q : Txt} (h : upT q ≠ p ∧ upT q ≠ []) : climbT p q = climbT p (upT q) := by
  unfold climbT
  have hl := up_lt h.2
  obtain ⟨n, hn⟩ : ∃ n, q.length = n + 1 := ⟨q.length - 1, by omega⟩
  rw [hn]
  conv => lhs; unfold climbA
  rw [if_pos h]
  exact climb_more _ _ _ _ (by omega) (Nat.le_refl _)

set_option maxRecDepth 100000 in
set_option maxHeartbeats 8000000 in
theorem kids_walk (A : Option Addr) (c : Nat) (l : List Itm) (p : ByteArray) (w : World) (h : Tr w A c l) :
    Calls Tryz.prog 59 #[.slice A l.length c, .string p] w fun e w' => (∃ (M n : Nat) (D : DataW Value), e = .returned (.map (some M)) ∧ Kids w' w.heap.size M n D l p.toList ∧ w.heap.size ≤ M) ∧ Below w.heap.size w w' := by
  obtain ⟨ti, hi0, hz0, hz1, hz2⟩ := info_parts infoItem
  have h48 := h.max
  have hmm := @run_makeMap Tryz.prog
  have hk0 := Kids.made w p.toList
  have hb00 := thenA (Below.refl _ w) (.map #[] 0)
  go_enter Tryz.func59, Tryz.ntmps59
  go_wp2_with fail
  clear hmm
  go_loopg [16] l.length (fun k i wr => ∃ (j n : Nat) (D : DataW Value), j ≤ l.length ∧ k = l.length - j ∧ i = .int .i64 j ∧ Kids wr w.heap.size w.heap.size n D (l.take j) p.toList ∧ Below w.heap.size w wr)
  case atStart => exact ⟨0, 0, .map [], Nat.zero_le _, rfl, rfl, hk0, hb00⟩
  case round =>
    obtain ⟨j, n, D, hj, rfl, rfl, hkd, hb⟩ := hrel
    clear hk0 hb00
    by_cases hlt : j < l.length
    · have i0 : (0 : Int) ≤ (j : Int) := by omega
      have i1 : (j : Int) < (l.length : Int) := by omega
      obtain ⟨b, off, hA, c0, c1, c2, hg⟩ := (h.below hb).at hlt
      subst hA
      have hsz := hg.size
      have htk : l.take (j + 1) = l.take j ++ [l[j]] := by rw [List.take_add_one, List.getElem?_eq_getElem hlt]; rfl
      have HTK := hid htk
      have hba := thenA (Below.refl _ wr) (.cells #[.string l[j].p, .bool l[j].d, .slice l[j].dA l[j].bs.length l[j].dc] 42 (0, 0))
      have HSP := hid (fun (s : ByteArray) (W : World) (hs : s.size ≤ 140737488351232) => split_walk s W hs)
      have HKD := hid hkd
      have HH := hid h
      clear htk hkd h hg
      go_wp2_with fail
      refine (HSP.out _ _ hsz).mono ?_
      rintro e w1 ⟨⟨d0, n0, rfl, hs0⟩, hb1⟩
      have hd0 : d0.toList = upT l[j].p.toList := by unfold upT; rw [← hs0]
      replace hd0 := hid hd0
      have hb2 := thenB hba hb1
      have y0 := cellB hb1 ((blkCell (heap_alloc_new wr (.cells #[.string l[j].p, .bool l[j].d, .slice l[j].dA l[j].bs.length l[j].dc] 42 (0, 0))) 0).trans rfl)
      have y1 := cellB hb1 ((blkCell (heap_alloc_new wr (.cells #[.string l[j].p, .bool l[j].d, .slice l[j].dA l[j].bs.length l[j].dc] 42 (0, 0))) 1).trans rfl)
      have y2 := cellB hb1 ((blkCell (heap_alloc_new wr (.cells #[.string l[j].p, .bool l[j].d, .slice l[j].dA l[j].bs.length l[j].dc] 42 (0, 0))) 2).trans rfl)
      clear hs0
      go_wp2_with fail
      go_loopg [8, 9] l[j].p.size (fun k q d wx => ∃ (qs ds : ByteArray), k = qs.size ∧ q = .string qs ∧ d = .string ds ∧ ds.toList = upT qs.toList ∧ climbT p.toList l[j].p.toList = climbT p.toList qs.toList ∧ qs.size ≤ l[j].p.size ∧ Below w1.heap.size w1 wx)
      case atStart => exact ⟨l[j].p, d0, rfl, rfl, rfl, hd0.out, rfl, Nat.le_refl _, Below.refl _ _⟩
      case round =>
        obtain ⟨qs, ds, rfl, rfl, rfl, hds, hcl, hql, hbx⟩ := hrel
        have HDS := hid hds
        have HCL := hid hcl
        by_cases hc : upT qs.toList ≠ p.toList ∧ upT qs.toList ≠ []
        · have g1 : (ds.toList == p.toList) = false := by rw [hds]; simpa using hc.1
          have g2 : (ds.toList != p.toList) = true := by rw [bne, g1]; rfl
          have g3 : (ds.toList == []) = false := by rw [hds]; simpa using hc.2
          have g4 : (ds.toList != []) = true := by rw [bne, g3]; rfl
          have g5 : ds.toList.isEmpty = false := by rw [hds]; simpa using hc.2
          have hlen := up_lt hc.2
          rw [← hds, str_len, str_len] at hlen
          have HC := hid hc
          clear hds hcl hc
          go_wp2_with fail
          refine (HSP.out _ _ (by omega)).mono ?_
          rintro e w2 ⟨⟨d1, n1, rfl, hs1⟩, hb3⟩
          have hd1 : d1.toList = upT ds.toList := by unfold upT; rw [← hs1]
          replace hd1 := hid hd1
          have hbx2 := thenB hbx hb3
          clear hs1
          go_wp2_with fail
          go_roundg ds.size
          case measure => omega
          case rel => exact ⟨ds, d1, rfl, rfl, rfl, hd1.out, by rw [HCL.out, climb_up HC.out, HDS.out], by omega, hbx2⟩
        · have hct : climbT p.toList l[j].p.toList = qs.toList := by rw [hcl]; exact climb_stay hc
          have HCT := hid hct
          have hqs : qs.size ≤ 140737488351232 := by omega
          have z0 := cellB hbx y0
          have z1 := cellB hbx y1
          have z2 := cellB hbx y2
          have hb3 := thenB hb2 hbx
          have hkx := HKD.out.below hb3
          have hguard : (ds.toList != p.toList && ds.toList != []) = false := by
            rw [hds]
            cases h1 : (upT qs.toList != p.toList)
            · rfl
            · cases h2 : (upT qs.toList != [])
              · rfl
              · exact absurd ⟨by simpa using h1, by simpa using h2⟩ hc
          by_cases hup : upT qs.toList = p.toList
          · have g1 : (ds.toList == p.toList) = true := by rw [hds]; simpa using hup
            have g2 : (ds.toList != p.toList) = false := by rw [bne, g1]; rfl
            have HUP := hid hup
            clear hguard hds hcl hct hc hup
            go_wp2_with fail
            refine (HSP.out _ _ hqs).mono ?_
            rintro e w2 ⟨⟨d1, n1, rfl, hs1⟩, hb4⟩
            have hd1 : d1.toList = upT qs.toList := by unfold upT; rw [← hs1]
            rw [HUP.out] at hd1
            have g5 : (d1.toList == p.toList) = true := by rw [hd1]; simp
            have t0 := cellB hb4 z0
            have t1 := cellB hb4 z1
            have t2 := cellB hb4 z2
            have hk2 := hkx.below hb4
            have hb5 := thenB hb (thenB hb3 hb4)
            obtain ⟨v, hlk, hvv⟩ := hk2.map.look qs (by simp only [maxLen]; omega)
            obtain ⟨vA, vk, vc, hv1, hrow, hfr⟩ := hk2.val qs.toList
            have hve := valV_one hvv hv1
            subst hve
            have hbd := thenA (Below.refl _ w2) (.cells #[.string l[j].p, .bool l[j].d, .slice l[j].dA l[j].bs.length l[j].dc] 42 (0, 0))
            have hk3 := hk2.below hbd
            have hrow3 := hrow.below hbd
            have hsi := Src.item (b := w2.heap.size) l[j] (heap_alloc_new w2 (.cells #[.string l[j].p, .bool l[j].d, .slice l[j].dA l[j].bs.length l[j].dc] 42 (0, 0)))
            have hkl : (kidL (l.take j) p.toList qs.toList).length ≤ 1000000 := by
              unfold kidL
              have h1 := List.length_filter_le (fun x : Itm => decide (climbT p.toList x.p.toList = qs.toList) && decide (upT qs.toList = p.toList)) (l.take j)
              rw [List.length_take] at h1
              omega
            obtain ⟨hc1, hc2⟩ := app_bound (L := kidL (l.take j) p.toList qs.toList) (x := l[j]) (by omega)
            have hnm : n < maxLen := by have h1 := hk2.num; rw [List.length_take] at h1; simp only [maxLen]; omega
            have hsz5 := hb5.size
            have HK3 := hid hk3
            have HV1 := hid hv1
            clear hs1 hd1 hk2 hkx hv1 hvv hrow hk3
            go_wp2_with (at_builtin; refine wpList_append_row _ rfl _ _ 25 rfl 42 ti (.agg #[.string ByteArray.empty, .bool false, .slice none 0 0]) 3 48 Tryz.underlying25 hi0 hz0 hz1 hz2 rfl (by decide) (.slice vA vk vc) ((kidL (l.take j) p.toList qs.toList).flatMap Itm.cells) rfl hrow3 (.slice (some ⟨w2.heap.size, 0, none⟩) 1 1) l[j].cells rfl hsi (by simp [Itm.cells, Value.oneCell']) hc1 hc2 ?_; intro bA bn bc w3 hr3 hg3 ha3; have hmap3 := HK3.out.map.kept hg3 (fun e => (hrow3.neMap HK3.out.map) e.symm); obtain ⟨w4, hup4, hm4, hg4⟩ := hmap3.put qs (.slice bA bn bc) (by simp only [maxLen]; omega) hnm)
            have hkn := HK3.out.add HCT.out HUP.out HV1.out hg3 hr3 ha3 (by simp; omega) hm4 hg4
            have hb6 : Below w.heap.size w w4 := Below.grownNew (Below.grownNew (thenB hb5 hbd) hg3 (by simp; omega) hfr) hg4 (by have := hg3.size; simp at this; omega) (by intro k hk; cases hk; exact Nat.le_refl _)
            go_roundg (l.length - (j + 1))
            case measure => omega
            case rel => exact ⟨j + 1, n + 1, _, by omega, rfl, by go_num, by rw [HTK.out]; exact hkn, hb6⟩
          · have hne : upT qs.toList = [] := Classical.byContradiction fun h2 => hc ⟨hup, h2⟩
            have g1 : (ds.toList == p.toList) = false := by rw [hds]; simpa using hup
            have g2 : (ds.toList != p.toList) = true := by rw [bne, g1]; rfl
            have g3 : ds.toList = [] := by rw [hds]; exact hne
            have g4 : (ds.toList != []) = false := by rw [g3]; rfl
            have g6 : ds.toList.isEmpty = true := by rw [g3]; rfl
            have g7 : (ds.toList == []) = true := by rw [g3]; rfl
            have HUP := hid hup
            clear hguard hds hcl hct hc hup g3 hne
            go_wp2_with fail
            refine (HSP.out _ _ hqs).mono ?_
            rintro e w2 ⟨⟨d1, n1, rfl, hs1⟩, hb4⟩
            have hd1 : d1.toList = upT qs.toList := by unfold upT; rw [← hs1]
            have g5 : (d1.toList == p.toList) = false := by rw [hd1]; simpa using HUP.out
            have hk2 := hkx.below hb4
            have hb5 := thenB hb (thenB hb3 hb4)
            have hkn := hk2.skip (x := l[j]) (by rw [HCT.out]; exact HUP.out)
            have HKN := hid hkn
            clear hs1 hd1 hk2 hkx hkn
            go_wp2_with fail
            go_roundg (l.length - (j + 1))
            case measure => omega
            case rel => exact ⟨j + 1, n, D, by omega, rfl, by go_num, by rw [HTK.out]; exact HKN.out, hb5⟩
    · obtain rfl : j = l.length := by omega
      rw [List.take_length] at hkd
      have HKD := hid hkd
      clear hkd
      go_wp2_with fail
      go_ret
      exact ⟨⟨_, n, D, rfl, HKD.out, Nat.le_refl _⟩, hb⟩

end Go.Proofs.YtfbbjfbnkcklgaaGreatDoor

/- the keys of a map of parts, sorted; maps that are copied -/
namespace Go.Proofs.YtfbbjfbnkcklgaaGreatDoor
open Go.RowKit Go.Maps Go.Sort Go.Shelf

theorem less_lt : ∀ a b : List UInt8, Op.bytesLess a b = decide (a < b)
  | [], [] => by simp [Op.bytesLess]
  | _ :: _, [] => by simp [Op.bytesLess]
  | [], _ :: _ => by simp [Op.bytesLess]
  | x :: a, y :: b => by
    unfold Op.bytesLess
    rw [less_lt a b, Bool.eq_iff_iff]
    simp only [Bool.or_eq_true, Bool.and_eq_true, decide_eq_true_eq, beq_iff_eq, List.cons_lt_cons_iff]
theorem sorted_merge {l : List Txt} (h : l.Nodup) : sortedN (l.mergeSort fun x y => decide (x ≤ y)) := by
  have tr : ∀ a b c : Txt, decide (a ≤ b) = true → decide (b ≤ c) = true → decide (a ≤ c) = true := fun a b c h1 h2 => by
    simp only [decide_eq_true_eq] at *
    exact List.le_trans h1 h2
  have to : ∀ a b : Txt, (decide (a ≤ b) || decide (b ≤ a)) = true := fun a b => by
    simp only [Bool.or_eq_true, decide_eq_true_eq]
    exact List.le_total a b
  have h1 := List.pairwise_mergeSort tr to l
  have h2 : (l.mergeSort fun x y => decide (x ≤ y)).Nodup := (List.mergeSort_perm l _).nodup_iff.2 h
  refine (h1.and h2).imp fun {a b} ⟨h3, h4⟩ => ?_
  rw [less_lt, decide_eq_true_eq]
  simp only [decide_eq_true_eq] at h3
  rcases List.le_iff_lt_or_eq.1 h3 with h5 | h5
  · exact h5
  · exact absurd h5 h4
theorem keys_of {w : World} {b n : Nat} {D : DataW Value} (h : IsMapV w b n D) : (strKeys D).Nodup ∧ (∀ x, x ∈ strKeys D ↔ Maps.has D (keyL x) = true) ∧ Maps.size D ≤ n ∧ (strKeys D).length = Maps.size D := by
  obtain ⟨es, hD, hpw, _⟩ := World.ownsMap.entries h lawS
  obtain ⟨es', hD', hko⟩ := World.ownsMap.keysOf h
  obtain rfl : es = es' := by rw [hD] at hD'; simpa using hD'
  have hk : ∀ p ∈ es, ∃ x, p.1 = .string x := fun p hp => by
    obtain ⟨v, hv⟩ := hko p hp
    obtain ⟨x, _, hx, _⟩ := Maps.keyOf_str Tryz.underlying9 hv
    exact ⟨x, hx⟩
  have hsize : Maps.size D ≤ n := by
    obtain ⟨es2, clock, _, _, hs, hD2⟩ := h
    rw [hD2]
    show ((es2.toList.map (WideElems.rg Tryz.prog 9 heldR)).foldr DataW.insert []).length ≤ n
    rw [length_sorted, List.length_map, Array.length_toList]
    exact hs
  subst hD
  refine ⟨?_, fun x => ?_, hsize, by simp [strKeys, Maps.size]⟩
  · show (es.map fun p => strOf p.1).Nodup
    refine List.pairwise_map.2 (hpw.imp_of_mem fun {p q} hp' hq' hne e => hne ?_)
    obtain ⟨a, ha⟩ := hk p hp'
    obtain ⟨b, hb⟩ := hk q hq'
    rw [ha, hb] at e ⊢
    exact congrArg _ e
  · rw [Maps.has_eq, List.any_eq_true]
    show x ∈ es.map (fun p => strOf p.1) ↔ _
    rw [List.mem_map]
    constructor
    · rintro ⟨p, hp', rfl⟩
      obtain ⟨a, ha⟩ := hk p hp'
      exact ⟨p, hp', by rw [ha]; simp [Lit.sameKey, strOf, keyL]⟩
    · rintro ⟨p, hp', hs⟩
      obtain ⟨a, ha⟩ := hk p hp'
      rw [ha] at hs
      exact ⟨p, hp', by rw [ha]; simpa [Lit.sameKey, strOf, keyL] using hs⟩
theorem has_merge : ∀ (es : List (Lit × DataW Value)) (Dd : DataW Value), IsMap Dd → (∀ p ∈ es, ∃ x, p.1 = .string x) → ∀ q, Maps.has (es.foldl (fun D p => D.put p.1 p.2) Dd) (keyL q) = (Maps.has Dd (keyL q) || es.any fun p => p.1.sameKey (keyL q))
  | [], Dd, _, _, q => by simp
  | p :: r, Dd, hD, hk, q => by
    obtain ⟨x, hx⟩ := hk p List.mem_cons_self
    rw [List.foldl_cons, has_merge r _ (hD.put _ _) (fun p' hp' => hk p' (List.mem_cons_of_mem _ hp')), hx, List.any_cons, hx]
    by_cases e : q = x
    · subst e
      rw [show (Lit.string q) = keyL q from rfl, has_same hD]
      simp [Lit.sameKey, keyL]
    · rw [show (Lit.string x) = keyL x from rfl, has_other e]
      have : (keyL x).sameKey (keyL q) = false := by simp [Lit.sameKey, keyL, Ne.symm e]
      rw [this]
      simp
theorem has_mergeD {w : World} {b n : Nat} {Dd Ds : DataW Value} (hd : IsMap Dd) (h : IsMapV w b n Ds) (q : Txt) : Maps.has (Lib.mergeD Dd Ds) (keyL q) = (Maps.has Dd (keyL q) || Maps.has Ds (keyL q)) := by
  obtain ⟨es, hD, hpw, _⟩ := World.ownsMap.entries h lawS
  obtain ⟨es', hD', hko⟩ := World.ownsMap.keysOf h
  obtain rfl : es = es' := by rw [hD] at hD'; simpa using hD'
  subst hD
  exact has_merge es Dd hd (fun p hp => by
    obtain ⟨v, hv⟩ := hko p hp
    obtain ⟨x, _, hx, _⟩ := Maps.keyOf_str Tryz.underlying9 hv
    exact ⟨x, hx⟩) q

theorem clonemap (b n : Nat) (D : DataW Value) (w : World) (h : IsMapV w b n D) :
    Calls Tryz.prog 60 #[.map (some b)] w fun e w' => e = .returned (.map (some w.heap.size)) ∧ IsMapV w' w.heap.size n D ∧ Below w.heap.size w w' := by
  have h1 := AnyW.maps_Clone_owns Tryz.laysClone 9 heldR b n D w h
  change Calls Tryz.prog 60 _ _ _ at h1
  exact h1.mono fun e w' ⟨a, c, _, d⟩ => ⟨a, c, d⟩
theorem copymap (bd bs nd ns : Nat) (Dd Ds : DataW Value) (w : World) (hd : IsMapV w bd nd Dd) (hs : IsMapV w bs ns Ds) (hne : bd ≠ bs) (hroom : nd + ns ≤ maxLen) :
    Calls Tryz.prog 61 #[.map (some bd), .map (some bs)] w fun e w' => e = .returned (.tuple #[]) ∧ (∃ n, n ≤ nd + ns ∧ IsMapV w' bd n (Lib.mergeD Dd Ds)) ∧ w.grownBy w' (some bd) := by
  have hsz := (keys_of hs).2.2.1
  have h1 := AnyX.maps_Copy Tryz.laysCopy (string_keyed Tryz.underlying9) heldR bd bs nd ns Dd Ds w hd hs hne (by omega)
  change Calls Tryz.prog 61 _ _ _ at h1
  exact h1.mono fun e w' ⟨a, c, _, d⟩ => ⟨a, ⟨_, by omega, c⟩, d⟩

/-- slices.Sort's two contracts -/
theorem sortsZ (m : Nat) : AnyZ.SortsIn Tryz.prog Tryz.laysSorted_ren Fence.wide m :=
  ⟨fun blk off cap ss W hH hblk hsz => callsIn_wide.2 (Any.slices_Sort_string Tryz.laysSort blk off cap ss W hH hblk hsz),
   fun p cap W => callsIn_wide.2 (Any.slices_Sort_string_none Tryz.laysSort p cap W)⟩

theorem keys_call (b : Nat) (w : World) : Calls Tryz.prog 63 #[.map (some b)] w fun e w' => e = .returned (.func (.func 95) #[] #[.pointer (some ⟨w.heap.size, 0, none⟩)]) ∧ w' = w.alloc (.cells #[.map (some b)] 94 (0, 0)) :=
  (callsIn_wide (n := 5)).1 (AnyZ.keys_in Tryz.laysKeys Fence.wide 5 trivial rfl (some b) w)

set_option maxHeartbeats 1000000 in
theorem sorted_call (b n : Nat) (D : DataW Value) (w : World) (h : IsMapV w b n D) (hn : n ≤ 1000000) :
    Calls Tryz.prog 62 #[.func (.func 95) #[] #[.pointer (some ⟨w.heap.size, 0, none⟩)]] (w.alloc (.cells #[.map (some b)] 94 (0, 0))) fun e w' =>
      (∃ (A : Option Addr) (k c : Nat) (ss : List ByteArray), e = .returned (.slice A k c) ∧ Row w' 9 1 (.slice A k c) (ss.map .string) ∧ sortedN (ss.map (·.toList)) ∧ (∀ x, x ∈ ss.map (·.toList) ↔ Maps.has D (keyL x) = true) ∧ ss.length ≤ n) ∧ Below w.heap.size w w' := by
  obtain ⟨hnd, hmem, hsz, hlen⟩ := keys_of h
  have hbl := h.lt
  have hmax : Maps.size D ≤ maxLen := by simp only [maxLen]; omega
  have hbytes : Maps.size D * 16 ≤ 140737488355328 := by omega
  have hseq : SeqGives Fence.wide 2 Tryz.prog 95 #[.pointer (some ⟨w.heap.size, 0, none⟩)] encStr (fun ss => ss.Perm (strKeys D)) (Maps.size D) (w.alloc (.cells #[.map (some b)] 94 (0, 0))) :=
    AnyZ.keys_gives (ρ := Tryz.laysKeys_ren) { Tryz.laysKeys with } Fence.wide _ trivial rfl (by omega) w.heap.size b n D _ (by simp) (by simp) (by
      obtain ⟨es, clock, hb, Ft, hs, hD⟩ := h
      exact ⟨es, clock, (Below.heap_alloc _ _ b hbl).trans hb, Ft, hs, hD⟩)
  have cS := AnyZ.sorted_in Tryz.laysSorted Fence.wide 5 trivial trivial trivial trivial rfl (by omega) (sortsZ _) (enters_of Tryz.func67 (by kernel_rfl) rfl) 95 #[.pointer (some ⟨w.heap.size, 0, none⟩)] trivial (enters_of Tryz.func95 (by kernel_rfl) rfl) _ _ hmax hbytes _ hseq
  change CallsIn _ _ Tryz.prog 62 _ _ _ at cS
  refine (callsIn_wide.1 cS).mono ?_
  rintro e w' ⟨v, ss, rfl, hS, hrow, hnil, hb⟩
  have hrow' := Row.ofOwn hrow
  obtain ⟨A, k, c, rfl, hk, _⟩ := id hrow'
  refine ⟨⟨A, k, c, (ss.mergeSort fun x y => decide (x ≤ y)).map fun l => ⟨l.toArray⟩, rfl, ?_, ?_, ?_, ?_⟩, ((Below.refl _ w).alloc (Nat.le_refl _) _).trans (hb.mono (by simp))⟩
  · rw [List.map_map]
    exact hrow'
  · rw [List.map_map]
    have e : ((fun x : ByteArray => x.toList) ∘ fun l : List UInt8 => (⟨l.toArray⟩ : ByteArray)) = id := by
      funext l
      simp [toList_lit]
    rw [e, List.map_id]
    exact sorted_merge (hS.nodup_iff.2 hnd)
  · intro x
    rw [List.map_map]
    have e : ((fun x : ByteArray => x.toList) ∘ fun l : List UInt8 => (⟨l.toArray⟩ : ByteArray)) = id := by
      funext l
      simp [toList_lit]
    rw [e, List.map_id, List.mem_mergeSort, hS.mem_iff, hmem]
  · rw [List.length_map, List.length_mergeSort, hS.length_eq, hlen]
    exact hsz

end Go.Proofs.YtfbbjfbnkcklgaaGreatDoor
