/- a set of strings: a map of Booleans that the call makes -/
import Derived.Test.YtfbbjfbnkcklgaaGreatDoorU
import Derived.Test.YtfbbjfbnkcklgaaGreatDoorChecked
import Derived.StringKeys
import Derived.Maps.Own
import Derived.Maps.OwnOps
import Derived.Maps.Views
namespace Go.Proofs.YtfbbjfbnkcklgaaGreatDoor
open Go.Maps Go.RowKit Go.WideMaps

def keysOf (ks : List ByteArray) : List Lit := ks.map fun s => .string s.data.toList
noncomputable def setD (ks : List ByteArray) : DataW Unit := setOf (.lit (.bool true)) (keysOf ks)
/-- block b is a map whose keys are these, each with true -/
def IsSet (w : World) (b : Nat) (ks : List ByteArray) : Prop := w.ownsMap Tryz.prog 9 (plainElem (H := Unit) Tryz.prog 4) b ks.length (setD ks)

theorem atKey_fold (k : Lit) (hk : WideAt.IsKeyLit k) (u z : DataW Unit) : ∀ (xs : List Lit) (D : DataW Unit), IsMap D → (k ∈ xs → (xs.foldl (fun m x => m.put x u) D).atKey k z = u) ∧ (k ∉ xs → (xs.foldl (fun m x => m.put x u) D).atKey k z = D.atKey k z)
  | [], D, _ => ⟨fun h => (List.not_mem_nil h).elim, fun _ => rfl⟩
  | x :: r, D, hD => by
    obtain ⟨h1, h2⟩ := atKey_fold k hk u z r (D.put x u) (hD.put x u)
    rw [List.foldl_cons]
    by_cases hr : k ∈ r
    · exact ⟨fun _ => h1 hr, fun h => absurd (List.mem_cons_of_mem _ hr) h⟩
    · rw [h2 hr]
      constructor
      · intro h
        rcases List.mem_cons.1 h with e | h
        · subst e
          exact atKey_put_same hD hk u z
        · exact absurd h hr
      · intro h
        exact atKey_put_other (fun e => h (by rw [e]; simp)) u z
theorem lit_bytes {a b : ByteArray} : (Lit.string a.data.toList = .string b.data.toList) ↔ a = b := by
  constructor
  · intro h
    obtain ⟨⟨x⟩⟩ := a
    obtain ⟨⟨y⟩⟩ := b
    simpa using h
  · rintro rfl; rfl
theorem toList_inj {a b : ByteArray} (h : a.toList = b.toList) : a = b := by
  rw [ByteArray.toList_eq, ByteArray.toList_eq] at h
  exact lit_bytes.1 (by rw [h])
theorem atKey_set (ks : List ByteArray) (s : ByteArray) : (setD ks).atKey (.string s.data.toList) (.lit (.bool false)) = .lit (.bool (decide (s.toList ∈ ks.map (·.toList)))) := by
  unfold setD setOf
  obtain ⟨h1, h2⟩ := atKey_fold (.string s.data.toList) (show WideAt.IsKeyLit (.string s.data.toList) from trivial) (.lit (.bool true)) (.lit (.bool false)) (keysOf ks) (.map []) isMap_empty
  have : (Lit.string s.data.toList ∈ keysOf ks) ↔ s.toList ∈ ks.map (·.toList) := by
    unfold keysOf
    rw [List.mem_map, List.mem_map]
    constructor
    · rintro ⟨t, ht, e⟩
      exact ⟨t, ht, by rw [lit_bytes.1 e]⟩
    · rintro ⟨t, ht, e⟩
      exact ⟨t, ht, by rw [toList_inj e]⟩
  by_cases h : s.toList ∈ ks.map (·.toList)
  · rw [h1 (this.2 h), decide_eq_true h]
  · rw [h2 (fun hh => h (this.1 hh)), decide_eq_false h]
    rfl
theorem set_snoc (ks : List ByteArray) (s : ByteArray) : setD (ks ++ [s]) = (setD ks).put (.string s.data.toList) (.lit (.bool true)) := by
  unfold setD keysOf
  rw [List.map_append, List.map_cons, List.map_nil, setOf_snoc]
theorem plainElem_bool_inv {P : Program} {e : TypeId} (he : P.underlying e = some .bool) {v : Value} {z : DataW Unit × List MemPlace} (h : plainElem P e v = some z) : ∃ a, v = .bool a ∧ z = (.lit (.bool a), []) := by
  unfold plainElem at h
  rw [he] at h
  cases v <;> simp at h
  exact ⟨_, rfl, h.symm⟩
theorem zeroBool (w : World) : (zeroValue 4).run Tryz.prog w = .ok (.bool false) w := by kernel_rfl
theorem lawS : Keyed Tryz.prog 9 := string_keyed Tryz.underlying9

theorem IsSet.below {w w' : World} {b : Nat} {ks : List ByteArray} (h : IsSet w b ks) (hb : Below w.heap.size w w') : IsSet w' b ks := by
  have hlt := h.lt
  obtain ⟨es, clock, hb', F, hs, hD⟩ := h
  exact ⟨es, clock, (hb.block _ hlt).trans hb', F, hs, hD⟩
theorem IsSet.made (w : World) : IsSet (w.alloc (.map #[] 0)) w.heap.size [] := World.ownsMap_made w _ _ _
/-- a look-up in a set -/
theorem IsSet.look {w : World} {b : Nat} {ks : List ByteArray} (h : IsSet w b ks) (s : ByteArray) (hs : s.size ≤ maxLen) : (Instr.lookup 78 (.map (some b)) (.string s) false).run Tryz.prog w = .ok (.bool (decide (s.toList ∈ ks.map (·.toList)))) w := by
  obtain ⟨v, ps, hrun, hv⟩ := World.ownsMap.lookup h lawS Tryz.underlying78 (zeroBool w) (plainElem_bool Tryz.underlying4 false) (keyOf_string_mk Tryz.underlying9 hs)
  obtain ⟨a, rfl, ha⟩ := plainElem_bool_inv Tryz.underlying4 hv
  rw [atKey_set] at ha
  cases ha
  exact hrun
theorem IsSet.put {w : World} {b : Nat} {ks : List ByteArray} (h : IsSet w b ks) (s : ByteArray) (hs : s.size ≤ maxLen) (hn : ks.length < maxLen) :
    ∃ w', (Instr.mapUpdate 78 (.map (some b)) (.string s) (.bool true)).run Tryz.prog w = .ok () w' ∧ IsSet w' b (ks ++ [s]) ∧ w.grownBy w' (some b) := by
  obtain ⟨w', h1, h2, h3⟩ := World.ownsMap.update h lawS Tryz.underlying78 hn (keyOf_string_mk Tryz.underlying9 hs) (plainElem_bool Tryz.underlying4 true)
  refine ⟨w', h1, ?_, h3⟩
  unfold IsSet
  rw [set_snoc, List.length_append]
  exact h2
theorem IsSet.lt {w : World} {b : Nat} {ks : List ByteArray} (h : IsSet w b ks) : b < w.heap.size := World.ownsMap.lt h
theorem IsSet.kept {w w' : World} {b : Nat} {ks : List ByteArray} {row : Option Nat} (h : IsSet w b ks) (hg : w.grownBy w' row) (hne : some b ≠ row) : IsSet w' b ks := World.ownsMap.kept h hg hne

end Go.Proofs.YtfbbjfbnkcklgaaGreatDoor
