/- a region that draws its order and whose calls lay fresh memory alone: one walk serves every order -/
import Derived.Test.YtfbbjfbnkcklgaaGreatDoorB
import Derived.BigQuiet
namespace Go.Proofs.YtfbbjfbnkcklgaaGreatDoor
open Go.RowKit

/-- W, where it is w and fresh memory; else w -/
noncomputable def under (w W : World) : World := by
  classical exact if Below w.heap.size w W then W else w
theorem under_below (w W : World) : Below w.heap.size w (under w W) := by
  unfold under
  split
  · assumption
  · exact Below.refl _ w
theorem under_eq {w W : World} (h : Below w.heap.size w W) : under w W = W := if_pos h
theorem under_cell {w : World} {a : Addr} {v : Value} (h : w.cell? a = some v) (W : World) : (under w W).cell? a = some v := ((under_below w W).cell (World.block_lt_of_cell? w _ h)).trans h
theorem under_call {P : Program} {f : FuncId} {args : Array Value} {w W : World} {v : Value} (h : Calls P f args (under w W) fun e w' => e = .returned v ∧ Below (under w W).heap.size (under w W) w') :
    Calls P f args (under w W) fun e w'' => e = .returned v ∧ ∃ W', w'' = under w W' :=
  h.mono fun _ w' ⟨he, hb⟩ => ⟨he, w', (under_eq ((under_below w W).trans (hb.mono (under_below w W).size))).symm⟩
theorem under_call_same {P : Program} {f : FuncId} {args : Array Value} {w W : World} {v : Value} (h : Calls P f args (under w W) fun e w' => e = .returned v ∧ under w W = w') :
    Calls P f args (under w W) fun e w'' => e = .returned v ∧ ∃ W', w'' = under w W' :=
  h.mono fun _ _ ⟨he, hb⟩ => ⟨he, W, hb.symm⟩
theorem wp_region_under {P : Program} {id : Nat} {Q : Exit → Act → World → Prop} {a : Act} {w : World} {l : List Oper} (hm : P.follows .mixedOrders = true) (hB : Region.lexB .any l.toArray = true)
    (h : wpQuiet P l.toArray (fun w' => ∃ W, w' = under w W) (fun a' => ∀ w', (∃ W, w' = under w W) → Q .normal a' w') l a) : (Code.region id l.toArray true).wp P Q a w :=
  wp_region_quiet (C := fun w' => ∃ W, w' = under w W) hm hB ⟨w.drewN 1, (under_eq (Below.drewN (n := 1) (Below.refl _ w))).symm⟩ (by simpa using h)

end Go.Proofs.YtfbbjfbnkcklgaaGreatDoor
