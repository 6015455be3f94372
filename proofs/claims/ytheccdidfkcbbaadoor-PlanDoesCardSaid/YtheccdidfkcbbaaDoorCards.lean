/-
  DERIVED. GIVEN WITH THE SEED: THE CARDS: each row of YtheccdidfkcbbaaDoorRows.lean that lists a variable, with what it lists TIED to the program's text (the seventh form; the later family's looks); each row that meets fmt, with fmt's text TOLD by the authors' own Lean function (tested against real Go, not proved from fmt's source: count such statements apart). THE CARD IS WHAT COUNTS. Prove the row's statement (the work); the ties are given (YtheccdidfkcbbaaDoorTie.lean); close each card by the builder's one call (the guide's Derived/Test/ToyasCard.lean, 'card_holds'). Laid BY PROGRAM, IN A SANDBOX (cutbox-door.mjs). By AI agents, Wed Nov 11 2026. No macro, syntax, notation, axiom, sorry.
-/
import Derived.Test.YtheccdidfkcbbaaDoorRows
import GoSem.ClaimSeven
namespace Go.Proofs.YtheccdidfkcbbaaDoor
namespace Rows

/-- THE TIED CARD OF 'hayloftlaw24.PlanSmall'. -/
def planSmallCard : Claim7 := { stood := { row := planSmallRow, standIns := [], harness := (true, "5a5dac46e8e982de828230228fc7a8428f4ad450b7a596e267bebbde572f44dc"), looks := false }, kinds := [], alts := [], laidByText := true, laidKinds := [.data, .pinned], laidTests := true, laidLooks := .later }
def PlanSmallCardSaid : Prop := Claim7.holds Tryd.pinned (.plain (OpenSpec.ofChange planSmallSpec)) planSmallCard

/-- THE TIED CARD OF 'hayloftlaw24.PlanReaches'. -/
def planReachesCard : Claim7 := { stood := { row := planReachesRow, standIns := [], harness := (true, "5a5dac46e8e982de828230228fc7a8428f4ad450b7a596e267bebbde572f44dc"), looks := false }, kinds := [], alts := [], laidByText := true, laidKinds := [.data, .pinned], laidTests := true, laidLooks := .later }
def PlanReachesCardSaid : Prop := Claim7.holds Tryd.pinned (.plain (OpenSpec.ofChange planReachesSpec)) planReachesCard

/-- THE TIED CARD OF 'hayloftlaw24.PlanDoes'. -/
def planDoesCard : Claim7 := { stood := { row := planDoesRow, standIns := [], harness := (true, "5a5dac46e8e982de828230228fc7a8428f4ad450b7a596e267bebbde572f44dc"), looks := false }, kinds := [], alts := [], laidByText := true, laidKinds := [.data, .pinned], laidTests := true, laidLooks := .later }
def PlanDoesCardSaid : Prop := Claim7.holds Tryd.pinned (.plain (OpenSpec.ofChange planDoesSpec)) planDoesCard

/-- THE SECOND FORM's CARD OF 'hayloftlaw24.PlanSmall'. -/
def planSmallUptoCard : Claim7 := { stood := { row := planSmallUptoRow, standIns := [], harness := (true, "5a5dac46e8e982de828230228fc7a8428f4ad450b7a596e267bebbde572f44dc"), looks := false }, kinds := [], alts := [], laidByText := true, laidKinds := [.data, .pinned], laidTests := true, laidLooks := .later }
def PlanSmallUptoCardSaid : Prop := Claim7.holds Tryd.pinned (.plain (OpenSpec.upto planSmallSpec)) planSmallUptoCard

/-- THE SECOND FORM's CARD OF 'hayloftlaw24.PlanReaches'. -/
def planReachesUptoCard : Claim7 := { stood := { row := planReachesUptoRow, standIns := [], harness := (true, "5a5dac46e8e982de828230228fc7a8428f4ad450b7a596e267bebbde572f44dc"), looks := false }, kinds := [], alts := [], laidByText := true, laidKinds := [.data, .pinned], laidTests := true, laidLooks := .later }
def PlanReachesUptoCardSaid : Prop := Claim7.holds Tryd.pinned (.plain (OpenSpec.upto planReachesSpec)) planReachesUptoCard

/-- THE SECOND FORM's CARD OF 'hayloftlaw24.PlanDoes'. -/
def planDoesUptoCard : Claim7 := { stood := { row := planDoesUptoRow, standIns := [], harness := (true, "5a5dac46e8e982de828230228fc7a8428f4ad450b7a596e267bebbde572f44dc"), looks := false }, kinds := [], alts := [], laidByText := true, laidKinds := [.data, .pinned], laidTests := true, laidLooks := .later }
def PlanDoesUptoCardSaid : Prop := Claim7.holds Tryd.pinned (.plain (OpenSpec.upto planDoesSpec)) planDoesUptoCard
end Rows
end Go.Proofs.YtheccdidfkcbbaaDoor
