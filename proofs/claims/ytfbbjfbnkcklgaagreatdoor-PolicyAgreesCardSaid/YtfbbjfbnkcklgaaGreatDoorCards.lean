/-
  DERIVED. GIVEN WITH THE SEED: THE CARDS: each row of YtfbbjfbnkcklgaaGreatDoorRows.lean that lists a variable, with what it lists TIED to the program's text (the seventh form; the later family's looks); each row that meets fmt, with fmt's text TOLD by the authors' own Lean function (tested against real Go, not proved from fmt's source: count such statements apart). THE CARD IS WHAT COUNTS. Prove the row's statement (the work); the ties are given (YtfbbjfbnkcklgaaGreatDoorTie.lean); close each card by the builder's one call (the guide's Derived/Test/ToyasCard.lean, 'card_holds'). Laid BY PROGRAM, IN A SANDBOX (cutbox-door.mjs). By AI agents, Wed Nov 11 2026. No macro, syntax, notation, axiom, sorry.
-/
import Derived.Test.YtfbbjfbnkcklgaaGreatDoorRows
import GoSem.ClaimSeven
namespace Go.Proofs.YtfbbjfbnkcklgaaGreatDoor
namespace Rows

/-- THE TIED CARD OF 'hayloftlaw22.MergeMerges'. -/
def mergeMergesCard : Claim7 := { stood := { row := mergeMergesRow, standIns := [], harness := (true, "113ac5747d96575fbcda31e55d5310c6f3f1c21629f2a8cd29e1ac263b5f2cd5"), looks := true }, kinds := [], alts := [], laidByText := true, laidKinds := [.data, .pinned], laidTests := true, laidLooks := .later }
def MergeMergesCardSaid : Prop := Claim7.holds Tryz.pinned (.plain (OpenSpec.ofChange mergeMergesSpec)) mergeMergesCard

/-- THE TIED CARD OF 'hayloftlaw22.MergeSpec'. -/
def mergeSpecCard : Claim7 := { stood := { row := mergeSpecRow, standIns := [], harness := (true, "113ac5747d96575fbcda31e55d5310c6f3f1c21629f2a8cd29e1ac263b5f2cd5"), looks := true }, kinds := [], alts := [], laidByText := true, laidKinds := [.data, .pinned], laidTests := true, laidLooks := .later }
def MergeSpecCardSaid : Prop := Claim7.holds Tryz.pinned (.plain (OpenSpec.ofChange mergeSpecSpec)) mergeSpecCard

/-- THE TIED CARD OF 'hayloftlaw22.MergeAgain'. -/
def mergeAgainCard : Claim7 := { stood := { row := mergeAgainRow, standIns := [], harness := (true, "113ac5747d96575fbcda31e55d5310c6f3f1c21629f2a8cd29e1ac263b5f2cd5"), looks := true }, kinds := [], alts := [], laidByText := true, laidKinds := [.data, .pinned], laidTests := true, laidLooks := .later }
def MergeAgainCardSaid : Prop := Claim7.holds Tryz.pinned (.plain (OpenSpec.ofChange mergeAgainSpec)) mergeAgainCard

/-- THE TIED CARD OF 'hayloftlaw22.MergeConflicts'. -/
def mergeConflictsCard : Claim7 := { stood := { row := mergeConflictsRow, standIns := [], harness := (true, "113ac5747d96575fbcda31e55d5310c6f3f1c21629f2a8cd29e1ac263b5f2cd5"), looks := true }, kinds := [], alts := [], laidByText := true, laidKinds := [.data, .pinned], laidTests := true, laidLooks := .later }
def MergeConflictsCardSaid : Prop := Claim7.holds Tryz.pinned (.plain (OpenSpec.ofChange mergeConflictsSpec)) mergeConflictsCard

/-- THE TIED CARD OF 'hayloftlaw23.PolicyAgrees'. -/
def policyAgreesCard : Claim7 := { stood := { row := policyAgreesRow, standIns := [], harness := (true, "113ac5747d96575fbcda31e55d5310c6f3f1c21629f2a8cd29e1ac263b5f2cd5"), looks := true }, kinds := [], alts := [], laidByText := true, laidKinds := [.data, .pinned], laidTests := true, laidLooks := .later }
def PolicyAgreesCardSaid : Prop := Claim7.holds Tryz.pinned (.plain (OpenSpec.ofChange policyAgreesSpec)) policyAgreesCard

/-- THE TIED CARD OF 'hayloftlaw23.PolicyNames'. -/
def policyNamesCard : Claim7 := { stood := { row := policyNamesRow, standIns := [], harness := (true, "113ac5747d96575fbcda31e55d5310c6f3f1c21629f2a8cd29e1ac263b5f2cd5"), looks := true }, kinds := [], alts := [], laidByText := true, laidKinds := [.data, .pinned], laidTests := true, laidLooks := .later }
def PolicyNamesCardSaid : Prop := Claim7.holds Tryz.pinned (.plain (OpenSpec.ofChange policyNamesSpec)) policyNamesCard

/-- THE SECOND FORM's CARD OF 'hayloftlaw22.MergeMerges'. -/
def mergeMergesUptoCard : Claim7 := { stood := { row := mergeMergesUptoRow, standIns := [], harness := (true, "113ac5747d96575fbcda31e55d5310c6f3f1c21629f2a8cd29e1ac263b5f2cd5"), looks := true }, kinds := [], alts := [], laidByText := true, laidKinds := [.data, .pinned], laidTests := true, laidLooks := .later }
def MergeMergesUptoCardSaid : Prop := Claim7.holds Tryz.pinned (.plain (OpenSpec.upto mergeMergesSpec)) mergeMergesUptoCard

/-- THE SECOND FORM's CARD OF 'hayloftlaw22.MergeSpec'. -/
def mergeSpecUptoCard : Claim7 := { stood := { row := mergeSpecUptoRow, standIns := [], harness := (true, "113ac5747d96575fbcda31e55d5310c6f3f1c21629f2a8cd29e1ac263b5f2cd5"), looks := true }, kinds := [], alts := [], laidByText := true, laidKinds := [.data, .pinned], laidTests := true, laidLooks := .later }
def MergeSpecUptoCardSaid : Prop := Claim7.holds Tryz.pinned (.plain (OpenSpec.upto mergeSpecSpec)) mergeSpecUptoCard

/-- THE SECOND FORM's CARD OF 'hayloftlaw22.MergeAgain'. -/
def mergeAgainUptoCard : Claim7 := { stood := { row := mergeAgainUptoRow, standIns := [], harness := (true, "113ac5747d96575fbcda31e55d5310c6f3f1c21629f2a8cd29e1ac263b5f2cd5"), looks := true }, kinds := [], alts := [], laidByText := true, laidKinds := [.data, .pinned], laidTests := true, laidLooks := .later }
def MergeAgainUptoCardSaid : Prop := Claim7.holds Tryz.pinned (.plain (OpenSpec.upto mergeAgainSpec)) mergeAgainUptoCard

/-- THE SECOND FORM's CARD OF 'hayloftlaw22.MergeConflicts'. -/
def mergeConflictsUptoCard : Claim7 := { stood := { row := mergeConflictsUptoRow, standIns := [], harness := (true, "113ac5747d96575fbcda31e55d5310c6f3f1c21629f2a8cd29e1ac263b5f2cd5"), looks := true }, kinds := [], alts := [], laidByText := true, laidKinds := [.data, .pinned], laidTests := true, laidLooks := .later }
def MergeConflictsUptoCardSaid : Prop := Claim7.holds Tryz.pinned (.plain (OpenSpec.upto mergeConflictsSpec)) mergeConflictsUptoCard

/-- THE SECOND FORM's CARD OF 'hayloftlaw23.PolicyAgrees'. -/
def policyAgreesUptoCard : Claim7 := { stood := { row := policyAgreesUptoRow, standIns := [], harness := (true, "113ac5747d96575fbcda31e55d5310c6f3f1c21629f2a8cd29e1ac263b5f2cd5"), looks := true }, kinds := [], alts := [], laidByText := true, laidKinds := [.data, .pinned], laidTests := true, laidLooks := .later }
def PolicyAgreesUptoCardSaid : Prop := Claim7.holds Tryz.pinned (.plain (OpenSpec.upto policyAgreesSpec)) policyAgreesUptoCard

/-- THE SECOND FORM's CARD OF 'hayloftlaw23.PolicyNames'. -/
def policyNamesUptoCard : Claim7 := { stood := { row := policyNamesUptoRow, standIns := [], harness := (true, "113ac5747d96575fbcda31e55d5310c6f3f1c21629f2a8cd29e1ac263b5f2cd5"), looks := true }, kinds := [], alts := [], laidByText := true, laidKinds := [.data, .pinned], laidTests := true, laidLooks := .later }
def PolicyNamesUptoCardSaid : Prop := Claim7.holds Tryz.pinned (.plain (OpenSpec.upto policyNamesSpec)) policyNamesUptoCard
end Rows
end Go.Proofs.YtfbbjfbnkcklgaaGreatDoor
