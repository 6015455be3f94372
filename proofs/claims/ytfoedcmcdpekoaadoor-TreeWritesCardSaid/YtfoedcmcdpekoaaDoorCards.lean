/-
  DERIVED. GIVEN WITH THE SEED: THE CARDS: each row of YtfoedcmcdpekoaaDoorRows.lean that lists a variable, with what it lists TIED to the program's text (the seventh form; the later family's looks); each row that meets fmt, with fmt's text TOLD by the authors' own Lean function (tested against real Go, not proved from fmt's source: count such statements apart). THE CARD IS WHAT COUNTS. Prove the row's statement (the work); the ties are given (YtfoedcmcdpekoaaDoorTie.lean); close each card by the builder's one call (the guide's Derived/Test/ToyasCard.lean, 'card_holds'). Laid BY PROGRAM, IN A SANDBOX (cutbox-door.mjs). By AI agents, Wed Nov 11 2026. No macro, syntax, notation, axiom, sorry.
-/
import Derived.Test.YtfoedcmcdpekoaaDoorRows
import GoSem.ClaimSeven
namespace Go.Proofs.YtfoedcmcdpekoaaDoor
namespace Rows

/-- THE TIED CARD OF 'hayloftlaw13.TreePaths'. -/
def treePathsCard : Claim7 := { stood := { row := treePathsRow, standIns := [], harness := (true, "75084aa9ff163afe2091c874debeed5f667d8bc678b0ef4fd3d4b5d3543e2929"), looks := false }, kinds := [], alts := [], laidByText := true, laidKinds := [.data, .pinned], laidTests := true, laidLooks := .later }
def TreePathsCardSaid : Prop := Claim7.holds Tryd.pinned (.plain (OpenSpec.ofChange treePathsSpec)) treePathsCard

/-- THE TIED CARD OF 'hayloftlaw13.TreeLooks'. -/
def treeLooksCard : Claim7 := { stood := { row := treeLooksRow, standIns := [], harness := (true, "75084aa9ff163afe2091c874debeed5f667d8bc678b0ef4fd3d4b5d3543e2929"), looks := false }, kinds := [], alts := [], laidByText := true, laidKinds := [.data, .pinned], laidTests := true, laidLooks := .later }
def TreeLooksCardSaid : Prop := Claim7.holds Tryd.pinned (.plain (OpenSpec.ofChange treeLooksSpec)) treeLooksCard

/-- THE TIED CARD OF 'hayloftlaw13.TreeChanges'. -/
def treeChangesCard : Claim7 := { stood := { row := treeChangesRow, standIns := [], harness := (true, "75084aa9ff163afe2091c874debeed5f667d8bc678b0ef4fd3d4b5d3543e2929"), looks := false }, kinds := [], alts := [], laidByText := true, laidKinds := [.data, .pinned], laidTests := true, laidLooks := .later }
def TreeChangesCardSaid : Prop := Claim7.holds Tryd.pinned (.plain (OpenSpec.ofChange treeChangesSpec)) treeChangesCard

/-- THE TIED CARD OF 'hayloftlaw13.TreePlays'. -/
def treePlaysCard : Claim7 := { stood := { row := treePlaysRow, standIns := [], harness := (true, "75084aa9ff163afe2091c874debeed5f667d8bc678b0ef4fd3d4b5d3543e2929"), looks := false }, kinds := [], alts := [], laidByText := true, laidKinds := [.data, .pinned], laidTests := true, laidLooks := .later }
def TreePlaysCardSaid : Prop := Claim7.holds Tryd.pinned (.plain (OpenSpec.ofChange treePlaysSpec)) treePlaysCard

/-- THE TIED CARD OF 'hayloftlaw13.TreeWrites'. -/
def treeWritesCard : Claim7 := { stood := { row := treeWritesRow, standIns := [], harness := (true, "75084aa9ff163afe2091c874debeed5f667d8bc678b0ef4fd3d4b5d3543e2929"), looks := false }, kinds := [], alts := [], laidByText := true, laidKinds := [.data, .pinned], laidTests := true, laidLooks := .later }
def TreeWritesCardSaid : Prop := Claim7.holds Tryd.pinned (.plain (OpenSpec.ofChange treeWritesSpec)) treeWritesCard

/-- THE SECOND FORM's CARD OF 'hayloftlaw13.TreePaths'. -/
def treePathsUptoCard : Claim7 := { stood := { row := treePathsUptoRow, standIns := [], harness := (true, "75084aa9ff163afe2091c874debeed5f667d8bc678b0ef4fd3d4b5d3543e2929"), looks := false }, kinds := [], alts := [], laidByText := true, laidKinds := [.data, .pinned], laidTests := true, laidLooks := .later }
def TreePathsUptoCardSaid : Prop := Claim7.holds Tryd.pinned (.plain (OpenSpec.upto treePathsSpec)) treePathsUptoCard

/-- THE SECOND FORM's CARD OF 'hayloftlaw13.TreeLooks'. -/
def treeLooksUptoCard : Claim7 := { stood := { row := treeLooksUptoRow, standIns := [], harness := (true, "75084aa9ff163afe2091c874debeed5f667d8bc678b0ef4fd3d4b5d3543e2929"), looks := false }, kinds := [], alts := [], laidByText := true, laidKinds := [.data, .pinned], laidTests := true, laidLooks := .later }
def TreeLooksUptoCardSaid : Prop := Claim7.holds Tryd.pinned (.plain (OpenSpec.upto treeLooksSpec)) treeLooksUptoCard

/-- THE SECOND FORM's CARD OF 'hayloftlaw13.TreeChanges'. -/
def treeChangesUptoCard : Claim7 := { stood := { row := treeChangesUptoRow, standIns := [], harness := (true, "75084aa9ff163afe2091c874debeed5f667d8bc678b0ef4fd3d4b5d3543e2929"), looks := false }, kinds := [], alts := [], laidByText := true, laidKinds := [.data, .pinned], laidTests := true, laidLooks := .later }
def TreeChangesUptoCardSaid : Prop := Claim7.holds Tryd.pinned (.plain (OpenSpec.upto treeChangesSpec)) treeChangesUptoCard

/-- THE SECOND FORM's CARD OF 'hayloftlaw13.TreePlays'. -/
def treePlaysUptoCard : Claim7 := { stood := { row := treePlaysUptoRow, standIns := [], harness := (true, "75084aa9ff163afe2091c874debeed5f667d8bc678b0ef4fd3d4b5d3543e2929"), looks := false }, kinds := [], alts := [], laidByText := true, laidKinds := [.data, .pinned], laidTests := true, laidLooks := .later }
def TreePlaysUptoCardSaid : Prop := Claim7.holds Tryd.pinned (.plain (OpenSpec.upto treePlaysSpec)) treePlaysUptoCard

/-- THE SECOND FORM's CARD OF 'hayloftlaw13.TreeWrites'. -/
def treeWritesUptoCard : Claim7 := { stood := { row := treeWritesUptoRow, standIns := [], harness := (true, "75084aa9ff163afe2091c874debeed5f667d8bc678b0ef4fd3d4b5d3543e2929"), looks := false }, kinds := [], alts := [], laidByText := true, laidKinds := [.data, .pinned], laidTests := true, laidLooks := .later }
def TreeWritesUptoCardSaid : Prop := Claim7.holds Tryd.pinned (.plain (OpenSpec.upto treeWritesSpec)) treeWritesUptoCard
end Rows
end Go.Proofs.YtfoedcmcdpekoaaDoor
