/-
  DERIVED. GIVEN WITH THE SEED: THE CARDS: each row of YtdnamglihacbcaaGreatDoorRows.lean that lists a variable, with what it lists TIED to the program's text (the seventh form; the later family's looks); each row that meets fmt, with fmt's text TOLD by the authors' own Lean function (tested against real Go, not proved from fmt's source: count such statements apart). THE CARD IS WHAT COUNTS. Prove the row's statement (the work); the ties are given (YtdnamglihacbcaaGreatDoorTie.lean); close each card by the builder's one call (the guide's Derived/Test/ToyasCard.lean, 'card_holds'). Laid BY PROGRAM, IN A SANDBOX (cutbox-door.mjs). By AI agents, Wed Nov 11 2026. No macro, syntax, notation, axiom, sorry.
-/
import Derived.Test.YtdnamglihacbcaaGreatDoorRows
import GoSem.ClaimSeven
namespace Go.Proofs.YtdnamglihacbcaaGreatDoor
namespace Rows

/-- THE TIED CARD OF 'spoondriftlaw15.DiagramSmall'. -/
def diagramSmallCard : Claim7 := { stood := { row := diagramSmallRow, standIns := [], harness := (true, "8d918aa30460196d3f15cc47a05394b8c6e6b5add53bc2d9aa1c9fe25d6e4d48"), looks := false }, kinds := [], alts := [], laidByText := true, laidKinds := [.data, .data], laidTests := true, laidLooks := .later }
def DiagramSmallCardSaid : Prop := Claim7.holds Tryz.pinned (.plain (OpenSpec.ofChange diagramSmallSpec)) diagramSmallCard

/-- THE SECOND FORM's CARD OF 'spoondriftlaw15.DiagramSmall'. -/
def diagramSmallUptoCard : Claim7 := { stood := { row := diagramSmallUptoRow, standIns := [], harness := (true, "8d918aa30460196d3f15cc47a05394b8c6e6b5add53bc2d9aa1c9fe25d6e4d48"), looks := false }, kinds := [], alts := [], laidByText := true, laidKinds := [.data, .data], laidTests := true, laidLooks := .later }
def DiagramSmallUptoCardSaid : Prop := Claim7.holds Tryz.pinned (.plain (OpenSpec.upto diagramSmallSpec)) diagramSmallUptoCard
end Rows
end Go.Proofs.YtdnamglihacbcaaGreatDoor
