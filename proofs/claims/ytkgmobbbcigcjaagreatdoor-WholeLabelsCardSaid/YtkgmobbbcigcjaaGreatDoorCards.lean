/-
  DERIVED. GIVEN WITH THE SEED: THE CARDS: each row of YtkgmobbbcigcjaaGreatDoorRows.lean that lists a variable, with what it lists TIED to the program's text (the seventh form; the later family's looks); each row that meets fmt, with fmt's text TOLD by the authors' own Lean function (tested against real Go, not proved from fmt's source: count such statements apart). THE CARD IS WHAT COUNTS. Prove the row's statement (the work); the ties are given (YtkgmobbbcigcjaaGreatDoorTie.lean); close each card by the builder's one call (the guide's Derived/Test/ToyasCard.lean, 'card_holds'). Laid BY PROGRAM, IN A SANDBOX (cutbox-door.mjs). By AI agents, Wed Nov 11 2026. No macro, syntax, notation, axiom, sorry.
-/
import Derived.Test.YtkgmobbbcigcjaaGreatDoorRows
import GoSem.ClaimSeven
namespace Go.Proofs.YtkgmobbbcigcjaaGreatDoor
namespace Rows

/-- THE TIED CARD OF 'hermitagetop.WholeLabels'. -/
def wholeLabelsCard : Claim7 := { stood := { row := wholeLabelsRow, standIns := [], harness := (true, "eca9a205d36b8a6562e4acb53381e0e3daeb0177a43ad7eaec1a0143d19f294b"), looks := true }, kinds := [], alts := [], laidByText := true, laidKinds := [.data, .data], laidTests := true, laidLooks := .later }
def WholeLabelsCardSaid : Prop := Claim7.holds Tryz.pinned (.plain (OpenSpec.ofChange wholeLabelsSpec)) wholeLabelsCard

/-- THE SECOND FORM's CARD OF 'hermitagetop.WholeLabels'. -/
def wholeLabelsUptoCard : Claim7 := { stood := { row := wholeLabelsUptoRow, standIns := [], harness := (true, "eca9a205d36b8a6562e4acb53381e0e3daeb0177a43ad7eaec1a0143d19f294b"), looks := true }, kinds := [], alts := [], laidByText := true, laidKinds := [.data, .data], laidTests := true, laidLooks := .later }
def WholeLabelsUptoCardSaid : Prop := Claim7.holds Tryz.pinned (.plain (OpenSpec.upto wholeLabelsSpec)) wholeLabelsUptoCard
end Rows
end Go.Proofs.YtkgmobbbcigcjaaGreatDoor
