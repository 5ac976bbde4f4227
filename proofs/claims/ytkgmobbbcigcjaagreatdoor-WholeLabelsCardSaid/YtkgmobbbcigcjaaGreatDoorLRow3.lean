/- WholeLabels answers true for every input: the card (the row lists two variables of the program with what they hold at the start; the card ties them to the program's text). -/
import Derived.Test.YtkgmobbbcigcjaaGreatDoorLRow2
import Derived.Test.YtkgmobbbcigcjaaGreatDoorLFacts3
import Derived.Test.YtkgmobbbcigcjaaGreatDoorTie
import Derived.Test.YtkgmobbbcigcjaaGreatDoorCards
import Derived.SevenTiedAt
namespace Go.Proofs.YtkgmobbbcigcjaaGreatDoor
set_option linter.unusedVariables false
namespace wholeLabels
open Go.RowKit
theorem card_holds : Rows.WholeLabelsCardSaid :=
  Claim7.holds_tied_plain_at .later [] [.data, .data] true (true, "eca9a205d36b8a6562e4acb53381e0e3daeb0177a43ad7eaec1a0143d19f294b") true
    row_holds (fun _ h => by cases h) by_text (fun _ h => by cases h) wholeLabels_row_tie rfl ⟨rfl, rfl⟩ main_is rfl
    (fun f fn hf hfn => by
      obtain rfl : f = 3 := Option.some.inj (named_3.symm.trans hf) |>.symm
      obtain rfl : fn = Tryz.f3 := (Option.some.inj (Tryz.func3.symm.trans hfn)).symm
      exact ⟨looks_, fun j t ht => by
        rw [Tryz.params3] at ht
        rcases j with _ | _ | j
        · have : t = 22 := by simpa using ht.symm
          subst this
          exact stand22
        · have : t = 5 := by simpa using ht.symm
          subst this
          exact stand5
        · simp at ht⟩)
    goes_
end wholeLabels

/-- The card, under a short name. -/
theorem wholeLabels_card : Rows.WholeLabelsCardSaid := wholeLabels.card_holds
#print axioms wholeLabels_card
end Go.Proofs.YtkgmobbbcigcjaaGreatDoor
