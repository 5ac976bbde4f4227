/- WholeLabels answers true for every input: the row. -/
import Derived.Test.YtkgmobbbcigcjaaGreatDoorLRow1
import Derived.Test.YtkgmobbbcigcjaaGreatDoorLFacts2
namespace Go.Proofs.YtkgmobbbcigcjaaGreatDoor
set_option linter.unusedVariables false
namespace wholeLabels
open Go.RowKit
theorem named3 : Tryz.checked.prog.funcNamed "hermitage/hermitagetop.WholeLabels" = some 3 := by kernel_rfl
theorem inst3 : Tryz.f3.isInstance Tryz.checked.prog Rows.wholeLabelsRow.origin Rows.wholeLabelsRow.targs := of_decide_eq_true (by kernel_rfl)
theorem wrap3 : Tryz.f3.isWrapper Tryz.checked.prog Rows.wholeLabelsRow.wrapper Rows.wholeLabelsRow.mainSum := by
  unfold Func.isWrapper; first | (rw [if_pos (by decide +kernel)]; kernel_rfl) | (rw [if_neg (by decide +kernel)]; exact ⟨rfl, rfl⟩)
theorem and_of {a b : Bool} (ha : a = true) (hb : b = true) : (a && b) = true := by rw [ha, hb]; rfl
theorem closed : joinedFacts Tryz.checked.prog 3 Tryz.f3 Rows.wholeLabelsSpec Rows.wholeLabelsRow = true := by
  unfold joinedFacts
  exact (and_of (and_of (and_of (and_of (and_of (and_of (and_of (and_of (and_of (and_of (and_of (and_of (and_of (and_of (and_of (and_of (and_of (and_of (and_of (and_of (and_of (and_of (and_of (and_of (and_of (and_of (and_of (and_of (and_of (and_of (and_of (by kernel_rfl) fact1) fact2) (by kernel_rfl)) (by kernel_rfl)) (by kernel_rfl)) (by kernel_rfl)) (by kernel_rfl)) (by kernel_rfl)) fact9) fact10) fact11) fact12) (by kernel_rfl)) (by kernel_rfl)) (by kernel_rfl)) (by kernel_rfl)) (by kernel_rfl)) (by kernel_rfl)) (by kernel_rfl)) (by kernel_rfl)) (by kernel_rfl)) fact22) (by kernel_rfl)) fact24) fact25) (by kernel_rfl)) (by kernel_rfl)) (by kernel_rfl)) (by kernel_rfl)) (by kernel_rfl)) (by kernel_rfl))
theorem row_holds : Rows.WholeLabelsSaid :=
  OpenClaim.holds_of_wide 3 Tryz.f3 rfl rfl rfl rfl rfl rfl rfl ⟨rfl, rfl, rfl, rfl, rfl⟩ rfl rfl rfl rfl rfl named3 Tryz.func3 closed inst3 wrap3
    (fun os started H enc _ => lifted os started H enc)
end wholeLabels
end Go.Proofs.YtkgmobbbcigcjaaGreatDoor
