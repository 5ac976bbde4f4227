/- WholeLabels: closed facts of the row, the other part. -/
import Derived.Test.YtkgmobbbcigcjaaGreatDoorRows
import Derived.JoinedOf
import Derived.KernelRfl
namespace Go.Proofs.YtkgmobbbcigcjaaGreatDoor.wholeLabels
set_option linter.unusedVariables false
theorem fact9 : ((Rows.wholeLabelsRow.inPlace == Tryz.checked.prog.inPlace 3)) = true := by kernel_rfl
theorem fact10 : ((Rows.wholeLabelsRow.unfollowed == Tryz.checked.prog.unfollowed 3)) = true := by kernel_rfl
theorem fact11 : ((Rows.wholeLabelsRow.recurses == Tryz.checked.prog.recurses 3)) = true := by kernel_rfl
theorem fact12 : ((Rows.wholeLabelsRow.named == Tryz.checked.prog.varsNamed 3)) = true := by kernel_rfl
end Go.Proofs.YtkgmobbbcigcjaaGreatDoor.wholeLabels
