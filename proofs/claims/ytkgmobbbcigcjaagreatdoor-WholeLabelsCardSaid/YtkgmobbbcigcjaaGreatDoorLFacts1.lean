/- WholeLabels: closed facts of the row, one part. -/
import Derived.Test.YtkgmobbbcigcjaaGreatDoorRows
import Derived.JoinedOf
import Derived.KernelRfl
namespace Go.Proofs.YtkgmobbbcigcjaaGreatDoor.wholeLabels
set_option linter.unusedVariables false
theorem fact1 : (laidOutB Tryz.checked.prog) = true := by kernel_rfl
theorem fact2 : (mapsRowed Tryz.checked.prog) = true := by kernel_rfl
theorem fact22 : ((Rows.wholeLabelsRow.plainKeys == Tryz.checked.prog.plainKeys)) = true := by kernel_rfl
theorem fact24 : (Tryz.checked.prog.stopsHeard) = true := by kernel_rfl
theorem fact25 : (Tryz.checked.prog.mayEnter) = true := by kernel_rfl
end Go.Proofs.YtkgmobbbcigcjaaGreatDoor.wholeLabels
