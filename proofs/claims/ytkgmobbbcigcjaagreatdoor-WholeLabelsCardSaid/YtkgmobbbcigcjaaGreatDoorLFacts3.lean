/- WholeLabels: closed facts of the card. -/
import Derived.Test.YtkgmobbbcigcjaaGreatDoorRows
import Derived.SevenTiedAt
import Derived.KernelRfl
namespace Go.Proofs.YtkgmobbbcigcjaaGreatDoor.wholeLabels
set_option linter.unusedVariables false
theorem main_is : Tryz.pinned.checked.prog.mainIs = some (true, "eca9a205d36b8a6562e4acb53381e0e3daeb0177a43ad7eaec1a0143d19f294b".toList) := by kernel_rfl
theorem by_text : Rows.wholeLabelsRow.wfByText (OpenSpec.ofChange Rows.wholeLabelsSpec) = true := by kernel_rfl
theorem looks_ : true = Tryz.pinned.checked.prog.looks [] := by kernel_rfl
theorem named_3 : Tryz.prog.funcNamed "hermitage/hermitagetop.WholeLabels" = some 3 := by kernel_rfl
theorem stand22 : Tryz.prog.wantsStandIn 22 = false := by kernel_rfl
theorem stand5 : Tryz.prog.wantsStandIn 5 = false := by kernel_rfl
theorem goes_none {P : Program} (h : P.funcs.any Func.goes = false) (f : FuncId) : P.goes f = false := by
  unfold Program.goes
  rw [h, Bool.and_false, Bool.or_false]
  rw [List.any_eq_false]
  intro g _ hg
  cases hf : P.funcs[g]? with
  | none => rw [hf] at hg; cases hg
  | some fn =>
    rw [hf] at hg
    simp only [Option.any_some] at hg
    obtain ⟨hi, rfl⟩ := Array.getElem?_eq_some_iff.1 hf
    rw [Array.any_eq_false] at h
    exact h g hi hg
theorem goesBy_none {P : Program} {c : OpenClaim} (hs : c.start = .entering) (h : P.funcs.any Func.goes = false) : false = c.goesBy P := by
  unfold OpenClaim.goesBy Program.goesAt Program.goesFrom
  rw [hs]
  simp only [Bool.or_false]
  cases P.funcNamed c.func with
  | none => rfl
  | some f => exact (goes_none h f).symm
theorem none_goes : Tryz.pinned.checked.prog.funcs.any Func.goes = false := by kernel_rfl
theorem goes_ : false = Rows.wholeLabelsRow.goesBy Tryz.pinned.checked.prog := goesBy_none rfl none_goes
end Go.Proofs.YtkgmobbbcigcjaaGreatDoor.wholeLabels
