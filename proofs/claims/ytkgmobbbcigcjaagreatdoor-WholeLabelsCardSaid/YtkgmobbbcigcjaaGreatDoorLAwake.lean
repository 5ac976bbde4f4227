/- WholeLabels: `awake` answers true (the machine runs, by the kernel). -/
import Derived.Test.YtkgmobbbcigcjaaGreatDoorLOK
namespace Go.Sx.L
set_option linter.unusedVariables false
open Go Go.Sx
theorem aw_tree : call P ck0 tab0 id 60 4 [] awS.H.hs [] (leafF awS (exitP awS) (fun _ _ => 0)) = .leaf (some 0, []) := by kernel_rfl
theorem aw_of (d : Nat) (h : call P ck0 tab0 id d 4 [] awS.H.hs [] (leafF awS (exitP awS) (fun _ _ => 0)) = .leaf (some 0, [])) : FnOK P 4 0 awS fn (fun _ => True) (fun _ => (0, fun _ => .nul)) :=
  fn_ok (ck := call P ck0 tab0 id d) (findX := exitP awS) (exitNo := fun _ _ => 0) foldMu rfl rfl rfl (fun ρ _ _ => ⟨by
    rw [h]
    exact ⟨rfl, fun _ => rfl⟩, call0 d⟩)
    (fun _ _ => trivial) (fun vs j => fn_kind (b := 13) (by omega) j vs) (fun vs _ i _ => fn_outs (b := 13) (by omega) i vs)
theorem aw_ok : FnOK P 4 0 awS fn (fun _ => True) (fun _ => (0, fun _ => .nul)) := aw_of 60 aw_tree
end Go.Sx.L
