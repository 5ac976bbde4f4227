import Derived.Test.YtkgmobbbcigcjaaGreatDoorProg
import Derived.KernelRfl
import Derived.Test.YtkgmobbbcigcjaaGreatDoorLPat
namespace Go.Sx.L
set_option linter.unusedVariables false
open Go Go.Sx
noncomputable abbrev P : Program := Go.Proofs.Tryz.prog
theorem follows : P.follows .mixedOrders = true := by kernel_rfl
theorem names_ok : (P.funcs.all fun fn => !(fn.name == "runtime.NumGoroutine")) = true := by kernel_rfl
def ck0 : CallK Leaf := fun _ _ _ _ _ => .bad 77
def ckB : CallK BE := fun _ _ _ _ _ => .bad 77
def topArgs : List AV := [.sl 1024 0 1 (.lit 0) (.at 1) false (.at 1), .int .u8 (.at 2)]
end Go.Sx.L
