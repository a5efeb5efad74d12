import Derived.Test.YtndhpcigpghejaaGreatAlg9
set_option linter.unusedVariables false
set_option linter.unusedSimpArgs false
set_option linter.unusedSectionVars false
namespace Go.Fg
open CR PS
variable {m : Int}
theorem CC_cc (z : Zm m) (f : PS (PS (Zm m))) (i j : Nat) : ((PS.C (PS.C z) * f).c i).c j = z * (f.c i).c j := by
 rw [C_mul, C_mul]
end Go.Fg
