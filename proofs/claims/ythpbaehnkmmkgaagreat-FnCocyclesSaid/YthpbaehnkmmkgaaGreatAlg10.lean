/- Numbers with a root of unity: rows of k numbers, series and curves over them. -/
import Derived.Test.YthpbaehnkmmkgaaGreatAlg9

set_option linter.unusedVariables false
set_option linter.unusedSimpArgs false
set_option linter.unusedSectionVars false
namespace Go.Fg
open CR PS
variable {m : Int}
def frT (k : Nat) (ρ : PS (Zm m)) (N : Nat) (f : PS (PS (Zm m))) (a : PS (Zm m)) : Nat → PS (PS (Zm m))
  | 0 => 0
  | i + 1 => puS k ρ N f (frT k ρ N f a i) (cuR k ρ (tnI k ρ i 1) a)
end Go.Fg
