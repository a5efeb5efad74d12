import Derived.Test.YtghcpginhamelaaGreatAlg9
set_option linter.unusedVariables false
set_option linter.unusedSimpArgs false
set_option linter.unusedSectionVars false
namespace Go.Fg
open CR PS
variable {m : Int}
def kN : Nat → Nat
 | 2 => 1
 | 3 => 2
 | 4 => 2
 | _ => 4
end Go.Fg
