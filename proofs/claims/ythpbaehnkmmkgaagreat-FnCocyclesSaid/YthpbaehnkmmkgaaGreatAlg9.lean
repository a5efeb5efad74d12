/- Square tables of series in two variables. -/
import Derived.Test.YthpbaehnkmmkgaaGreatAlg7

set_option linter.unusedVariables false
set_option linter.unusedSimpArgs false
set_option linter.unusedSectionVars false
namespace Go.Fg
open CR PS
variable {m : Int}
end Go.Fg
