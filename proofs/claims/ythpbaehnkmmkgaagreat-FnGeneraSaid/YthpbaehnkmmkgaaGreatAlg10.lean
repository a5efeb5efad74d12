/- Numbers with a root of unity: rows of k numbers, series and curves over them. -/
import Derived.Test.YthpbaehnkmmkgaaGreatAlg9

set_option linter.unusedVariables false
set_option linter.unusedSimpArgs false
set_option linter.unusedSectionVars false
namespace Go.Fg
open CR PS
variable {m : Int}
end Go.Fg
