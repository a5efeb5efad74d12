/- The law of the laws of genera. -/
-- tables
-- rec
import Derived.Test.YthpbaehnkmmkgaaGreatK22
import Derived.Test.YthpbaehnkmmkgaaGreatK9
import Derived.Test.YthpbaehnkmmkgaaGreatKT
namespace Go.Proofs
open Go Go.Vm Go.Fg Go.Fg.PS
set_option maxRecDepth 100000
set_option maxHeartbeats 4000000
set_option linter.unusedSimpArgs false
set_option linter.unusedVariables false
variable {m : Int}
end Go.Proofs

