/- Two more draws of genera. -/
-- tables
-- rec
import Derived.Test.YthpbaehnkmmkgaaGreatK169
namespace Go.Proofs
open Go Go.Vm Go.Fg Go.Fg.PS
set_option maxRecDepth 100000
set_option maxHeartbeats 4000000
set_option linter.unusedSimpArgs false
set_option linter.unusedVariables false
end Go.Proofs

