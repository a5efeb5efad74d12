/- Series in two variables: contracts. -/
-- tables
import Derived.Test.YthpbaehnkmmkgaaGreatK2
import Derived.Test.YthpbaehnkmmkgaaGreatK3
import Derived.Test.YthpbaehnkmmkgaaGreatVm32
namespace Go.Proofs
open Go Go.Vm Go.Fg Go.Fg.PS
set_option maxRecDepth 100000
set_option maxHeartbeats 4000000
set_option linter.unusedSimpArgs false
set_option linter.unusedVariables false
variable {m : Int}
end Go.Proofs

