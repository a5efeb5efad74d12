/- The laws of characteristic series from values, and of Hirzebruch's series. -/
import Derived.Test.YthpbaehnkmmkgaaGreatK11
import Derived.Test.YthpbaehnkmmkgaaGreatKS
import Derived.Test.YthpbaehnkmmkgaaGreatK112
import Derived.Test.YthpbaehnkmmkgaaGreatK3

namespace Go.Proofs
open Go Go.Vm Go.Fg Go.Fg.PS
set_option maxRecDepth 100000
set_option maxHeartbeats 4000000
set_option linter.unusedSimpArgs false
set_option linter.unusedVariables false
variable {m : Int}
end Go.Proofs



-- tables
-- rec
namespace Go.Proofs
open Go Go.Vm Go.Fg Go.Fg.PS
set_option maxRecDepth 100000
set_option maxHeartbeats 4000000
set_option linter.unusedSimpArgs false
set_option linter.unusedVariables false
variable {m : Int}
end Go.Proofs


