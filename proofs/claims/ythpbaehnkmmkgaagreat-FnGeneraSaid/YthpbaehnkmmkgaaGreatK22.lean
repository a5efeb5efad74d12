/- Draws of moduli and of lists of numbers. -/
import Derived.Test.YthpbaehnkmmkgaaGreatK112
import Derived.Test.YthpbaehnkmmkgaaGreatK3
import Derived.Test.YthpbaehnkmmkgaaGreatK10
import Derived.Test.YthpbaehnkmmkgaaGreatKN
import Derived.Test.YthpbaehnkmmkgaaGreatAlg7
import Derived.Test.YthpbaehnkmmkgaaGreatVm32

-- tables
-- rec
namespace Go.Proofs
open Go Go.Vm Go.Fg Go.Fg.PS
set_option maxRecDepth 100000
set_option maxHeartbeats 4000000
set_option linter.unusedSimpArgs false
set_option linter.unusedVariables false
variable {m : Int}
end Go.Proofs



-- tables
namespace Go.Proofs
open Go Go.Vm Go.Fg Go.Fg.PS
set_option maxRecDepth 100000
set_option maxHeartbeats 4000000
set_option linter.unusedSimpArgs false
set_option linter.unusedVariables false
variable {m : Int}
end Go.Proofs



-- tables
-- rec
namespace Go.Proofs
open Go Go.Vm Go.Fg Go.Fg.PS
set_option maxRecDepth 100000
set_option maxHeartbeats 4000000
set_option linter.unusedSimpArgs false
set_option linter.unusedVariables false
variable {m : Int}
end Go.Proofs


