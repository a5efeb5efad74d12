/- Marks: what the laws write into results. -/
import Derived.Test.YtocnfkphpmolkaaGreatK1
import Derived.Test.YtocnfkphpmolkaaGreatVm32
namespace Go.Proofs
open Go Go.Vm Go.Fg
set_option maxRecDepth 100000
set_option maxHeartbeats 4000000
set_option linter.unusedSimpArgs false
set_option linter.unusedVariables false

end Go.Proofs

