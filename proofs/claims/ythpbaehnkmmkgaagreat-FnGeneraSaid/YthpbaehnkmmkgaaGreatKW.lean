/- Inverses of laws, opposites and multiples of curves by integers: both sides. -/
import Derived.Test.YthpbaehnkmmkgaaGreatK33
import Derived.Test.YthpbaehnkmmkgaaGreatK7
import Derived.Test.YthpbaehnkmmkgaaGreatAlg21
import Derived.Test.YthpbaehnkmmkgaaGreatK130
import Derived.Test.YthpbaehnkmmkgaaGreatKS
import Derived.Test.YthpbaehnkmmkgaaGreatK133
import Derived.Test.YthpbaehnkmmkgaaGreatVm32

-- tables
-- rec
namespace Go.Proofs
open Go Go.Vm Go.Fg Go.Fg.PS
set_option maxRecDepth 100000
set_option maxHeartbeats 4000000
set_option linter.unusedSimpArgs false
set_option linter.unusedVariables false
variable {m : Int}
end Go.Proofs



-- tables
-- rec
namespace Go.Proofs
open Go Go.Vm Go.Fg Go.Fg.PS
set_option maxRecDepth 100000
set_option maxHeartbeats 4000000
set_option linter.unusedSimpArgs false
set_option linter.unusedVariables false
end Go.Proofs



-- tables
-- rec
namespace Go.Proofs
open Go Go.Vm Go.Fg Go.Fg.PS
set_option maxRecDepth 100000
set_option maxHeartbeats 4000000
set_option linter.unusedSimpArgs false
set_option linter.unusedVariables false
variable {m : Int}
end Go.Proofs



-- tables
-- rec
namespace Go.Vm
open Go
structure Hold (p : Prop) : Prop where
  out : p
section
variable {P : Program} {T : Tab} {kp : Nat}
end
end Go.Vm


