/- Helpers: tables row by row, laws to a degree. -/
import Derived.Test.YthpbaehnkmmkgaaGreatK27
import Derived.Test.YthpbaehnkmmkgaaGreatAlg11
import Derived.Test.YthpbaehnkmmkgaaGreatVm32
import Derived.Test.YthpbaehnkmmkgaaGreatKT
import Derived.Test.YthpbaehnkmmkgaaGreatK13
import Derived.Test.YthpbaehnkmmkgaaGreatK125
import Derived.Test.YthpbaehnkmmkgaaGreatK79
import Derived.Test.YthpbaehnkmmkgaaGreatK7

-- tables
-- rec
namespace Go.Proofs
open Go Go.Vm Go.Fg Go.Fg.PS
set_option maxRecDepth 100000
set_option maxHeartbeats 4000000
set_option linter.unusedSimpArgs false
set_option linter.unusedVariables false
variable {m : Int}
end Go.Proofs



-- tables
-- rec
namespace Go.Proofs
open Go Go.Vm Go.Fg Go.Fg.PS
set_option maxRecDepth 100000
set_option maxHeartbeats 4000000
set_option linter.unusedSimpArgs false
set_option linter.unusedVariables false
variable {m : Int}
end Go.Proofs



-- tables
-- rec
namespace Go.Proofs
open Go Go.Vm Go.Fg Go.Fg.PS
set_option maxRecDepth 100000
set_option maxHeartbeats 4000000
set_option linter.unusedSimpArgs false
set_option linter.unusedVariables false
variable {m : Int}
theorem mul_bd {x y : Int} (hx : 0 ≤ x ∧ x ≤ 10000) (hy : 0 ≤ y ∧ y ≤ 10000) : 0 ≤ x * y ∧ x * y ≤ 100000000 :=
  ⟨Int.mul_nonneg hx.1 hy.1, by have := Int.mul_le_mul hx.2 hy.2 hy.1 (by omega : (0 : Int) ≤ 10000); omega⟩
end Go.Proofs



-- tables
namespace Go.Proofs
open Go Go.Vm Go.Fg Go.Fg.PS
set_option maxRecDepth 100000
set_option maxHeartbeats 4000000
set_option linter.unusedSimpArgs false
set_option linter.unusedVariables false
variable {m : Int}
def lazL (n : Nat) : List Int := (List.range (n + 1)).map fun i => (lazV n i : Int)
end Go.Proofs



-- tables
-- rec
namespace Go.Proofs
open Go Go.Vm Go.Fg Go.Fg.PS
set_option maxRecDepth 100000
set_option maxHeartbeats 4000000
set_option linter.unusedSimpArgs false
set_option linter.unusedVariables false
variable {m : Int}
end Go.Proofs


