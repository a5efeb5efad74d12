/- Two planes drawn, mostly laws that agree up to a degree. -/
import Derived.Test.YthpbaehnkmmkgaaGreatK133
import Derived.Test.YthpbaehnkmmkgaaGreatK130
import Derived.Test.YthpbaehnkmmkgaaGreatK23
import Derived.Test.YthpbaehnkmmkgaaGreatVm32

-- tables
-- rec
namespace Go.Proofs
open Go Go.Vm Go.Fg Go.Fg.PS
set_option maxRecDepth 100000
set_option maxHeartbeats 4000000
set_option linter.unusedSimpArgs false
set_option linter.unusedVariables false
variable {m : Int}
theorem fz_tup2 {r : Nat} {cs : List D} {a a' b b' : D} (h1 : Fz r cs a a') (h2 : Fz r cs b b') : Fz r cs (.tup [a, b]) (.tup [a', b']) :=
  .tup _ _ rfl (fun i d d' hd hd' => by
    match i, hd, hd' with
    | 0, hd, hd' => simp at hd hd'; subst hd; subst hd'; exact h1
    | 1, hd, hd' => simp at hd hd'; subst hd; subst hd'; exact h2
    | i + 2, hd, hd' => simp at hd)
end Go.Proofs



-- tables
-- rec
namespace Go.Proofs
open Go Go.Vm Go.Fg Go.Fg.PS
set_option maxRecDepth 100000
set_option maxHeartbeats 4000000
set_option linter.unusedSimpArgs false
set_option linter.unusedVariables false
variable {m : Int}
end Go.Proofs



-- tables
-- rec
namespace Go.Proofs
open Go Go.Vm Go.Fg Go.Fg.PS
set_option maxRecDepth 100000
set_option maxHeartbeats 4000000
set_option linter.unusedSimpArgs false
set_option linter.unusedVariables false
variable {m : Int}
end Go.Proofs



-- tables
-- rec
namespace Go.Proofs
open Go Go.Vm Go.Fg Go.Fg.PS
set_option maxRecDepth 100000
set_option maxHeartbeats 4000000
set_option linter.unusedSimpArgs false
set_option linter.unusedVariables false
end Go.Proofs



-- tables
-- rec
namespace Go.Proofs
open Go Go.Vm Go.Fg Go.Fg.PS
set_option maxRecDepth 100000
set_option maxHeartbeats 4000000
set_option linter.unusedSimpArgs false
set_option linter.unusedVariables false
end Go.Proofs


