/- Laws to a degree and their tops. -/
import Derived.Test.YthpbaehnkmmkgaaGreatK127
import Derived.Test.YthpbaehnkmmkgaaGreatK28
import Derived.Test.YthpbaehnkmmkgaaGreatK27
import Derived.Test.YthpbaehnkmmkgaaGreatVm32
import Derived.Test.YthpbaehnkmmkgaaGreatAlg8

-- tables
-- rec
namespace Go.Proofs
open Go Go.Vm Go.Fg Go.Fg.PS
set_option maxRecDepth 100000
set_option maxHeartbeats 4000000
set_option linter.unusedSimpArgs false
set_option linter.unusedVariables false
variable {m : Int}
end Go.Proofs



-- tables
namespace Go.Proofs
open Go Go.Vm Go.Fg Go.Fg.PS
set_option maxRecDepth 100000
set_option maxHeartbeats 4000000
set_option linter.unusedSimpArgs false
set_option linter.unusedVariables false
variable {m : Int}
end Go.Proofs



-- tables
-- rec
namespace Go.Proofs
open Go Go.Vm Go.Fg Go.Fg.PS
set_option maxRecDepth 100000
set_option maxHeartbeats 4000000
set_option linter.unusedSimpArgs false
set_option linter.unusedVariables false
variable {m : Int}
theorem least {p : Nat → Prop} {b : Nat} : ∀ {k : Nat}, p k → k < b → ∃ j, j < b ∧ p j ∧ ∀ i, i < j → ¬ p i := by
  intro k
  induction k using Nat.strongRecOn with
  | ind k ih =>
    intro hp hk
    rcases Classical.em (∃ i, i < k ∧ p i) with ⟨i, hi, hpi⟩ | h
    · exact ih i hi hpi (by omega)
    · exact ⟨k, hk, hp, fun i hi hpi => h ⟨i, hi, hpi⟩⟩
@[simp] theorem lazL_length (n : Nat) : (lazL n).length = n + 1 := by simp [lazL]
end Go.Proofs


