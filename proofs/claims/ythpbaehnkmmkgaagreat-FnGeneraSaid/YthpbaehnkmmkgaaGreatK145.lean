/- Draws for multiples: a law with a number; a law, a number and a series; the dice of the laws. -/
import Derived.Test.YthpbaehnkmmkgaaGreatK25
import Derived.Test.YthpbaehnkmmkgaaGreatKW
import Derived.Test.YthpbaehnkmmkgaaGreatK33
import Derived.Test.YthpbaehnkmmkgaaGreatK27

-- tables
-- rec
namespace Go.Proofs
open Go Go.Vm Go.Fg Go.Fg.PS
set_option maxRecDepth 100000
set_option maxHeartbeats 4000000
set_option linter.unusedSimpArgs false
set_option linter.unusedVariables false
variable {m : Int}
end Go.Proofs



-- tables
-- rec
namespace Go.Proofs
open Go Go.Vm Go.Fg Go.Fg.PS
set_option maxRecDepth 100000
set_option maxHeartbeats 4000000
set_option linter.unusedSimpArgs false
set_option linter.unusedVariables false
variable {m : Int}
theorem serB_LX (hm : Md m) {n : Nat} (hn : 2 ≤ n ∧ n ≤ 11) (a : PS (Zm m)) : serB m (L n a) = true := by
  simp only [serB, Bool.and_eq_true]
  refine ⟨⟨?_, ?_⟩, ?_⟩
  · simpa [inB, Md] using hm
  · simp [inB]; omega
  · refine numsB_of (fun j hj => ?_)
    rw [L_getD _ (by simpa using hj)]
    have := Zm.val_range hm.pos (a.c j)
    simp [inB]; omega
end Go.Proofs


