/- The first difference of two laws is a cocycle. -/
import Derived.Test.YthpbaehnkmmkgaaGreatK23
import Derived.Test.YthpbaehnkmmkgaaGreatK130
import Derived.Test.YthpbaehnkmmkgaaGreatK79
import Derived.Test.YthpbaehnkmmkgaaGreatK28

namespace Go.Proofs
open Go Go.Vm Go.Fg Go.Fg.PS
set_option maxRecDepth 100000
set_option linter.unusedSimpArgs false
set_option linter.unusedVariables false
variable {m : Int}
end Go.Proofs



-- tables
-- rec
namespace Go.Proofs
open Go Go.Vm Go.Fg Go.Fg.PS
set_option maxRecDepth 100000
set_option maxHeartbeats 4000000
set_option linter.unusedSimpArgs false
set_option linter.unusedVariables false
variable {m : Int}
open Classical in
noncomputable def twC (m : Int) (t : List (List Int)) (m' : Int) (t' : List (List Int)) : Int := if lawB m t = true ∧ lawB m' t' = true then (if m = m' ∧ t.length = t'.length then 0 else 2) else 1
end Go.Proofs



-- tables
-- rec
namespace Go.Proofs
open Go Go.Vm Go.Fg Go.Fg.PS
set_option maxRecDepth 100000
set_option maxHeartbeats 4000000
set_option linter.unusedSimpArgs false
set_option linter.unusedVariables false
variable {m : Int}
theorem fz_one {r : Nat} {cs : List D} {d d' : D} (h : Fz r cs d d') : ∀ i, Fz r cs ([d].getD i .undef) ([d'].getD i .undef)
  | 0 => h
  | i + 1 => .rfl _
theorem setT_length (t : List (List Int)) (i j : Nat) (x : Int) : (setT t i j x).length = t.length := by unfold setT; rw [List.length_set]
end Go.Proofs


