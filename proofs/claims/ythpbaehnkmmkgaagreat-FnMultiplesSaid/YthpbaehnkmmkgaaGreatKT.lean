/- Marks: what the laws write into results. -/
import Derived.Test.YthpbaehnkmmkgaaGreatK1
import Derived.Test.YthpbaehnkmmkgaaGreatVm32

namespace Go.Proofs
open Go Go.Vm Go.Fg
set_option maxRecDepth 100000
set_option maxHeartbeats 4000000
set_option linter.unusedSimpArgs false
set_option linter.unusedVariables false

end Go.Proofs



-- tables
namespace Go.Proofs
open Go Go.Vm Go.Fg
set_option maxRecDepth 100000
set_option maxHeartbeats 4000000
set_option linter.unusedSimpArgs false
set_option linter.unusedVariables false

def marksT (k : Int) : List (List Int) → List (List Int)
  | [] => []
  | l :: t => marks k l.length :: marksT (k + l.length) t
@[simp] theorem marksT_length (k : Int) (t : List (List Int)) : (marksT k t).length = t.length := by
  induction t generalizing k with
  | nil => rfl
  | cons l t ih => simp [marksT, ih]
def lensOk (t : List (List Int)) : Prop := ∀ i, i < t.length → (t.getD i []).length ≤ 1048576
theorem lensOk_Tb {m : Int} {n : Nat} (hn : n ≤ 1000) (f : PS (PS (Zm m))) : lensOk (Tb n f) := fun i hi => by
  have hi' : i < n := by simpa using hi
  rw [Tb_getD f hi']; simp; omega
end Go.Proofs


