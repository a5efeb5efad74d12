/- Curves put into planes. -/
import Derived.Test.YthpbaehnkmmkgaaGreatK10
import Derived.Test.YthpbaehnkmmkgaaGreatVm32
import Derived.Test.YthpbaehnkmmkgaaGreatK22
import Derived.Test.YthpbaehnkmmkgaaGreatK7
import Derived.Test.YthpbaehnkmmkgaaGreatKS

-- tables
-- rec
namespace Go.Proofs
open Go Go.Vm Go.Fg Go.Fg.PS
set_option maxRecDepth 100000
set_option maxHeartbeats 4000000
set_option linter.unusedSimpArgs false
set_option linter.unusedVariables false
variable {m : Int}
def srs (n : Nat) (a : PS (Zm m)) : Nat → List D
  | 0 => []
  | k + 1 => srs n a k ++ [dint m, .list true 1 (ints (L n (pw a k)))]
@[simp] theorem srs_length (n : Nat) (a : PS (Zm m)) (k : Nat) : (srs n a k).length = 2 * k := by
  induction k with
  | zero => rfl
  | succ k ih => simp only [srs, List.length_append, ih, List.length_cons, List.length_nil]; omega
def putP (f : PS (PS (Zm m))) (a b : PS (Zm m)) (n i j : Nat) : PS (Zm m) :=
  sm i (fun i => sm (n - i) fun j => PS.C ((f.c i).c j) * (pw a i * pw b j)) + sm j fun j => PS.C ((f.c i).c j) * (pw a i * pw b j)
def putS (f : PS (PS (Zm m))) (a b : PS (Zm m)) (n : Nat) : PS (Zm m) := putP f a b n n 0
def pwr (n : Nat) (a : PS (Zm m)) (k : Nat) : List (List Int) := (List.range k).map fun i => L n (pw a i)
@[simp] theorem pwr_length (n : Nat) (a : PS (Zm m)) (k : Nat) : (pwr n a k).length = k := by simp [pwr]
end Go.Proofs



-- tables
-- rec
namespace Go.Proofs
open Go Go.Vm Go.Fg Go.Fg.PS
set_option maxRecDepth 100000
set_option maxHeartbeats 4000000
set_option linter.unusedSimpArgs false
set_option linter.unusedVariables false
variable {m : Int}
end Go.Proofs



-- tables
namespace Go.Proofs
open Go Go.Vm Go.Fg
set_option maxRecDepth 100000
set_option maxHeartbeats 4000000
set_option linter.unusedSimpArgs false
set_option linter.unusedVariables false

def marksT (k : Int) : List (List Int) → List (List Int)
  | [] => []
  | l :: t => marks k l.length :: marksT (k + l.length) t
@[simp] theorem marksT_length (k : Int) (t : List (List Int)) : (marksT k t).length = t.length := by
  induction t generalizing k with
  | nil => rfl
  | cons l t ih => simp [marksT, ih]
def lensOk (t : List (List Int)) : Prop := ∀ i, i < t.length → (t.getD i []).length ≤ 1048576
theorem lensOk_Tb {m : Int} {n : Nat} (hn : n ≤ 1000) (f : PS (PS (Zm m))) : lensOk (Tb n f) := fun i hi => by
  have hi' : i < n := by simpa using hi
  rw [Tb_getD f hi']; simp; omega
end Go.Proofs


