/- Planes as arguments: copies, sizes, what is a plane. -/
import Derived.Test.YthpbaehnkmmkgaaGreatK1
import Derived.Test.YthpbaehnkmmkgaaGreatKT
import Derived.Test.YthpbaehnkmmkgaaGreatK22

-- tables
namespace Go.Proofs
open Go Go.Vm Go.Fg Go.Fg.PS
set_option maxRecDepth 100000
set_option maxHeartbeats 4000000
set_option linter.unusedSimpArgs false
set_option linter.unusedVariables false
variable {m : Int}
def rowsP (t : List (List Int)) (i : Nat) : List D := rows true (t.take i) ++ List.replicate (t.length - i) (.lit (.slice none 0 0))
@[simp] theorem rowsP_length (t : List (List Int)) {i : Nat} : (rowsP t i).length = min i t.length + (t.length - i) := by simp [rowsP]
def rowOk (m : Int) (t : List (List Int)) (i : Nat) : Bool := decide ((t.getD i []).length = t.length - i) && numsB m (t.getD i [])
def plB (m : Int) (t : List (List Int)) : Bool := inB m 2 10000 && inB t.length 2 11 && (List.range t.length).all (rowOk m t)
end Go.Proofs



-- tables
-- rec
namespace Go.Proofs
open Go Go.Vm Go.Fg Go.Fg.PS
set_option maxRecDepth 100000
set_option maxHeartbeats 4000000
set_option linter.unusedSimpArgs false
set_option linter.unusedVariables false
variable {m : Int}
def pls (n : Nat) (f : PS (PS (Zm m))) : Nat → List D
  | 0 => []
  | k + 1 => pls n f k ++ [dint m, .list true 1 (rows true (Tb n (pw f k)))]
@[simp] theorem pls_length (n : Nat) (f : PS (PS (Zm m))) (k : Nat) : (pls n f k).length = 2 * k := by
  induction k with
  | zero => rfl
  | succ k ih => simp only [pls, List.length_append, ih, List.length_cons, List.length_nil]; omega
def lft (f : PS (PS (Zm m))) (n a b c : Nat) : Zm m := sm (n - c) fun i => (f.c i).c c * ((pw f i).c a).c b
def rgt (f : PS (PS (Zm m))) (n a b c : Nat) : Zm m := sm (n - a) fun j => (f.c a).c j * ((pw f j).c b).c c
end Go.Proofs


