/- Lazard's cocycle. -/
import Derived.Test.YthpbaehnkmmkgaaGreatK22
import Derived.Test.YthpbaehnkmmkgaaGreatKT
import Derived.Test.YthpbaehnkmmkgaaGreatK127
import Derived.Test.YthpbaehnkmmkgaaGreatK79
import Derived.Test.YthpbaehnkmmkgaaGreatK7
import Derived.Test.YthpbaehnkmmkgaaGreatK27

-- tables
namespace Go.Proofs
open Go Go.Vm Go.Fg Go.Fg.PS
set_option maxRecDepth 100000
set_option maxHeartbeats 4000000
set_option linter.unusedSimpArgs false
set_option linter.unusedVariables false
variable {m : Int}
def lazL (n : Nat) : List Int := (List.range (n + 1)).map fun i => (lazV n i : Int)
end Go.Proofs



-- tables
-- rec
namespace Go.Proofs
open Go Go.Vm Go.Fg Go.Fg.PS
set_option maxRecDepth 100000
set_option maxHeartbeats 4000000
set_option linter.unusedSimpArgs false
set_option linter.unusedVariables false
variable {m : Int}
end Go.Proofs



-- tables
-- rec
namespace Go.Proofs
open Go Go.Vm Go.Fg Go.Fg.PS
set_option maxRecDepth 100000
set_option maxHeartbeats 4000000
set_option linter.unusedSimpArgs false
set_option linter.unusedVariables false
variable {m : Int}
open Classical in
noncomputable def trL (p : Prop) : Bool := decide p
def lin (i : Nat) : Zm m := if i = 1 then 1 else 0
def LawP (f : PS (PS (Zm m))) (n : Nat) : Prop :=
  (∀ i, i < n → (f.c i).c 0 = lin i) ∧ (∀ i j, i + j < n → (f.c i).c j = (f.c j).c i) ∧ ∀ a b c, a + b + c < n → lft f n a b c = rgt f n a b c
end Go.Proofs


