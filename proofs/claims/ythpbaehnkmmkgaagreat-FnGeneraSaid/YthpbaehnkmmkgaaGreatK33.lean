/- The law of first differences: what it comes to, without a program. -/
import Derived.Test.YthpbaehnkmmkgaaGreatK133
import Derived.Test.YthpbaehnkmmkgaaGreatK25
import Derived.Test.YthpbaehnkmmkgaaGreatK134
import Derived.Test.YthpbaehnkmmkgaaGreatK130
import Derived.Test.YthpbaehnkmmkgaaGreatKT
import Derived.Test.YthpbaehnkmmkgaaGreatKN

-- tables
-- rec
namespace Go.Proofs
open Go Go.Vm Go.Fg Go.Fg.PS
set_option maxRecDepth 100000
set_option linter.unusedSimpArgs false
set_option linter.unusedVariables false
variable {m : Int}
end Go.Proofs



-- tables
-- rec
namespace Go.Proofs
open Go Go.Vm Go.Fg Go.Fg.PS
set_option maxRecDepth 100000
set_option maxHeartbeats 4000000
set_option linter.unusedSimpArgs false
set_option linter.unusedVariables false
end Go.Proofs



-- tables
-- rec
namespace Go.Proofs
open Go Go.Vm Go.Fg Go.Fg.PS
set_option maxRecDepth 100000
set_option maxHeartbeats 4000000
set_option linter.unusedSimpArgs false
set_option linter.unusedVariables false
variable {m : Int}
inductive Mul (f : PS (PS (Zm m))) (n : Nat) : Nat → PS (Zm m) → PS (Zm m) → PS (Zm m) → Prop
  | zero (out a : PS (Zm m)) : Mul f n 0 out a out
  | odd (k : Nat) (out a r : PS (Zm m)) (h2 : k % 2 = 1) (h : Mul f n (k / 2) (putS f out a n) (putS f a a n) r) : Mul f n k out a r
  | even (k : Nat) (out a r : PS (Zm m)) (h1 : k ≠ 0) (h2 : k % 2 = 0) (h : Mul f n (k / 2) out (putS f a a n) r) : Mul f n k out a r
end Go.Proofs


