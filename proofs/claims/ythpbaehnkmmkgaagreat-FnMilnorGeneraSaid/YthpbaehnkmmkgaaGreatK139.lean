/- Two planes drawn, mostly laws that agree up to a degree. -/
import Derived.Test.YthpbaehnkmmkgaaGreatK133
import Derived.Test.YthpbaehnkmmkgaaGreatVm32
import Derived.Test.YthpbaehnkmmkgaaGreatK134
import Derived.Test.YthpbaehnkmmkgaaGreatKT
import Derived.Test.YthpbaehnkmmkgaaGreatKN
import Derived.Test.YthpbaehnkmmkgaaGreatK7
import Derived.Test.YthpbaehnkmmkgaaGreatAlg21
import Derived.Test.YthpbaehnkmmkgaaGreatKS

-- tables
-- rec
namespace Go.Proofs
open Go Go.Vm Go.Fg Go.Fg.PS
set_option maxRecDepth 100000
set_option maxHeartbeats 4000000
set_option linter.unusedSimpArgs false
set_option linter.unusedVariables false
variable {m : Int}
end Go.Proofs



-- tables
-- rec
namespace Go.Proofs
open Go Go.Vm Go.Fg Go.Fg.PS
set_option maxRecDepth 100000
set_option maxHeartbeats 4000000
set_option linter.unusedSimpArgs false
set_option linter.unusedVariables false
variable {m : Int}
end Go.Proofs



-- tables
-- rec
namespace Go.Proofs
open Go Go.Vm Go.Fg Go.Fg.PS
set_option maxRecDepth 100000
set_option maxHeartbeats 4000000
set_option linter.unusedSimpArgs false
set_option linter.unusedVariables false
variable {m : Int}
end Go.Proofs



-- tables
-- rec
namespace Go.Proofs
open Go Go.Vm Go.Fg Go.Fg.PS
set_option maxRecDepth 100000
set_option maxHeartbeats 4000000
set_option linter.unusedSimpArgs false
set_option linter.unusedVariables false
end Go.Proofs



-- tables
-- rec
namespace Go.Proofs
open Go Go.Vm Go.Fg Go.Fg.PS
set_option maxRecDepth 100000
set_option maxHeartbeats 4000000
set_option linter.unusedSimpArgs false
set_option linter.unusedVariables false
end Go.Proofs



-- tables
-- rec
namespace Go.Proofs
open Go Go.Vm Go.Fg Go.Fg.PS
set_option maxRecDepth 100000
set_option linter.unusedSimpArgs false
set_option linter.unusedVariables false
variable {m : Int}
theorem rd2_TbC {N i j : Nat} (f : PS (PS (Zm m))) (h : i + j < N) : ((rd2 m (Tb N f)).c i).c j = (f.c i).c j := by
  show Zm.mk m (((Tb N f).getD i []).getD j 0) = _
  rw [Tb_getD f (by omega), L_getD _ (by omega), Zm.mk_val]
theorem numsB_L (hm : Md m) (n : Nat) (a : PS (Zm m)) : numsB m (L n a) = true := numsB_of (fun j hj => by
  rw [L_getD _ (by simpa using hj)]
  have := Zm.val_range hm.pos (a.c j)
  simp [inB]; omega)
theorem plB_TbT (hm : Md m) {N : Nat} (hN : 2 ≤ N ∧ N ≤ 11) (f : PS (PS (Zm m))) : plB m (Tb N f) = true :=
  plB_yes (by simpa [inB, Md] using hm) (by simpa using hN) (fun j hj => by
    have hj2 : j < N := by simpa using hj
    unfold rowOk
    rw [Tb_getD f hj2]
    simp only [L_length, Tb_length, decide_true, Bool.true_and]
    exact numsB_L hm _ _)
end Go.Proofs



-- tables
-- rec
namespace Go.Proofs
open Go Go.Vm Go.Fg Go.Fg.PS
set_option maxRecDepth 100000
set_option maxHeartbeats 4000000
set_option linter.unusedSimpArgs false
set_option linter.unusedVariables false
end Go.Proofs



-- tables
-- rec
namespace Go.Proofs
open Go Go.Vm Go.Fg Go.Fg.PS
set_option maxRecDepth 100000
set_option maxHeartbeats 4000000
set_option linter.unusedSimpArgs false
set_option linter.unusedVariables false
variable {m : Int}
inductive Mul (f : PS (PS (Zm m))) (n : Nat) : Nat → PS (Zm m) → PS (Zm m) → PS (Zm m) → Prop
  | zero (out a : PS (Zm m)) : Mul f n 0 out a out
  | odd (k : Nat) (out a r : PS (Zm m)) (h2 : k % 2 = 1) (h : Mul f n (k / 2) (putS f out a n) (putS f a a n) r) : Mul f n k out a r
  | even (k : Nat) (out a r : PS (Zm m)) (h1 : k ≠ 0) (h2 : k % 2 = 0) (h : Mul f n (k / 2) out (putS f a a n) r) : Mul f n k out a r
end Go.Proofs



-- tables
-- rec
namespace Go.Proofs
open Go Go.Vm Go.Fg Go.Fg.PS
set_option maxRecDepth 100000
set_option maxHeartbeats 4000000
set_option linter.unusedSimpArgs false
set_option linter.unusedVariables false
variable {m : Int}
end Go.Proofs



-- tables
-- rec
namespace Go.Proofs
open Go Go.Vm Go.Fg Go.Fg.PS
set_option maxRecDepth 100000
set_option maxHeartbeats 4000000
set_option linter.unusedSimpArgs false
set_option linter.unusedVariables false
end Go.Proofs



-- tables
-- rec
namespace Go.Proofs
open Go Go.Vm Go.Fg Go.Fg.PS
set_option maxRecDepth 100000
set_option maxHeartbeats 4000000
set_option linter.unusedSimpArgs false
set_option linter.unusedVariables false
variable {m : Int}
end Go.Proofs


