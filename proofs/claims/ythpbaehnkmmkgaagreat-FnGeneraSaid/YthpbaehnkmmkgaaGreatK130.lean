/- Laws: the reference's check. -/
import Derived.Test.YthpbaehnkmmkgaaGreatK28

-- tables
-- rec
namespace Go.Proofs
open Go Go.Vm Go.Fg Go.Fg.PS
set_option maxRecDepth 100000
set_option maxHeartbeats 4000000
set_option linter.unusedSimpArgs false
set_option linter.unusedVariables false
variable {m : Int}
def tbs (n : Nat) (g : Nat → PS (PS (Zm m))) (k : Nat) : List D := (List.range k).map fun c => .list true 1 (rows true (Tb n (g c)))
@[simp] theorem tbs_length (n : Nat) (g : Nat → PS (PS (Zm m))) (k : Nat) : (tbs n g k).length = k := by simp [tbs]
end Go.Proofs



-- tables
-- rec
namespace Go.Proofs
open Go Go.Vm Go.Fg Go.Fg.PS
set_option maxRecDepth 100000
set_option maxHeartbeats 4000000
set_option linter.unusedSimpArgs false
set_option linter.unusedVariables false
noncomputable def lawB (m : Int) (t : List (List Int)) : Bool := plB m t && trL (LawP (rd2 m t) t.length)
end Go.Proofs



-- tables
-- rec
namespace Go.Proofs
open Go Go.Vm Go.Fg Go.Fg.PS
set_option maxRecDepth 100000
set_option maxHeartbeats 4000000
set_option linter.unusedSimpArgs false
set_option linter.unusedVariables false
variable {m : Int}
def eqK (f g : PS (PS (Zm m))) (k : Nat) : Prop := ∀ i, i ≤ k → (f.c i).c (k - i) = (g.c i).c (k - i)
open Classical in
noncomputable def agr (f g : PS (PS (Zm m))) : Nat → Nat
  | 0 => 0
  | k + 1 => if agr f g k = k ∧ eqK f g k then k + 1 else agr f g k
def fdL (f g : PS (PS (Zm m))) (k i : Nat) : List Int := (List.range i).map fun i => ((g.c i).c (k - i) + -(f.c i).c (k - i)).val
@[simp] theorem fdL_length (f g : PS (PS (Zm m))) (k i : Nat) : (fdL f g k i).length = i := by simp [fdL]
end Go.Proofs


