/- Contracts of the reference's functions on lists of coefficients. -/
import Derived.Test.YtbaojihanfkofaaGreatK1
namespace Go.Proofs
open Go Go.Vm Go.Fg Go.Fg.PS
set_option maxRecDepth 100000
set_option maxHeartbeats 4000000
set_option linter.unusedSimpArgs false
set_option linter.unusedVariables false

variable {m : Int}
abbrev LD (o : Bool) (n : Nat) (a : PS (Zm m)) : D := .list o 1 (ints (L n a))
theorem ints_congr' {l l' : List Int} (h : l = l') : ints l = ints l' := by rw [h]

end Go.Proofs

