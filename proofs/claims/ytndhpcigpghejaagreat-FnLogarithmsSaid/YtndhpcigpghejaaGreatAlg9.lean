import Derived.Test.YtndhpcigpghejaaGreatAlg7
set_option linter.unusedVariables false
set_option linter.unusedSimpArgs false
set_option linter.unusedSectionVars false
namespace Go.Fg
open CR PS
variable {m : Int}
def sqT (q : Nat) (f : PS (PS (Zm m))) : List (List Int) := (List.range q).map fun i => L q (f.c i)
@[simp] theorem sqT_length (q : Nat) (f : PS (PS (Zm m))) : (sqT q f).length = q := by simp [sqT]
def sqP (q k : Nat) (f : PS (PS (Zm m))) : List (List Int) := (List.range k).map fun i => L q (f.c i)
@[simp] theorem sqP_length (q k : Nat) (f : PS (PS (Zm m))) : (sqP q k f).length = k := by simp [sqP]
end Go.Fg
