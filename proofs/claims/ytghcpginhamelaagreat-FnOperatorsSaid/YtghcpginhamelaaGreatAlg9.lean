import Derived.Test.YtghcpginhamelaaGreatAlg7
set_option linter.unusedVariables false
set_option linter.unusedSimpArgs false
set_option linter.unusedSectionVars false
namespace Go.Fg
open CR PS
variable {m : Int}
def P6 (q : Nat) (f : PS (PS (Zm m))) : List (List Int) := (List.range q).map fun i => L q (f.c i)
@[simp] theorem Ax5 (q : Nat) (f : PS (PS (Zm m))) : (P6 q f).length = q := by simp [P6]
def bN (q k : Nat) (f : PS (PS (Zm m))) : List (List Int) := (List.range k).map fun i => L q (f.c i)
theorem qW {q k : Nat} {f : PS (PS (Zm m))} {l : List Int} (h : l = L q (f.c k)) : bN q k f ++ [l] = bN q (k + 1) f := by
 subst h; simp [bN, List.range_succ]
@[simp] theorem nM (q k : Nat) (f : PS (PS (Zm m))) : (bN q k f).length = k := by simp [bN]
end Go.Fg
