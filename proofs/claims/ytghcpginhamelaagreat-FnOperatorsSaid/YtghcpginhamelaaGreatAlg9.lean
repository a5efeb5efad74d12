import Derived.Test.YtghcpginhamelaaGreatAlg7
set_option linter.unusedVariables false
set_option linter.unusedSimpArgs false
set_option linter.unusedSectionVars false
namespace Go.Fg
open CR PS
variable {m : Int}
def M5 (q : Nat) (f : PS (PS (Zm m))) : List (List Int) := (List.range q).map fun i => L q (f.c i)
@[simp] theorem Aye (q : Nat) (f : PS (PS (Zm m))) : (M5 q f).length = q := by simp [M5]
def bP (q k : Nat) (f : PS (PS (Zm m))) : List (List Int) := (List.range k).map fun i => L q (f.c i)
theorem rJ {q k : Nat} {f : PS (PS (Zm m))} {l : List Int} (h : l = L q (f.c k)) : bP q k f ++ [l] = bP q (k + 1) f := by
 subst h; simp [bP, List.range_succ]
@[simp] theorem nP (q k : Nat) (f : PS (PS (Zm m))) : (bP q k f).length = k := by simp [bP]
end Go.Fg
