/- Numbers with a root of unity: rows of k numbers, series and curves over them. -/
import Derived.Test.YthpbaehnkmmkgaaGreatAlg9

set_option linter.unusedVariables false
set_option linter.unusedSimpArgs false
set_option linter.unusedSectionVars false
namespace Go.Fg
open CR PS
variable {m : Int}
def tnR (k : Nat) (ρ a : PS (Zm m)) : PS (Zm m) := ⟨fun j => if j < k then (if j = 0 then 0 else a.c (j - 1)) + a.c (k - 1) * ρ.c j else 0⟩
def tnI (k : Nat) (ρ : PS (Zm m)) : Nat → PS (Zm m) → PS (Zm m)
  | 0, b => b
  | i + 1, b => tnR k ρ (tnI k ρ i b)
def rtP (k : Nat) (ρ a b : PS (Zm m)) (i : Nat) : PS (Zm m) := sm i fun i => PS.C (a.c i) * tnI k ρ i b
def rtM (k : Nat) (ρ a b : PS (Zm m)) : PS (Zm m) := rtP k ρ a b k
def prP (k : Nat) (ρ : PS (Zm m)) (f g : PS (PS (Zm m))) (i j : Nat) : PS (PS (Zm m)) :=
  ⟨fun n => sm i (fun a => if a ≤ n then rtM k ρ (f.c a) (g.c (n - a)) else 0) + (if i ≤ n ∧ n - i < j then rtM k ρ (f.c i) (g.c (n - i)) else 0)⟩
def prM (k : Nat) (ρ : PS (Zm m)) (N : Nat) (f g : PS (PS (Zm m))) : PS (PS (Zm m)) := prP k ρ f g N 0
def pwR (k : Nat) (ρ : PS (Zm m)) (N : Nat) (a : PS (PS (Zm m))) : Nat → PS (PS (Zm m))
  | 0 => 1
  | i + 1 => prM k ρ N (pwR k ρ N a i) a
def puP (k : Nat) (ρ : PS (Zm m)) (N : Nat) (f a b : PS (PS (Zm m))) (i j : Nat) : PS (PS (Zm m)) :=
  sm i (fun i => sm (N - i) fun j => PS.C (PS.C ((f.c i).c j)) * prM k ρ N (pwR k ρ N a i) (pwR k ρ N b j)) + sm j fun j => PS.C (PS.C ((f.c i).c j)) * prM k ρ N (pwR k ρ N a i) (pwR k ρ N b j)
def puS (k : Nat) (ρ : PS (Zm m)) (N : Nat) (f a b : PS (PS (Zm m))) : PS (PS (Zm m)) := puP k ρ N f a b N 0
def spR (k : Nat) (ρ s : PS (Zm m)) : Nat → PS (Zm m)
  | 0 => 1
  | j + 1 => rtM k ρ (spR k ρ s j) s
def cuR (k : Nat) (ρ s a : PS (Zm m)) : PS (PS (Zm m)) := ⟨fun j => PS.C (a.c j) * spR k ρ s j⟩
def frT (k : Nat) (ρ : PS (Zm m)) (N : Nat) (f : PS (PS (Zm m))) (a : PS (Zm m)) : Nat → PS (PS (Zm m))
  | 0 => 0
  | i + 1 => puS k ρ N f (frT k ρ N f a i) (cuR k ρ (tnI k ρ i 1) a)
end Go.Fg
