/- Square tables of series in two variables. -/
import Derived.Test.YtocnfkphpmolkaaGreatAlg7

set_option linter.unusedVariables false
set_option linter.unusedSimpArgs false
set_option linter.unusedSectionVars false
namespace Go.Fg
open CR PS
variable {m : Int}
def AgS (q : Nat) (f g : PS (PS (Zm m))) : Prop := ∀ i j, i < q → j < q → (f.c i).c j = (g.c i).c j
theorem AgS.rfl {q : Nat} {f : PS (PS (Zm m))} : AgS q f f := fun _ _ _ _ => Eq.refl _
theorem AgS.symm {q : Nat} {f g : PS (PS (Zm m))} (h : AgS q f g) : AgS q g f := fun i j h1 h2 => (h i j h1 h2).symm
theorem AgS.trans {q : Nat} {f g k : PS (PS (Zm m))} (h : AgS q f g) (h2 : AgS q g k) : AgS q f k := fun i j a b => (h i j a b).trans (h2 i j a b)
theorem AgS.of_eq {q : Nat} {f g : PS (PS (Zm m))} (h : f = g) : AgS q f g := h ▸ AgS.rfl
theorem AgS.mul {q : Nat} {f g h k : PS (PS (Zm m))} (h1 : AgS q f g) (h2 : AgS q h k) : AgS q (f * h) (g * k) := fun i j hi hj => by
  rw [mul_c, mul_c, sm_c, sm_c]
  refine sm_congr (fun a ha => ?_)
  rw [mul_c, mul_c]
  exact sm_congr (fun b hb => by rw [h1 a b (by omega) (by omega), h2 (i - a) (j - b) (by omega) (by omega)])
def sqT (q : Nat) (f : PS (PS (Zm m))) : List (List Int) := (List.range q).map fun i => L q (f.c i)
@[simp] theorem sqT_length (q : Nat) (f : PS (PS (Zm m))) : (sqT q f).length = q := by simp [sqT]
def sqP (q k : Nat) (f : PS (PS (Zm m))) : List (List Int) := (List.range k).map fun i => L q (f.c i)
@[simp] theorem sqP_length (q k : Nat) (f : PS (PS (Zm m))) : (sqP q k f).length = k := by simp [sqP]
end Go.Fg
