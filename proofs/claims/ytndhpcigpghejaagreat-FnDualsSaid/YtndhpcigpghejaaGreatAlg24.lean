import Derived.Test.YtndhpcigpghejaaGreatAlg23
namespace Go.Fg
set_option linter.unusedVariables false
set_option linter.unusedSectionVars false
namespace PS
variable {R : Type} [CR R]
theorem ag_all {a b : PS R} (h : ∀ N, Ag N a b) : a = b := PS.ext (fun n => h (n + 1) n (by omega))
section
variable {m : Int}
end
end PS
end Go.Fg
namespace Go.Fg
set_option linter.unusedVariables false
set_option linter.unusedSectionVars false
section
variable {R : Type} [CR R]
theorem nc_sum_mul (a b : Nat) (x : R) : nc R (a + b) * x = nc R a * x + nc R b * x := by rw [nc_add, add_mul]
theorem binom (u v : R) : ∀ s, pw (u + v) s = sm (s + 1) fun a => nc R (bin s a) * (pw u a * pw v (s - a))
 | 0 => by
   rw [sm_succ, sm_zero', CR.zero_add, bin_zero, nc_one]
   show (1 : R) = 1 * (1 * 1)
   rw [CR.one_mul, CR.one_mul]
 | s + 1 => by
   rw [pw_succ, binom u v s, sm_mul_right]
   have e : ∀ a, nc R (bin s a) * (pw u a * pw v (s - a)) * (u + v) = nc R (bin s a) * (pw u (a + 1) * pw v (s - a)) + nc R (bin s a) * (pw u a * (pw v (s - a) * v)) := fun a => by
     rw [CR.mul_add, pw_succ u a]
     congr 1 <;> ac_rfl
   rw [sm_congr (fun a _ => e a), sm_add]
   have e1 : sm (s + 1) (fun a => nc R (bin s a) * (pw u (a + 1) * pw v (s - a))) = sm (s + 1 + 1) (fun a => match a with | 0 => 0 | a + 1 => nc R (bin s a) * (pw u (a + 1) * pw v (s - a))) := by
     rw [sm_succ_left (s + 1), CR.zero_add]
   have e2 : sm (s + 1) (fun a => nc R (bin s a) * (pw u a * (pw v (s - a) * v))) = sm (s + 1 + 1) (fun a => nc R (bin s a) * (pw u a * pw v (s + 1 - a))) := by
     rw [sm_succ (s + 1), bin_gt (by omega)]
     show _ = _ + (0 : R) * _
     rw [zero_mul, add_zero]
     exact sm_congr (fun a ha => by rw [show s + 1 - a = s - a + 1 by omega, pw_succ v])
   rw [e1, e2, ← sm_add]
   refine sm_congr (fun a ha => ?_)
   cases a with
   | zero => rw [CR.zero_add, bin_zero, bin_zero]
   | succ a => rw [bin_succ, nc_sum_mul, show s + 1 - (a + 1) = s - a by omega]
end
namespace PS
variable {R : Type} [CR R]
theorem axX_pw (a : PS R) : ∀ k, Go.Fg.pw (axX a) k = axX (Go.Fg.pw a k)
 | 0 => axX_one.symm
 | k + 1 => by rw [pw_succ, pw_succ, axX_pw a k, axX_mul]
section
variable {m : Int}
end
end PS
end Go.Fg
namespace Go.Fg
set_option linter.unusedVariables false
set_option linter.unusedSectionVars false
namespace PS
variable {m : Int}
end PS
end Go.Fg
namespace Go.Fg
set_option linter.unusedVariables false
set_option linter.unusedSimpArgs false
set_option linter.unusedSectionVars false
namespace PS
section
variable {R : Type} [CR R]
end
section
variable {m : Int}
end
end PS
end Go.Fg
namespace Go.Fg
set_option linter.unusedVariables false
set_option linter.unusedSimpArgs false
set_option linter.unusedSectionVars false
namespace PS
section
variable {R : Type} [CR R]
variable {a b : PS R}
end
section
variable {m : Int} {a b : PS (Zm m)}
end
end PS
end Go.Fg
