import Derived.Test.YtghcpginhamelaaGreatAlg23
namespace Go.Fg
set_option linter.unusedVariables false
set_option linter.unusedSectionVars false
namespace PS
variable {R : Type} [CR R]
theorem At7 {a b : PS R} (h : ∀ N, Ag N a b) : a = b := PS.ext (fun n => h (n + 1) n (by omega))
section
variable {m : Int}
end
end PS
end Go.Fg
namespace Go.Fg
set_option linter.unusedVariables false
set_option linter.unusedSectionVars false
section
variable {R : Type} [CR R]
theorem Ao5 (a b : Nat) (x : R) : nc R (a + b) * x = nc R a * x + nc R b * x := by rw [Amj, add_mul]
theorem H3 (u v : R) : ∀ s, pw (u + v) s = sm (s + 1) fun a => nc R (cX s a) * (pw u a * pw v (s - a))
 | 0 => by
   rw [cB, jJ, CR.zero_add, xT, Acs]
   show (1 : R) = 1 * (1 * 1)
   rw [CR.one_mul, CR.one_mul]
 | s + 1 => by
   rw [cV, H3 u v s, jK]
   have e : ∀ a, nc R (cX s a) * (pw u a * pw v (s - a)) * (u + v) = nc R (cX s a) * (pw u (a + 1) * pw v (s - a)) + nc R (cX s a) * (pw u a * (pw v (s - a) * v)) := fun a => by
     rw [CR.mul_add, cV u a]
     congr 1 <;> ac_rfl
   rw [bS (fun a _ => e a), kB]
   have e1 : sm (s + 1) (fun a => nc R (cX s a) * (pw u (a + 1) * pw v (s - a))) = sm (s + 1 + 1) (fun a => match a with | 0 => 0 | a + 1 => nc R (cX s a) * (pw u (a + 1) * pw v (s - a))) := by
     rw [oW (s + 1), CR.zero_add]
   have e2 : sm (s + 1) (fun a => nc R (cX s a) * (pw u a * (pw v (s - a) * v))) = sm (s + 1 + 1) (fun a => nc R (cX s a) * (pw u a * pw v (s + 1 - a))) := by
     rw [cB (s + 1), yJ (by omega)]
     show _ = _ + (0 : R) * _
     rw [zero_mul, add_zero]
     exact bS (fun a ha => by rw [show s + 1 - a = s - a + 1 by omega, cV v])
   rw [e1, e2, ← kB]
   refine bS (fun a ha => ?_)
   cases a with
   | zero => rw [CR.zero_add, xT, xT]
   | succ a => rw [E6, Ao5, show s + 1 - (a + 1) = s - a by omega]
end
namespace PS
variable {R : Type} [CR R]
theorem Ad5 (a : PS R) : ∀ k, Go.Fg.pw (dA a) k = dA (Go.Fg.pw a k)
 | 0 => xW.symm
 | k + 1 => by rw [cV, cV, Ad5 a k, vL]
section
variable {m : Int}
end
end PS
end Go.Fg
namespace Go.Fg
set_option linter.unusedVariables false
set_option linter.unusedSectionVars false
namespace PS
variable {m : Int}
end PS
end Go.Fg
namespace Go.Fg
set_option linter.unusedVariables false
set_option linter.unusedSimpArgs false
set_option linter.unusedSectionVars false
namespace PS
section
variable {R : Type} [CR R]
end
section
variable {m : Int}
end
end PS
end Go.Fg
namespace Go.Fg
set_option linter.unusedVariables false
set_option linter.unusedSimpArgs false
set_option linter.unusedSectionVars false
namespace PS
section
variable {R : Type} [CR R]
variable {a b : PS R}
end
section
variable {m : Int} {a b : PS (Zm m)}
end
end PS
end Go.Fg
