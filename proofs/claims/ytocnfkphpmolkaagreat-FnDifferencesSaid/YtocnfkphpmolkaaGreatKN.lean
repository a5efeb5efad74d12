/- Numbers: greatest common divisors, units, powers. -/
import Derived.Test.YtocnfkphpmolkaaGreatK2
import Derived.Test.YtocnfkphpmolkaaGreatK3
import Derived.Test.YtocnfkphpmolkaaGreatK7
import Derived.Test.YtocnfkphpmolkaaGreatAlg7
namespace Go.Proofs
open Go Go.Vm Go.Fg Go.Fg.PS
set_option maxRecDepth 100000
set_option maxHeartbeats 4000000
set_option linter.unusedSimpArgs false
set_option linter.unusedVariables false
variable {m : Int}
theorem c_gcd (a b : Nat) (ha : a ≤ 4611686018427387904) (hb : b ≤ 4611686018427387904) : PureCall Tryz.prog 247 [dint a, dint b] (dint (Nat.gcd a b : Nat)) := by
  refine pure_of_vc Tryz.tabOk mixOrd Tryz.func247 rfl rfl ?_
  conv => whnf
  refine loop_at Tryz.tabOk mixOrd (α := Nat × Nat) (fun x => [(0, dint x.1), (1, dint x.2)]) (fun x => []) (fun x => Nat.gcd x.1 x.2 = Nat.gcd a b ∧ x.1 ≤ 4611686018427387904 ∧ x.2 ≤ 4611686018427387904) (fun x => x.2) ((a, b)) ?_ ?_ ?_
  · exact ⟨rfl, ha, hb⟩
  · conv => whnf
    first | refine WeakS.auto ?_ | refine Weak.auto ?_
    conv => whnf
    repeat' ((first | refine And.intro rfl ?_ | refine And.intro (eqV_int vAr) ?_ | refine And.intro vOb ?_ | refine And.intro vRepl ?_ | refine And.intro vReplL ?_ | refine And.intro ?_ ?_ | exact trivial) <;> try (conv => whnf))
  intro ⟨x, y⟩ ⟨h1, h2, h3⟩
  simp only at h1 h2 h3
  conv => whnf
  repeat' first | ((first | refine And.intro (Or.inl rfl) ?_ | (refine And.intro (fun h => ?_) (fun h => ?_) <;> (try simp only [cnt1, ints_length] at h)) | refine And.intro (show slotsOk _ = true by decide +kernel) ?_ | refine And.intro vOb ?_ | (apply Exists.intro; refine And.intro vObx ?_) | refine Alt.fst ?_ | refine Or.inl ?_) <;> conv => whnf) | fail
  · have hy : y ≠ 0 := by omega
    have hlt := Nat.mod_lt x (show y > 0 by omega)
    refine Exists.intro (y, x % y) (And.intro ⟨by rw [← h1, Nat.gcd_comm y, ← Nat.gcd_rec, Nat.gcd_comm], h3, by simp only; omega⟩ (And.intro hlt ?_))
    first | refine WeakS.auto ?_ | refine Weak.auto ?_
    conv => whnf
    repeat' ((first | refine And.intro rfl ?_ | refine And.intro (eqV_int vAr) ?_ | refine And.intro vOb ?_ | refine And.intro vRepl ?_ | refine And.intro vReplL ?_ | refine And.intro ?_ ?_ | exact trivial) <;> try (conv => whnf))
  · refine congrArg dint ?_
    rw [← h1, show y = 0 by omega, Nat.gcd_zero_right]
    show max (x : Int) (0 - (x : Int)) = x
    omega
end Go.Proofs

