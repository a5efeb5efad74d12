/- Numbers: greatest common divisors, units, powers. -/
import Derived.Test.YtmnphhjljlbfmaaGreatK2
import Derived.Test.YtmnphhjljlbfmaaGreatK3
import Derived.Test.YtmnphhjljlbfmaaGreatK7
import Derived.Test.YtmnphhjljlbfmaaGreatAlg7
namespace Go.Proofs
open Go Go.Vm Go.Fg Go.Fg.PS
set_option maxRecDepth 100000
set_option maxHeartbeats 4000000
set_option linter.unusedSimpArgs false
set_option linter.unusedVariables false
variable {m : Int}
theorem c_variable (n : Nat) {d : Int} (hd : d + 1 = n) (hn : 2 ≤ n ∧ n ≤ 100) (hm : Md m) : PureCall Tryz.prog 80 [dint m, dint d] (SerD m true n (PS.X : PS (Zm m))) := by
  have hm1 := hm.1
  refine pure_of_vc Tryz.tabOk mixOrd Tryz.func80 rfl rfl ?_
  conv => whnf
  repeat' first | ((first | refine And.intro (Or.inl rfl) ?_ | (apply Exists.intro; refine And.intro (c_zero n hd vAr) ?_) | (refine And.intro (fun h => ?_) (fun h => ?_) <;> (try simp only [cnt1, ints_length] at h)) | refine And.intro (show slotsOk _ = true by decide +kernel) ?_ | refine And.intro vOb ?_ | (apply Exists.intro; refine And.intro vObx ?_) | refine Or.inl ?_) <;> conv => whnf) | fail
  refine serD_congr (L_set_eq (1 : Zm m) (Zm.val_one (by omega)).symm (fun i hi => ?_))
  rw [upd_c, X_c]; split <;> rfl
end Go.Proofs

