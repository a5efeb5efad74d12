/- Contracts of the functions on series. -/
import Derived.Test.YtocnfkphpmolkaaGreatK1
namespace Go.Proofs
open Go Go.Vm Go.Fg Go.Fg.PS
set_option maxRecDepth 100000
set_option maxHeartbeats 4000000
set_option linter.unusedSimpArgs false
set_option linter.unusedVariables false

variable {m : Int}
theorem sd (h : Md m) {e : Int} {z : Zm m} (h0 : 0 ≤ e) (h : Zm.mk m e = z) : D.lit (.int .i64 (e.tmod m)) = dint z.val := by rw [Zm.tmod_val h0 h]

theorem c_mul (hm : Md m) (x y : Zm m) : PureCall Tryz.prog 175 [dint m, dint x.val, dint y.val] (dint (x * y).val) := by
  have h1 := hm.1
  have h2 := hm.2
  have h3 := hm.mul x y
  refine pure_of_vc Tryz.tabOk mixOrd Tryz.func175 rfl rfl ?_
  conv => whnf
  repeat' first | ((first | refine And.intro (Or.inl rfl) ?_ | (refine And.intro (fun h => ?_) (fun h => ?_) <;> (try simp only [cnt1, ints_length] at h)) | refine And.intro (show slotsOk _ = true by decide +kernel) ?_ | refine And.intro vOb ?_ | (apply Exists.intro; refine And.intro vObx ?_) | refine Alt.fst ?_ | refine Or.inl ?_) <;> conv => whnf) | fail
  · exact sd hm (by omega) (by rw [Zm.mk_mul, Zm.mk_val, Zm.mk_val])
  · omega
theorem ints_congr {l l' : List Int} (h : l = l') : ints l = ints l' := by rw [h]
end Go.Proofs

