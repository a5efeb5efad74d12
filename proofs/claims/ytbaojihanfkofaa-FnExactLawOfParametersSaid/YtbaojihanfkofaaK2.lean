/- Contracts of the functions on series. -/
import Derived.Test.YtbaojihanfkofaaK1
namespace Go.Proofs
open Go Go.Vm Go.Fg Go.Fg.PS
set_option maxRecDepth 100000
set_option maxHeartbeats 4000000
set_option linter.unusedSimpArgs false
set_option linter.unusedVariables false

variable {m : Int}
abbrev SerD (m : Int) (o : Bool) (n : Nat) (a : PS (Zm m)) : D := .agg [dint m, .list o 1 (ints (L n a))]
theorem serD_congr {l : List Int} {o : Bool} {n : Nat} {a : PS (Zm m)} (h : l = L n a) : D.agg [dint m, .list o 1 (ints l)] = SerD m o n a := by rw [h]
theorem sd (h : Md m) {e : Int} {z : Zm m} (h0 : 0 ≤ e) (h : Zm.mk m e = z) : D.lit (.int .i64 (e.tmod m)) = dint z.val := by rw [Zm.tmod_val h0 h]

theorem c_mul (hm : Md m) (x y : Zm m) : PureCall Try.prog 119 [dint m, dint x.val, dint y.val] (dint (x * y).val) := by
  have h1 := hm.1
  have h2 := hm.2
  have h3 := hm.mul x y
  refine pure_of_vc Try.tabOk mixOrd Try.func119 rfl rfl ?_
  conv => whnf
  repeat' first | ((first | refine And.intro (Or.inl rfl) ?_ | (refine And.intro (fun h => ?_) (fun h => ?_) <;> (try simp only [cnt1, ints_length] at h)) | refine And.intro (show slotsOk _ = true by decide +kernel) ?_ | refine And.intro vOb ?_ | (apply Exists.intro; refine And.intro vObx ?_) | refine Or.inl ?_) <;> conv => whnf) | fail
  · exact sd hm (by omega) (by rw [Zm.mk_mul, Zm.mk_val, Zm.mk_val])
  · omega
theorem c_degreeS (o : Bool) (n : Nat) (hn : n ≤ 100) (a : PS (Zm m)) : PureCall Try.prog 100 [SerD m o n a] (dint (n - 1)) := by
  have := c_degree o m (L n a) (by simp; omega)
  simpa using this
theorem c_zero {d : Int} (n : Nat) (hd : d + 1 = n) (hn : n ≤ 100) : PureCall Try.prog 101 [dint m, dint d] (SerD m true n 0) := by
  refine pure_of_vc Try.tabOk mixOrd Try.func101 rfl rfl ?_
  conv => whnf
  repeat' first | ((first | refine And.intro (Or.inl rfl) ?_ | (refine And.intro (fun h => ?_) (fun h => ?_) <;> (try simp only [cnt1, ints_length] at h)) | refine And.intro (show slotsOk _ = true by decide +kernel) ?_ | refine And.intro vOb ?_ | (apply Exists.intro; refine And.intro vObx ?_) | refine Or.inl ?_) <;> conv => whnf) | fail
  exact serD_congr (by rw [L_zero, show (d + 1).toNat = n by omega])
theorem ints_congr {l l' : List Int} (h : l = l') : ints l = ints l' := by rw [h]
end Go.Proofs

