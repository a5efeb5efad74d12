/- Series and planes: derivatives, compositions, coefficients, for valid arguments; genera by their logarithms. -/
-- tables
-- rec
import Derived.Test.YthpbaehnkmmkgaaGreatK148
import Derived.Test.YthpbaehnkmmkgaaGreatK160
import Derived.Test.YthpbaehnkmmkgaaGreatK11
import Derived.Test.YthpbaehnkmmkgaaGreatK5
import Derived.Test.YthpbaehnkmmkgaaGreatK9
import Derived.Test.YthpbaehnkmmkgaaGreatK26
import Derived.Test.YthpbaehnkmmkgaaGreatAlg24
namespace Go.Proofs
open Go Go.Vm Go.Fg Go.Fg.PS
set_option maxRecDepth 100000
set_option maxHeartbeats 4000000
set_option linter.unusedSimpArgs false
set_option linter.unusedVariables false
variable {m : Int}
theorem c_series5 (o o' : Bool) (m m' : Int) (l l' : List Int) (hl : l.length ≤ 9223372036854775807) (hl' : l'.length ≤ 9223372036854775807) : PureCall Tryz.prog 25 [.agg [dint m, .list o 1 (ints l)], .agg [dint m', .list o' 1 (ints l')]] (dbool (decide (m = m') && decide (l = l'))) := by
  refine pure_of_vcR Tryz.tabOk mixOrd Tryz.func25 rfl rfl ?_
  conv => whnf
  repeat' first | ((first | refine z0 ?_ | (apply zI; refine zP (c_likeInts _ _ _ _ hl hl') ?_) | (refine And.intro (fun h => ?_) (fun h => ?_) <;> (try simp only [cnt1, ints_length] at h)) | refine zS ?_ | refine zV ?_ | (apply zI; refine zP vObt ?_) | (apply zI; refine zP vObx ?_) | refine zA ?_ | refine Alt.fst ?_ | refine Or.inl ?_) <;> conv => whnf) | fail
  all_goals (refine dbool_congr ?_; first | rfl | (simp_all []; done) | (simp_all []; omega) | (simp_all []; intros; omega))
theorem c_series5Nil : PureCall Tryz.prog 25 [zserD, zserD] (dbool true) := by
  refine pure_of_vcR Tryz.tabOk mixOrd Tryz.func25 rfl rfl ?_
  conv => whnf
  repeat' first | ((first | refine z0 ?_ | (apply zI; refine zP (c_likeNil) ?_) | (refine And.intro (fun h => ?_) (fun h => ?_) <;> (try simp only [cnt1, ints_length, rows_length, Tb_length, L_length, byts_length] at h) <;> first | (exfalso; first | omega | exact h trivial | (cases h; done)) | skip) | refine zS ?_ | refine zV ?_ | (apply zI; refine zP vObt ?_) | (apply zI; refine zP vObx ?_) | refine zA ?_ | refine Alt.fst ?_ | refine Or.inl ?_) <;> conv => whnf) | fail
theorem c_implCoefficientOf (hm : Md m) (o p : Bool) (n : Nat) (hn : 2 ≤ n ∧ n ≤ 11) (f : PS (PS (Zm m))) (i j : Nat) (hij : i + j < n) {I J : Int} (hI : I = i) (hJ : J = j) : PureCall Tryz.prog 40 [PlD m o p n f, dint I, dint J] (.tup [dint ((f.c i).c j).val, dint 0]) := by
  subst hI
  subst hJ
  have h1 := fun o p => c_IsPlane o p m (Tb n f) (by simp; omega) (lensOk_Tb (by omega) f)
  rw [plB_TbT hm hn f] at h1
  have h2 := c_impl_in i 0 ((n : Int) - 1)
  rw [show inB (i : Int) 0 ((n : Int) - 1) = true by simp [inB]; omega] at h2
  have h3 := c_impl_in j 0 ((n : Int) - 1 - i)
  rw [show inB (j : Int) 0 ((n : Int) - 1 - i) = true by simp [inB]; omega] at h3
  refine pure_of_vcR Tryz.tabOk mixOrd Tryz.func40 rfl rfl ?_
  conv => whnf
  repeat' first | ((first | refine z0 ?_ | (apply zI; refine zP (h1 _ _) ?_) | (apply zI; refine zP (c_degreeP _ _ n vAr _) ?_) | (apply zI; refine zP (h2) ?_) | (apply zI; refine zP (h3) ?_) | (refine And.intro (fun h => ?_) (fun h => ?_) <;> (try simp only [cnt1, ints_length, rows_length, Tb_length, L_length, byts_length] at h) <;> first | (exfalso; first | omega | exact h trivial | (cases h; done)) | skip) | refine zS ?_ | refine zV ?_ | (apply zI; refine zP vObt ?_) | (apply zI; refine zP vObx ?_) | refine zA ?_ | refine Alt.fst ?_ | refine Or.inl ?_) <;> conv => whnf) | fail
theorem gen_expG (hm : Md m) {a : PS (Zm m)} (h0 : a.c 0 = 1) : expG a = X * inv 1 a := by
  unfold expG
  rw [h0, invN_v1 hm.1, C0X]
theorem gen_logG (hm : Md m) {a : PS (Zm m)} (h0 : a.c 0 = 1) : logG a = rev 1 (X * inv 1 a) := by
  unfold logG
  rw [gen_expG hm h0, X_mul_succ, inv_c0, invN_v1 hm.1]
theorem gen_proj (hm : Md m) {a : PS (Zm m)} (h0 : a.c 0 = 1) : projS a = dS (logG a) := PS.ext (fun n => by
  rw [gen_logG hm h0]; exact proj_dS hm.1 h0 n)
theorem ag_proj {N : Nat} {a b : PS (Zm m)} (h : Ag N a b) : Ag N (projS a) (projS b) := fun i hi => by
  show (pw a (i + 1)).c i = (pw b (i + 1)).c i
  exact Ag.pw h (i + 1) i hi
end Go.Proofs

