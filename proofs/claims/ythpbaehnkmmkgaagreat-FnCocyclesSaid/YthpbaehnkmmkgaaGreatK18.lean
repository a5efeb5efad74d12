/- The new desk. -/
-- tables
import Derived.Test.YthpbaehnkmmkgaaGreatK13
import Derived.Test.YthpbaehnkmmkgaaGreatKT
namespace Go.Proofs
open Go Go.Vm Go.Fg Go.Fg.PS
set_option maxRecDepth 100000
set_option maxHeartbeats 4000000
set_option linter.unusedSimpArgs false
set_option linter.unusedVariables false
variable {m : Int}
theorem c_scaledP1 (hm : Md m) (o p : Bool) (n : Nat) (hn : 1 ≤ n ∧ n ≤ 100) (f : PS (PS (Zm m))) (c : Int) (i j : Nat) (h : i + j < n) : PureCall Tryz.prog 368 [dint i, dint j, .cptr [dint m, .list o 1 (rows p (Tb n f))] 0, .cptr [dint c] 0] (dint (Zm.mk m c * (f.c i).c j).val) := by
  have hm1 := hm.1
  have hm2 := hm.2
  refine pure_of_vc Tryz.tabOk mixOrd Tryz.func368 rfl rfl ?_
  conv => whnf
  repeat' first | ((first | refine z0 ?_ | (apply zI; refine zP (c_mod _ _ hm.pos (by omega)) ?_) | (apply zI; refine zP (c_mul hm (Zm.mk m c) _) ?_) | (refine And.intro (fun h => ?_) (fun h => ?_) <;> (try simp only [cnt1, ints_length] at h)) | refine zS ?_ | refine zV ?_ | (apply zI; refine zP vObt ?_) | (apply zI; refine zP vObx ?_) | refine zA ?_ | refine Alt.fst ?_ | refine Or.inl ?_) <;> conv => whnf) | fail
  all_goals rfl
theorem c_scaledP (hm : Md m) (o p : Bool) (n : Nat) (hn : 1 ≤ n ∧ n ≤ 100) (f : PS (PS (Zm m))) (c : Int) : PureCall Tryz.prog 228 [PlD m o p n f, dint c] (PlD m true true n (PS.C (PS.C (Zm.mk m c)) * f)) := by
  have hm1 := hm.1
  have hm2 := hm.2
  refine pure_of_vc Tryz.tabOk mixOrd Tryz.func228 rfl rfl ?_
  conv => whnf
  repeat' first | ((first | refine z0 ?_ | (apply zI; refine zP (c_mapped2 hm _ _ _ n hn (fun i j => (Zm.mk m c * (f.c i).c j).val) (fun i j h => c_scaledP1 hm _ _ n hn f c i j h) _ _ f) ?_) | (refine And.intro (fun h => ?_) (fun h => ?_) <;> (try simp only [cnt1, ints_length] at h)) | refine zS ?_ | refine zV ?_ | (apply zI; refine zP vObt ?_) | (apply zI; refine zP vObx ?_) | refine zA ?_ | refine Alt.fst ?_ | refine Or.inl ?_) <;> conv => whnf) | fail
  refine plD_congr (Tb_congr (fun i j hij => ?_))
  rw [pl_c, Zm.mk_val, C_mul, C_mul]
end Go.Proofs

