/- Logarithms of genera, values on hypersurfaces. -/
import Derived.Test.YthpbaehnkmmkgaaGreatK8
namespace Go.Proofs
open Go Go.Vm Go.Fg Go.Fg.PS
set_option maxRecDepth 100000
set_option maxHeartbeats 4000000
set_option linter.unusedSimpArgs false
set_option linter.unusedVariables false
variable {m : Int}

def logG (a : PS (Zm m)) : PS (Zm m) := rev (invN m ((expG a).c 1).val) (expG a)
theorem c_l19Logarithm (o : Bool) (m : Int) (l : List Int) (hc : charB m l = true) : PureCall Tryz.prog 226 [.agg [dint m, .list o 1 (ints l)]] (LD true (l.length + 1) (logG (rd m l))) := by
  have hs := charB_ser hc
  have hlen := serB_len hs
  have key := c_l19Exponential (serB_md hs) o l.length (by omega) (rd m l)
  rw [serD_of hs] at key
  refine pure_of_vc Tryz.tabOk mixOrd Tryz.func226 rfl rfl ?_
  conv => whnf
  repeat' first | ((first | refine z0 ?_ | (apply zI; refine zP (key) ?_) | (apply zI; refine zP (c_l02Degree _ _ _ (by omega)) ?_) | (apply zI; refine zP (c_l02ReverseU (serB_md hs) _ (l.length + 1) (l.length + 1) vAr vAr vAr vAr (expG (rd m l))) ?_) | (refine And.intro (fun h => ?_) (fun h => ?_) <;> (try simp only [cnt1, ints_length] at h)) | refine zS ?_ | refine zV ?_ | (apply zI; refine zP vObx ?_) | refine Alt.fst ?_ | refine Or.inl ?_) <;> conv => whnf) | fail
  rfl
theorem c_monomial (hm : Md m) {d k : Int} (n j : Nat) (c : Zm m) (hd : d + 1 = n) (hk : k = j) (hj : j < n) (hn : n ≤ 100) : PureCall Tryz.prog 331 [dint m, dint d, dint k, dint c.val] (SerD m true n (mono j c)) := by
  subst hk
  refine pure_of_vc Tryz.tabOk mixOrd Tryz.func331 rfl rfl ?_
  conv => whnf
  repeat' first | ((first | refine z0 ?_ | (apply zI; refine zP (c_zero n hd hn) ?_) | (refine And.intro (fun h => ?_) (fun h => ?_) <;> (try simp only [cnt1, ints_length] at h)) | refine zS ?_ | refine zV ?_ | (apply zI; refine zP vObx ?_) | refine Alt.fst ?_ | refine Or.inl ?_) <;> conv => whnf) | fail
  exact serD_congr (L_set_eq c rfl (fun i hi => by rw [upd_c, mono_c]; split <;> rfl))
theorem c_stretched (hm : Md m) (o : Bool) (n : Nat) (hn : 2 ≤ n ∧ n ≤ 100) (a : PS (Zm m)) (c : Int) : PureCall Tryz.prog 185 [SerD m o n a, dint c] (SerD m true n (strS a (Zm.mk m c))) := by
  have hm1 := hm.1
  have hm2 := hm.2
  refine pure_of_vc Tryz.tabOk mixOrd Tryz.func185 rfl rfl ?_
  conv => whnf
  repeat' first | ((first | refine z0 ?_ | (apply zI; refine zP (c_degreeS _ _ vAr _) ?_) | (apply zI; refine zP (c_mod _ _ hm.pos (by omega)) ?_) | (apply zI; refine zP (c_monomial hm n 1 (Zm.mk m c) vAr vAr vAr vAr) ?_) | (apply zI; refine zP (c_compose hm _ _ n vAr _ _) ?_) | (refine And.intro (fun h => ?_) (fun h => ?_) <;> (try simp only [cnt1, ints_length] at h)) | refine zS ?_ | refine zV ?_ | (apply zI; refine zP vObx ?_) | refine Alt.fst ?_ | refine Or.inl ?_) <;> conv => whnf) | fail
  exact serD_congr (L_congr (compN_mono a _ n))
theorem c_power' (hm : Md m) (o : Bool) (n : Nat) (hn : 1 ≤ n ∧ n ≤ 100) (a : PS (Zm m)) (k : Nat) (hk : k ≤ 4611686018427387904) {K : Int} (hK : K = k) : PureCall Tryz.prog 183 [SerD m o n a, dint K] (SerD m true n (pw a k)) := by
  subst hK; exact c_power hm o n hn a k hk
end Go.Proofs

