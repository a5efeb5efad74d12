/- Series and planes: derivatives, compositions, coefficients, for valid arguments; genera by their logarithms. -/
-- tables
-- rec
import Derived.Test.YthpbaehnkmmkgaaGreatK145
import Derived.Test.YthpbaehnkmmkgaaGreatK160
import Derived.Test.YthpbaehnkmmkgaaGreatK11
import Derived.Test.YthpbaehnkmmkgaaGreatK5
import Derived.Test.YthpbaehnkmmkgaaGreatK9
import Derived.Test.YthpbaehnkmmkgaaGreatK26
import Derived.Test.YthpbaehnkmmkgaaGreatAlg24
namespace Go.Proofs
open Go Go.Vm Go.Fg Go.Fg.PS
set_option maxRecDepth 100000
set_option maxHeartbeats 4000000
set_option linter.unusedSimpArgs false
set_option linter.unusedVariables false
variable {m : Int}
theorem c_series5 (o o' : Bool) (m m' : Int) (l l' : List Int) (hl : l.length ≤ 9223372036854775807) (hl' : l'.length ≤ 9223372036854775807) : PureCall Tryz.prog 25 [.agg [dint m, .list o 1 (ints l)], .agg [dint m', .list o' 1 (ints l')]] (dbool (decide (m = m') && decide (l = l'))) := by
  refine pure_of_vcR Tryz.tabOk mixOrd Tryz.func25 rfl rfl ?_
  conv => whnf
  repeat' first | ((first | refine z0 ?_ | (apply zI; refine zP (c_likeInts _ _ _ _ hl hl') ?_) | (refine And.intro (fun h => ?_) (fun h => ?_) <;> (try simp only [cnt1, ints_length] at h)) | refine zS ?_ | refine zV ?_ | (apply zI; refine zP vObt ?_) | (apply zI; refine zP vObx ?_) | refine zA ?_ | refine Alt.fst ?_ | refine Or.inl ?_) <;> conv => whnf) | fail
  all_goals (refine dbool_congr ?_; first | rfl | (simp_all []; done) | (simp_all []; omega) | (simp_all []; intros; omega))
theorem c_series5Nil : PureCall Tryz.prog 25 [zserD, zserD] (dbool true) := by
  refine pure_of_vcR Tryz.tabOk mixOrd Tryz.func25 rfl rfl ?_
  conv => whnf
  repeat' first | ((first | refine z0 ?_ | (apply zI; refine zP (c_likeNil) ?_) | (refine And.intro (fun h => ?_) (fun h => ?_) <;> (try simp only [cnt1, ints_length, rows_length, Tb_length, L_length, byts_length] at h) <;> first | (exfalso; first | omega | exact h trivial | (cases h; done)) | skip) | refine zS ?_ | refine zV ?_ | (apply zI; refine zP vObt ?_) | (apply zI; refine zP vObx ?_) | refine zA ?_ | refine Alt.fst ?_ | refine Or.inl ?_) <;> conv => whnf) | fail
theorem c_derived (hm : Md m) (o : Bool) (n : Nat) (hn : 1 ≤ n ∧ n ≤ 50) (a : PS (Zm m)) : PureCall Tryz.prog 168 [SerD m o (n + 1) a] (SerD m true n (derS a)) := by
  have hm1 := hm.1
  have hm2 := hm.2
  refine pure_of_vcR Tryz.tabOk mixOrd Tryz.func168 rfl rfl ?_
  conv => whnf
  repeat' first | ((first | refine z0 ?_ | (apply zI; refine zP (c_degreeS _ _ vAr _) ?_) | (apply zI; refine zP (c_zero n vAr vAr) ?_) | (refine And.intro (fun h => ?_) (fun h => ?_) <;> (try simp only [cnt1, ints_length] at h)) | refine zS ?_ | refine zV ?_ | (apply zI; refine zP vObt ?_) | (apply zI; refine zP vObx ?_) | refine zA ?_ | refine Alt.fst ?_ | refine Or.inl ?_) <;> conv => whnf) | fail
  refine loop_atR Tryz.tabOk mixOrd (α := Nat) (fun i => [(14, dint i)]) (fun i => [(4, some ⟨false, 1, ints (L n (mix i (derS a) 0))⟩)]) (fun i => i ≤ n) (fun i => n - i) (0) ?_ ?_ ?_
  · omega
  · conv => whnf
    first | refine WeakS.autoR ?_ | refine Weak.autoR ?_
    conv => whnf
    repeat' ((first | refine z1 ?_ | refine z2 ?_ | refine zV ?_ | refine And.intro vRepl ?_ | refine And.intro vReplL ?_ | refine And.intro ?_ ?_ | exact trivial) <;> try (conv => whnf))
    all_goals rw [mix_zero]
  intro i hi
  conv => whnf
  have hv := Zm.val_range hm.pos (a.c (i + 1))
  have hb : 0 ≤ ((i : Int) + 1) * (a.c (i + 1)).val ∧ ((i : Int) + 1) * (a.c (i + 1)).val ≤ 600000 := by
    refine ⟨Int.mul_nonneg (by omega) hv.1, ?_⟩
    have h1 := Int.mul_le_mul_of_nonneg_left (show (a.c (i + 1)).val ≤ 10000 by omega) (show 0 ≤ (i : Int) + 1 by omega)
    omega
  repeat' first | ((first | refine z0 ?_ | (refine And.intro (fun h => ?_) (fun h => ?_) <;> (try simp only [cnt1, ints_length] at h)) | refine zS ?_ | refine zV ?_ | (apply zI; refine zP vObt ?_) | (apply zI; refine zP vObx ?_) | refine zA ?_ | refine And.intro ((inR64 (by omega) (by omega))) ?_ | refine Alt.fst ?_ | refine Or.inl ?_) <;> conv => whnf) | fail
  · refine Exists.intro (i + 1) (And.intro vAr (And.intro vAr ?_))
    first | refine WeakS.autoR ?_ | refine Weak.autoR ?_
    conv => whnf
    repeat' ((first | refine z1 ?_ | refine z2 ?_ | refine zV ?_ | refine And.intro vRepl ?_ | refine And.intro vReplL ?_ | refine And.intro ?_ ?_ | exact trivial) <;> try (conv => whnf))
    refine ints_congr' (L_set_eq ((derS a).c i) ?_ (Ag.of_eq (mix_succ _ _ _).symm))
    exact Zm.tmod_val hb.1 (by rw [Zm.mk_mul, Zm.mk_val]; rfl)
  · have e : i = n := vAr
    subst e
    exact serD_congr (L_congr (fun k hk => by rw [mix_c, if_pos (by omega)]))
theorem c_implDeriveSeries (hm : Md m) (o : Bool) (n : Nat) (hn : 2 ≤ n ∧ n ≤ 10) (a : PS (Zm m)) : PureCall Tryz.prog 21 [SerD m o (n + 1) a] (.tup [SerD m true n (derS a), dint 0]) := by
  have h1 := fun o => c_IsSeries o m (L (n + 1) a) (by simp; omega)
  rw [serB_LX hm (by omega) a] at h1
  refine pure_of_vcR Tryz.tabOk mixOrd Tryz.func21 rfl rfl ?_
  conv => whnf
  repeat' first | ((first | refine z0 ?_ | (apply zI; refine zP (h1 _) ?_) | (apply zI; refine zP (c_degreeS _ (n + 1) vAr _) ?_) | (apply zI; refine zP (c_derived hm _ n (by omega) a) ?_) | (refine And.intro (fun h => ?_) (fun h => ?_) <;> (try simp only [cnt1, ints_length, rows_length, Tb_length, L_length, byts_length] at h) <;> first | (exfalso; first | omega | exact h trivial | (cases h; done)) | skip) | refine zS ?_ | refine zV ?_ | (apply zI; refine zP vObt ?_) | (apply zI; refine zP vObx ?_) | refine zA ?_ | refine Alt.fst ?_ | refine Or.inl ?_) <;> conv => whnf) | fail
theorem c_IsCurveY (hm : Md m) (o : Bool) (n : Nat) (hn : 2 ≤ n ∧ n ≤ 11) (a : PS (Zm m)) (h0 : a.c 0 = 0) : PureCall Tryz.prog 170 [SerD m o n a] (dbool true) := by
  have h1 := fun o => c_IsSeries o m (L n a) (by simp; omega)
  rw [serB_LX hm hn a] at h1
  have hv : (a.c 0).val = 0 := by rw [h0]; exact Zm.val_zero
  refine pure_of_vcR Tryz.tabOk mixOrd Tryz.func170 rfl rfl ?_
  conv => whnf
  repeat' first | ((first | refine z0 ?_ | (apply zI; refine zP (h1 _) ?_) | (refine And.intro (fun h => ?_) (fun h => ?_) <;> (try simp only [cnt1, ints_length, rows_length, Tb_length, L_length, byts_length] at h) <;> first | (exfalso; first | omega | exact h trivial | (cases h; done)) | skip) | refine zS ?_ | refine zV ?_ | (apply zI; refine zP vObt ?_) | (apply zI; refine zP vObx ?_) | refine zA ?_ | refine Alt.fst ?_ | refine Or.inl ?_) <;> conv => whnf) | fail
theorem c_implComposeSeries (hm : Md m) (o o' : Bool) (n : Nat) (hn : 2 ≤ n ∧ n ≤ 11) (a f : PS (Zm m)) (h0 : f.c 0 = 0) : PureCall Tryz.prog 23 [SerD m o n a, SerD m o' n f] (.tup [SerD m true n (compN a f 0 n), dint 0]) := by
  have h1 := fun o => c_IsSeries o m (L n a) (by simp; omega)
  have h2 := fun o => c_IsSeries o m (L n f) (by simp; omega)
  rw [serB_LX hm hn a] at h1
  rw [serB_LX hm hn f] at h2
  refine pure_of_vcR Tryz.tabOk mixOrd Tryz.func23 rfl rfl ?_
  conv => whnf
  repeat' first | ((first | refine z0 ?_ | refine Or.inr (inl_ofR Tryz.tabOk mixOrd _ Tryz.func169 rfl rfl ?_) | (apply zI; refine zP (h1 _) ?_) | (apply zI; refine zP (h2 _) ?_) | refine Or.inr (inl_ofR Tryz.tabOk mixOrd _ Tryz.func355 rfl rfl ?_) | (apply zI; refine zP (c_degreeS _ n vAr _) ?_) | (apply zI; refine zP (c_IsCurveY hm _ n hn f h0) ?_) | (apply zI; refine zP (c_compose hm _ _ n vAr _ _) ?_) | (refine And.intro (fun h => ?_) (fun h => ?_) <;> (try simp only [cnt1, ints_length, rows_length, Tb_length, L_length, byts_length] at h) <;> first | (exfalso; first | omega | exact h trivial | (cases h; done)) | skip) | refine zS ?_ | refine zV ?_ | (apply zI; refine zP vObt ?_) | (apply zI; refine zP vObx ?_) | refine zA ?_ | refine Alt.fst ?_ | refine Or.inl ?_) <;> conv => whnf) | fail
theorem derS_dS (a : PS (Zm m)) : derS a = dS a := PS.ext (fun n => by
  rw [dS_c, nc_mk]; rfl)
theorem gen_expG (hm : Md m) {a : PS (Zm m)} (h0 : a.c 0 = 1) : expG a = X * inv 1 a := by
  unfold expG
  rw [h0, invN_v1 hm.1, C0X]
theorem gen_logG (hm : Md m) {a : PS (Zm m)} (h0 : a.c 0 = 1) : logG a = rev 1 (X * inv 1 a) := by
  unfold logG
  rw [gen_expG hm h0, X_mul_succ, inv_c0, invN_v1 hm.1]
theorem gen_proj (hm : Md m) {a : PS (Zm m)} (h0 : a.c 0 = 1) : projS a = dS (logG a) := PS.ext (fun n => by
  rw [gen_logG hm h0]; exact proj_dS hm.1 h0 n)
theorem gen_line (hm : Md m) {a : PS (Zm m)} (h0 : a.c 0 = 1) {N : Nat} (hN : 2 ≤ N) : (compN (logG a) (expG a) 0 N).c 1 = 1 := by
  have e0 : (X * inv 1 a : PS (Zm m)).c 0 = 0 := X_mul_zero _
  have e1 : (X * inv 1 a : PS (Zm m)).c 1 * 1 = 1 := by rw [X_mul_succ, inv_c0, CR.one_mul]
  rw [gen_logG hm h0, gen_expG hm h0, compN_ag e0 N 1 (by omega), rev_comp e0 e1]
  rfl
theorem gen_back (hm : Md m) {a : PS (Zm m)} (h0 : a.c 0 = 1) {N : Nat} (hN : 2 ≤ N ∧ N ≤ 10) (hu : unitsB m N = true) :
    L N (inv (invN m ((charG m (L N (projS a))).c 0).val) (charG m (L N (projS a)))) = L N a := by
  have hb : Ag N (rd m (L N (projS a))) ⟨fun n => (Go.Fg.pw a (n + 1)).c n⟩ := rd_L N (projS a)
  obtain ⟨h1, h2, h3⟩ := char_back hm.1 h0 (by omega) hu hb
  unfold charG
  rw [h3, invN_v1 hm.1, h2, invN_v1 hm.1]
  exact L_congr h1
theorem gen_again (hm : Md m) {l : List Int} (hl : Nums m l) (h0 : (rd m l).c 0 = 1) (hN : 1 ≤ l.length) (hu : unitsB m l.length = true) :
    L l.length (projS (inv (invN m ((charG m l).c 0).val) (charG m l))) = l ∧ (inv (invN m ((charG m l).c 0).val) (charG m l)).c 0 = 1 := by
  have h := genera_back hm.1 h0 hN hu
  have h3 : (intS (rd m l)).c 1 = 1 := intS_1 hm.1 h0
  have e : inv (invN m ((charG m l).c 0).val) (charG m l) = inv 1 (rev 1 (intS (rd m l))).shl := by
    unfold charG
    rw [h3, invN_v1 hm.1, shl_c, rev_c1, invN_v1 hm.1]
  rw [e]
  exact ⟨(L_congr h).trans (L_rd hl), rfl⟩
theorem gen_hyper (hm : Md m) {a : PS (Zm m)} (h0 : a.c 0 = 1) (n : Nat) : hyS a n 1 = (pw a (n + 1)).c n := by
  unfold hyS
  rw [show Zm.mk m 1 = (1 : Zm m) from rfl, strS_1, h0, invN_v1 hm.1, CR.one_mul, hyper_1 (mul_inv (by rw [h0, CR.one_mul]))]
theorem ag_proj {N : Nat} {a b : PS (Zm m)} (h : Ag N a b) : Ag N (projS a) (projS b) := fun i hi => by
  show (pw a (i + 1)).c i = (pw b (i + 1)).c i
  exact Ag.pw h (i + 1) i hi
end Go.Proofs

