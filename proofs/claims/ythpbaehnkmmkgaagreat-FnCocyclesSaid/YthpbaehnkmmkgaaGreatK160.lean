/- The new desk. -/
import Derived.Test.YthpbaehnkmmkgaaGreatK13
import Derived.Test.YthpbaehnkmmkgaaGreatKP
import Derived.Test.YthpbaehnkmmkgaaGreatK159
import Derived.Test.YthpbaehnkmmkgaaGreatK148
import Derived.Test.YthpbaehnkmmkgaaGreatK143

-- tables
namespace Go.Proofs
open Go Go.Vm Go.Fg Go.Fg.PS
set_option maxRecDepth 100000
set_option maxHeartbeats 4000000
set_option linter.unusedSimpArgs false
set_option linter.unusedVariables false
variable {m : Int}
theorem c_scaledP1 (hm : Md m) (o p : Bool) (n : Nat) (hn : 1 ≤ n ∧ n ≤ 100) (f : PS (PS (Zm m))) (c : Int) (i j : Nat) (h : i + j < n) : PureCall Tryz.prog 368 [dint i, dint j, .cptr [dint m, .list o 1 (rows p (Tb n f))] 0, .cptr [dint c] 0] (dint (Zm.mk m c * (f.c i).c j).val) := by
  have hm1 := hm.1
  have hm2 := hm.2
  refine pure_of_vc Tryz.tabOk mixOrd Tryz.func368 rfl rfl ?_
  conv => whnf
  repeat' first | ((first | refine z0 ?_ | (apply zI; refine zP (c_mod _ _ hm.pos (by omega)) ?_) | (apply zI; refine zP (c_mul hm (Zm.mk m c) _) ?_) | (refine And.intro (fun h => ?_) (fun h => ?_) <;> (try simp only [cnt1, ints_length] at h)) | refine zS ?_ | refine zV ?_ | (apply zI; refine zP vObt ?_) | (apply zI; refine zP vObx ?_) | refine zA ?_ | refine Alt.fst ?_ | refine Or.inl ?_) <;> conv => whnf) | fail
  all_goals rfl
theorem c_scaledP (hm : Md m) (o p : Bool) (n : Nat) (hn : 1 ≤ n ∧ n ≤ 100) (f : PS (PS (Zm m))) (c : Int) : PureCall Tryz.prog 228 [PlD m o p n f, dint c] (PlD m true true n (PS.C (PS.C (Zm.mk m c)) * f)) := by
  have hm1 := hm.1
  have hm2 := hm.2
  refine pure_of_vc Tryz.tabOk mixOrd Tryz.func228 rfl rfl ?_
  conv => whnf
  repeat' first | ((first | refine z0 ?_ | (apply zI; refine zP (c_mapped2 hm _ _ _ n hn (fun i j => (Zm.mk m c * (f.c i).c j).val) (fun i j h => c_scaledP1 hm _ _ n hn f c i j h) _ _ f) ?_) | (refine And.intro (fun h => ?_) (fun h => ?_) <;> (try simp only [cnt1, ints_length] at h)) | refine zS ?_ | refine zV ?_ | (apply zI; refine zP vObt ?_) | (apply zI; refine zP vObx ?_) | refine zA ?_ | refine Alt.fst ?_ | refine Or.inl ?_) <;> conv => whnf) | fail
  refine plD_congr (Tb_congr (fun i j hij => ?_))
  rw [pl_c, Zm.mk_val, C_mul, C_mul]
end Go.Proofs



-- tables
-- rec
namespace Go.Proofs
open Go Go.Vm Go.Fg Go.Fg.PS
set_option maxRecDepth 100000
set_option maxHeartbeats 4000000
set_option linter.unusedSimpArgs false
set_option linter.unusedVariables false
variable {m : Int}
theorem c_rows5 (o p o' p' : Bool) (N : Nat) (hN : N ≤ 100) (f g : PS (PS (Zm m))) : PureCall Tryz.prog 153 [.list o 1 (rows p (Tb N f)), .list o' 1 (rows p' (Tb N g))] (dbool (eqTB N f g)) := by
  by_cases hab : eqT N f g
  · rw [show eqTB N f g = true by simp [eqTB, hab]]
    refine pure_of_vcR Tryz.tabOk mixOrd Tryz.func153 rfl rfl ?_
    conv => whnf
    repeat' first | ((first | refine z0 ?_ | (refine And.intro (fun h => ?_) (fun h => ?_) <;> (try simp only [cnt1, ints_length, rows_length, Tb_length] at h) <;> first | (exfalso; omega) | skip) | refine zS ?_ | refine zV ?_ | (apply zI; refine zP vObt ?_) | (apply zI; refine zP vObx ?_) | refine zA ?_ | refine Alt.fst ?_ | refine Or.inl ?_) <;> conv => whnf) | fail
    refine loop_atR Tryz.tabOk mixOrd (α := Nat) (fun i => [(5, dint i)]) (fun i => []) (fun i => i ≤ N) (fun i => N - i) (0) ?_ ?_ ?_
    · omega
    · conv => whnf
      first | refine WeakS.autoR ?_ | refine Weak.autoR ?_
      conv => whnf
      repeat' ((first | refine z1 ?_ | refine z2 ?_ | refine zV ?_ | refine And.intro vRepl ?_ | refine And.intro vReplL ?_ | refine And.intro ?_ ?_ | exact trivial) <;> try (conv => whnf))
    intro i hi
    conv => whnf
    by_cases hin : i < N
    · have hc := c_likeInts p p' (L (N - i) (f.c i)) (L (N - i) (g.c i)) (by simp; omega) (by simp; omega)
      rw [show decide (L (N - i) (f.c i) = L (N - i) (g.c i)) = true by simp [hab i hin]] at hc
      repeat' first | ((first | refine z0 ?_ | (apply zI; refine zP (hc) ?_) | (refine And.intro (fun h => ?_) (fun h => ?_) <;> (try simp only [cnt1, ints_length, rows_length, Tb_length] at h) <;> first | (exfalso; omega) | skip) | refine zS ?_ | refine zV ?_ | (apply zI; refine zP vObt ?_) | (apply zI; refine zP vObx ?_) | refine zA ?_ | refine Alt.fst ?_ | refine Or.inl ?_) <;> conv => whnf) | fail
      · refine Exists.intro (i + 1) (And.intro vAr (And.intro vAr ?_))
        first | refine WeakS.autoR ?_ | refine Weak.autoR ?_
        conv => whnf
        repeat' ((first | refine z1 ?_ | refine z2 ?_ | refine zV ?_ | refine And.intro vRepl ?_ | refine And.intro vReplL ?_ | refine And.intro ?_ ?_ | exact trivial) <;> try (conv => whnf))
      all_goals (exfalso; simp_all; done)
    · repeat' first | ((first | refine z0 ?_ | (refine And.intro (fun h => ?_) (fun h => ?_) <;> (try simp only [cnt1, ints_length, rows_length, Tb_length] at h) <;> first | (exfalso; omega) | skip) | refine zS ?_ | refine zV ?_ | (apply zI; refine zP vObt ?_) | (apply zI; refine zP vObx ?_) | refine zA ?_ | refine Alt.fst ?_ | refine Or.inl ?_) <;> conv => whnf) | fail
      all_goals first | rfl
  · rw [show eqTB N f g = false by simp [eqTB, hab]]
    refine pure_of_vcR Tryz.tabOk mixOrd Tryz.func153 rfl rfl ?_
    conv => whnf
    repeat' first | ((first | refine z0 ?_ | (refine And.intro (fun h => ?_) (fun h => ?_) <;> (try simp only [cnt1, ints_length, rows_length, Tb_length] at h) <;> first | (exfalso; omega) | skip) | refine zS ?_ | refine zV ?_ | (apply zI; refine zP vObt ?_) | (apply zI; refine zP vObx ?_) | refine zA ?_ | refine Alt.fst ?_ | refine Or.inl ?_) <;> conv => whnf) | fail
    refine loop_atR Tryz.tabOk mixOrd (α := Nat) (fun i => [(5, dint i)]) (fun i => []) (fun i => i ≤ N ∧ ∀ k, k < i → L (N - k) (f.c k) = L (N - k) (g.c k)) (fun i => N - i) (0) ?_ ?_ ?_
    · exact ⟨by omega, by omega⟩
    · conv => whnf
      first | refine WeakS.autoR ?_ | refine Weak.autoR ?_
      conv => whnf
      repeat' ((first | refine z1 ?_ | refine z2 ?_ | refine zV ?_ | refine And.intro vRepl ?_ | refine And.intro vReplL ?_ | refine And.intro ?_ ?_ | exact trivial) <;> try (conv => whnf))
    intro i hi
    obtain ⟨hi, hk⟩ := hi
    conv => whnf
    by_cases hin : i < N
    · by_cases he : L (N - i) (f.c i) = L (N - i) (g.c i)
      · have hc := c_likeInts p p' (L (N - i) (f.c i)) (L (N - i) (g.c i)) (by simp; omega) (by simp; omega)
        rw [show decide (L (N - i) (f.c i) = L (N - i) (g.c i)) = true by simp [he]] at hc
        repeat' first | ((first | refine z0 ?_ | (apply zI; refine zP (hc) ?_) | (refine And.intro (fun h => ?_) (fun h => ?_) <;> (try simp only [cnt1, ints_length, rows_length, Tb_length] at h) <;> first | (exfalso; omega) | skip) | refine zS ?_ | refine zV ?_ | (apply zI; refine zP vObt ?_) | (apply zI; refine zP vObx ?_) | refine zA ?_ | refine Alt.fst ?_ | refine Or.inl ?_) <;> conv => whnf) | fail
        · refine Exists.intro (i + 1) (And.intro ⟨by omega, fun k hk9 => (Nat.lt_or_ge k i).elim (hk k) (fun h9 => by rw [show k = i by omega]; exact he)⟩ (And.intro vAr ?_))
          first | refine WeakS.autoR ?_ | refine Weak.autoR ?_
          conv => whnf
          repeat' ((first | refine z1 ?_ | refine z2 ?_ | refine zV ?_ | refine And.intro vRepl ?_ | refine And.intro vReplL ?_ | refine And.intro ?_ ?_ | exact trivial) <;> try (conv => whnf))
        all_goals (exfalso; simp_all; done)
      · have hc := c_likeInts p p' (L (N - i) (f.c i)) (L (N - i) (g.c i)) (by simp; omega) (by simp; omega)
        rw [show decide (L (N - i) (f.c i) = L (N - i) (g.c i)) = false by simp [he]] at hc
        repeat' first | ((first | refine z0 ?_ | (apply zI; refine zP (hc) ?_) | (refine And.intro (fun h => ?_) (fun h => ?_) <;> (try simp only [cnt1, ints_length, rows_length, Tb_length] at h) <;> first | (exfalso; omega) | skip) | refine zS ?_ | refine zV ?_ | (apply zI; refine zP vObt ?_) | (apply zI; refine zP vObx ?_) | refine zA ?_ | refine Alt.fst ?_ | refine Or.inl ?_) <;> conv => whnf) | fail
        all_goals first | rfl | (exfalso; simp_all; done)
    · exact (hab (fun k hk9 => hk k (by omega))).elim
theorem c_plane5 (o p o' p' : Bool) (N : Nat) (hN : N ≤ 100) (f g : PS (PS (Zm m))) : PureCall Tryz.prog 48 [PlD m o p N f, PlD m o' p' N g] (dbool (eqTB N f g)) := by
  refine pure_of_vcR Tryz.tabOk mixOrd Tryz.func48 rfl rfl ?_
  conv => whnf
  repeat' first | ((first | refine z0 ?_ | (apply zI; refine zP (c_rows5 _ _ _ _ N hN f g) ?_) | (refine And.intro (fun h => ?_) (fun h => ?_) <;> (try simp only [cnt1, ints_length, rows_length, Tb_length] at h) <;> first | (exfalso; omega) | skip) | refine zS ?_ | refine zV ?_ | (apply zI; refine zP vObt ?_) | (apply zI; refine zP vObx ?_) | refine zA ?_ | refine Alt.fst ?_ | refine Or.inl ?_) <;> conv => whnf) | fail
  all_goals first | (simp_all; done) | (exfalso; simp_all; done) | (rename_i h; rw [h]; rfl)
theorem c_rows5Nil : PureCall Tryz.prog 153 [.lit (.slice none 0 0), .lit (.slice none 0 0)] (dbool true) := by
  refine pure_of_vcR Tryz.tabOk mixOrd Tryz.func153 rfl rfl ?_
  conv => whnf
  repeat' first | ((first | refine z0 ?_ | (refine And.intro (fun h => ?_) (fun h => ?_) <;> (try simp only [cnt1, ints_length, rows_length, Tb_length, L_length, byts_length] at h) <;> first | (exfalso; first | omega | exact h trivial | (cases h; done)) | skip) | refine zS ?_ | refine zV ?_ | (apply zI; refine zP vObt ?_) | (apply zI; refine zP vObx ?_) | refine zA ?_ | refine Alt.fst ?_ | refine Or.inl ?_) <;> conv => whnf) | fail
  refine loop_atR Tryz.tabOk mixOrd (α := Nat) (fun i => [(5, dint i)]) (fun i => []) (fun i => i ≤ 0) (fun i => 0) (0) ?_ ?_ ?_
  · omega
  · conv => whnf
    first | refine WeakS.autoR ?_ | refine Weak.autoR ?_
    conv => whnf
    repeat' ((first | refine z1 ?_ | refine z2 ?_ | refine zV ?_ | refine And.intro vRepl ?_ | refine And.intro vReplL ?_ | refine And.intro ?_ ?_ | exact trivial) <;> try (conv => whnf))
  intro i hi
  conv => whnf
  repeat' first | ((first | refine z0 ?_ | (refine And.intro (fun h => ?_) (fun h => ?_) <;> (try simp only [cnt1, ints_length, rows_length, Tb_length, L_length, byts_length] at h) <;> first | (exfalso; first | omega | exact h trivial | (cases h; done)) | skip) | refine zS ?_ | refine zV ?_ | (apply zI; refine zP vObt ?_) | (apply zI; refine zP vObx ?_) | refine zA ?_ | refine Alt.fst ?_ | refine Or.inl ?_) <;> conv => whnf) | fail
theorem c_implScalePlane (hm : Md m) (o p : Bool) (N : Nat) (hN : 2 ≤ N ∧ N ≤ 11) (f : PS (PS (Zm m))) (x : Int) (hx : 0 ≤ x ∧ x < m) : PureCall Tryz.prog 98 [PlD m o p N f, dint x] (.tup [PlD m true true N (PS.C (PS.C (Zm.mk m x)) * f), dint 0]) := by
  have hm1 := hm.1
  have hm2 := hm.2
  have h1 := c_IsPlane o p m (Tb N f) (by simp; omega) (lensOk_Tb (by omega) f)
  rw [plB_TbT hm hN f] at h1
  have h2 := c_isNumber x m (inR64 (by omega) (by omega))
  rw [show inB x 0 (m - 1) = true by simp [inB]; omega] at h2
  refine pure_of_vcR Tryz.tabOk mixOrd Tryz.func98 rfl rfl ?_
  conv => whnf
  repeat' first | ((first | refine z0 ?_ | (apply zI; refine zP (h1) ?_) | (apply zI; refine zP (h2) ?_) | (apply zI; refine zP (c_scaledP hm _ _ N (by omega) f x) ?_) | (refine And.intro (fun h => ?_) (fun h => ?_) <;> (try simp only [cnt1, ints_length, rows_length, Tb_length, L_length, byts_length] at h) <;> first | (exfalso; first | omega | exact h trivial | (cases h; done)) | skip) | refine zS ?_ | refine zV ?_ | (apply zI; refine zP vObt ?_) | (apply zI; refine zP vObx ?_) | refine zA ?_ | refine Alt.fst ?_ | refine Or.inl ?_) <;> conv => whnf) | fail
theorem c_implAddPlanes (hm : Md m) (o p o' p' : Bool) (N : Nat) (hN : 2 ≤ N ∧ N ≤ 11) (f g : PS (PS (Zm m))) : PureCall Tryz.prog 99 [PlD m o p N f, PlD m o' p' N g] (.tup [PlD m true true N (f + g), dint 0]) := by
  have hm1 := hm.1
  have hm2 := hm.2
  have h1 := fun o p => c_IsPlane o p m (Tb N f) (by simp; omega) (lensOk_Tb (by omega) f)
  have h2 := fun o p => c_IsPlane o p m (Tb N g) (by simp; omega) (lensOk_Tb (by omega) g)
  rw [plB_TbT hm hN f] at h1
  rw [plB_TbT hm hN g] at h2
  have h3 := fun o p o' p' => c_alikeA o p o' p' m (Tb N f) m (Tb N g) (by simp; omega) (by simp; omega)
  simp only [Tb_length, decide_true, Bool.and_self, Bool.true_and] at h3
  refine pure_of_vcR Tryz.tabOk mixOrd Tryz.func99 rfl rfl ?_
  conv => whnf
  repeat' first | ((first | refine z0 ?_ | (apply zI; refine zP (h1 _ _) ?_) | (apply zI; refine zP (h2 _ _) ?_) | refine Or.inr (inl_ofR Tryz.tabOk mixOrd _ Tryz.func295 rfl rfl ?_) | (apply zI; refine zP (h3 _ _ _ _) ?_) | (apply zI; refine zP (c_plusP hm _ _ _ _ N (by omega) f g) ?_) | (refine And.intro (fun h => ?_) (fun h => ?_) <;> (try simp only [cnt1, ints_length, rows_length, Tb_length, L_length, byts_length] at h) <;> first | (exfalso; first | omega | exact h trivial | (cases h; done)) | skip) | refine zS ?_ | refine zV ?_ | (apply zI; refine zP vObt ?_) | (apply zI; refine zP vObx ?_) | refine zA ?_ | refine Alt.fst ?_ | refine Or.inl ?_) <;> conv => whnf) | fail
end Go.Proofs


