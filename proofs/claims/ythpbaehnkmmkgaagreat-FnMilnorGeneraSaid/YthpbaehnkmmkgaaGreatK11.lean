/- Units; genera from values on projective spaces; Hirzebruch's series. -/
import Derived.Test.YthpbaehnkmmkgaaGreatKN
import Derived.Test.YthpbaehnkmmkgaaGreatK8
import Derived.Test.YthpbaehnkmmkgaaGreatK9
import Derived.Test.YthpbaehnkmmkgaaGreatAlg7
namespace Go.Proofs
open Go Go.Vm Go.Fg Go.Fg.PS
set_option maxRecDepth 100000
set_option maxHeartbeats 4000000
set_option linter.unusedSimpArgs false
set_option linter.unusedVariables false
variable {m : Int}

theorem serRes_no {n : Nat} {a : PS (Zm m)} {c c' : Int} (h : c' ≠ 0) (e : c' = c) : D.tup [zserD, dint c'] = serRes m n a c := by
  subst e; rw [serRes, if_neg h]
theorem serRes_yes {n : Nat} {a b : PS (Zm m)} {c : Int} (h : c = 0) (e : a = b) : D.tup [SerD m true n a, dint 0] = serRes m n b c := by
  subst h; subst e; rw [serRes, if_pos rfl]
def codeH (m d y : Int) : Int := if codeN m [y] = 0 then (if inB d 1 9 then (if unitsB m (d.toNat + 1) then 0 else 5) else 2) else codeN m [y]
def expoH (m : Int) : PS (Zm m) := ⟨fun k => ifactZ m (k + 1)⟩
def hirS (m : Int) (y : Int) : PS (Zm m) := strS (expoH m) (Zm.mk m (0 - (1 + y)))
def hirR (m : Int) (y : Int) : PS (Zm m) := inv (invN m ((hirS m y).c 0).val) (hirS m y) - PS.C (Zm.mk m y) * PS.X
theorem codeN_1 {m y : Int} (h : codeN m [y] = 0) : Md m ∧ 0 ≤ y ∧ y < m := by
  obtain ⟨h1, h2⟩ := codeN_0 h
  exact ⟨h1, numsB_iff.1 h2 y (by simp)⟩
theorem c_implHirzebruchSeries (m d y : Int) (_ : -9223372036854775808 ≤ m ∧ m ≤ 9223372036854775807) (_ : -9223372036854775808 ≤ d ∧ d ≤ 9223372036854775807) (_ : -9223372036854775808 ≤ y ∧ y ≤ 9223372036854775807) : PureCall Tryz.prog 42 [dint m, dint d, dint y] (serRes m (d.toNat + 1) (hirR m y) (codeH m d y)) := by
  refine pure_of_vc Tryz.tabOk mixOrd Tryz.func42 rfl rfl ?_
  conv => whnf
  repeat' first | ((first | refine z0 ?_ | (apply zI; refine zP (c_modular false m [y] (by simp)) ?_) | (apply zI; refine zP (c_impl_in _ _ _) ?_) | (refine And.intro (fun h => ?_) (fun h => ?_) <;> (try simp only [cnt1, ints_length] at h)) | refine zS ?_ | refine zV ?_ | (apply zI; refine zP vObx ?_) | refine Alt.fst ?_ | refine Or.inl ?_) <;> conv => whnf) | fail
  · exact serRes_no h (by unfold codeH; rw [if_neg h])
  · have h0 : codeN m [y] = 0 := Classical.not_not.1 (by assumption)
    obtain ⟨hm, hy1, hy2⟩ := codeN_1 h0
    have hm1 := hm.1
    have hm2 := hm.2
    have hb : inB d 1 9 = true := by assumption
    have hd : 1 ≤ d ∧ d ≤ 9 := by simp only [inB, decide_eq_true_eq] at hb; omega
    have hfk : ∀ (k : Nat), k ≤ 10 → inR .i64 ((factZ m k).val * ((k : Int) + 1)) ∧ ((factZ m k).val * ((k : Int) + 1)).tmod m = (factZ m (k + 1)).val := fun k hk => by
      have h1 := Zm.val_range hm.pos (factZ m k)
      have h2 : (factZ m k).val * ((k : Int) + 1) ≤ 10000 * ((k : Int) + 1) := Int.mul_le_mul_of_nonneg_right (by omega) (by omega)
      have h3 : 0 ≤ (factZ m k).val * ((k : Int) + 1) := Int.mul_nonneg h1.1 (by omega)
      exact ⟨inR64 (by omega) (by omega), Zm.tmod_val h3 (by rw [Zm.mk_mul, Zm.mk_val]; rfl)⟩
    repeat' first | ((first | refine z0 ?_ | (apply zI; refine zP (c_areUnits hm (d.toNat + 1) vAr vAr) ?_) | (apply zI; refine zP (c_zero (d.toNat + 1) vAr vAr) ?_) | (refine And.intro (fun h => ?_) (fun h => ?_) <;> (try simp only [cnt1, ints_length] at h)) | refine zS ?_ | refine zV ?_ | (apply zI; refine zP vObx ?_) | refine Alt.fst ?_ | refine Or.inl ?_) <;> conv => whnf) | fail
    · have hu : unitsB m (d.toNat + 1) = true := by assumption
      refine loop_at Tryz.tabOk mixOrd (α := Nat) (fun k => [(39, dint k), (10, dint (factZ m k).val)]) (fun k => [(6, some ⟨false, 1, ints (L (d.toNat + 1) (mix k (expoH m) 0))⟩)]) (fun k => k ≤ d.toNat + 1) (fun k => d.toNat + 1 - k) (0) ?_ ?_ ?_
      · omega
      · conv => whnf
        first | refine WeakS.auto ?_ | refine Weak.auto ?_
        conv => whnf
        repeat' ((first | refine z1 ?_ | refine z2 ?_ | refine zV ?_ | refine And.intro vRepl ?_ | refine And.intro vReplL ?_ | refine And.intro ?_ ?_ | exact trivial) <;> try (conv => whnf))
        all_goals first | exact (Zm.val_one (by omega)).symm | rw [mix_zero]
      intro k hk
      conv => whnf
      have hfk1 := (hfk k (by omega)).1
      have hfk2 := (hfk k (by omega)).2
      repeat' first | ((first | refine z0 ?_ | (apply zI; refine zP (c_inverse hm _) ?_) | (refine And.intro (fun h => ?_) (fun h => ?_) <;> (try simp only [cnt1, ints_length] at h)) | refine zS ?_ | refine zV ?_ | (apply zI; refine zP vObx ?_) | refine Alt.fst ?_ | refine Or.inl ?_) <;> conv => whnf) | fail
      · refine Exists.intro (k + 1) (And.intro vAr (And.intro vAr ?_))
        first | refine WeakS.auto ?_ | refine Weak.auto ?_
        conv => whnf
        repeat' ((first | refine z1 ?_ | refine z2 ?_ | refine zV ?_ | refine And.intro vRepl ?_ | refine And.intro vReplL ?_ | refine And.intro ?_ ?_ | exact trivial) <;> try (conv => whnf))
        · refine ints_congr (L_set_eq ((expoH m).c k) ?_ (Ag.of_eq (mix_succ _ _ _).symm))
          rw [hfk2, invN_fact hm1 hu vAr]; rfl
      · rw [show L (d.toNat + 1) (mix k (expoH m) 0) = L (d.toNat + 1) (expoH m) from L_congr (fun i hi => by rw [mix_c, if_pos vAr])]
        repeat' first | ((first | refine z0 ?_ | (apply zI; refine zP (c_stretched hm _ (d.toNat + 1) vAr _ _) ?_) | (apply zI; refine zP (c_inverseU hm _ (d.toNat + 1) vAr _) ?_) | (apply zI; refine zP (c_variable (d.toNat + 1) vAr vAr hm) ?_) | (apply zI; refine zP (c_scaled hm _ (d.toNat + 1) vAr _ _) ?_) | (apply zI; refine zP (c_minus hm _ _ (d.toNat + 1) vAr _ _) ?_) | (refine And.intro (fun h => ?_) (fun h => ?_) <;> (try simp only [cnt1, ints_length] at h)) | refine zS ?_ | refine zV ?_ | (apply zI; refine zP vObx ?_) | refine Alt.fst ?_ | refine Or.inl ?_) <;> conv => whnf) | fail
        exact serRes_yes (by unfold codeH; simp_all) rfl
    · exact serRes_no (by omega) (by unfold codeH; simp_all)
  · exact serRes_no (by omega) (by unfold codeH; simp_all)
theorem c_specHirzebruchSeries (m d y : Int) (_ : -9223372036854775808 ≤ m ∧ m ≤ 9223372036854775807) (_ : -9223372036854775808 ≤ d ∧ d ≤ 9223372036854775807) (_ : -9223372036854775808 ≤ y ∧ y ≤ 9223372036854775807) : PureCall Tryz.prog 43 [dint m, dint d, dint y] (serRes m (d.toNat + 1) (hirR m y) (codeH m d y)) := by
  refine pure_of_vc Tryz.tabOk mixOrd Tryz.func43 rfl rfl ?_
  conv => whnf
  repeat' first | ((first | refine z0 ?_ | (apply zI; refine zP (c_l01Code false m [y] (by simp)) ?_) | (apply zI; refine zP (c_l01In _ _ _) ?_) | (refine And.intro (fun h => ?_) (fun h => ?_) <;> (try simp only [cnt1, ints_length] at h)) | refine zS ?_ | refine zV ?_ | (apply zI; refine zP vObx ?_) | refine Alt.fst ?_ | refine Or.inl ?_) <;> conv => whnf) | fail
  · exact serRes_no h (by unfold codeH; rw [if_neg h])
  · have h0 : codeN m [y] = 0 := Classical.not_not.1 (by assumption)
    obtain ⟨hm, hy1, hy2⟩ := codeN_1 h0
    have hm1 := hm.1
    have hm2 := hm.2
    have hb : inB d 1 9 = true := by assumption
    have hd : 1 ≤ d ∧ d ≤ 9 := by simp only [inB, decide_eq_true_eq] at hb; omega
    repeat' first | ((first | refine z0 ?_ | (apply zI; refine zP (c_l02Integers hm (d.toNat + 1) vAr vAr) ?_) | (apply zI; refine zP (c_l01Mod _ _ hm.pos (by omega)) ?_) | (refine And.intro (fun h => ?_) (fun h => ?_) <;> (try simp only [cnt1, ints_length] at h)) | refine zS ?_ | refine zV ?_ | (apply zI; refine zP vObx ?_) | refine Alt.fst ?_ | refine Or.inl ?_) <;> conv => whnf) | fail
    · refine loop_at Tryz.tabOk mixOrd (α := Nat) (fun k => [(9, .ref 5 [] 1 0 k), (10, dint (ifactZ m k).val), (12, dint k), (35, .undef)]) (fun k => [(5, some ⟨false, 1, ints (L k (hirS m y))⟩)]) (fun k => k ≤ d.toNat + 1) (fun k => d.toNat + 1 - k) (0) ?_ ?_ ?_
      · omega
      · conv => whnf
        first | refine WeakS.auto ?_ | refine Weak.auto ?_
        conv => whnf
        repeat' ((first | refine z1 ?_ | refine z2 ?_ | refine zV ?_ | refine And.intro vRepl ?_ | refine And.intro vReplL ?_ | refine And.intro ?_ ?_ | exact trivial) <;> try (conv => whnf))
        all_goals exact (Zm.val_one (by omega)).symm
      intro k hk
      conv => whnf
      have hown : Zm.mk m ((-1 - y) % m) = Zm.mk m (0 - (1 + y)) := by rw [Zm.mk_mod]; congr 1; omega
      have hv1 := vMulV hm (ifactZ m k) (invN m ((k : Int) + 1))
      repeat' first | ((first | refine z0 ?_ | (apply zI; refine zP (c_l01Inv hm _) ?_) | (apply zI; refine zP (c_l01Pow hm _ k (by omega) rfl) ?_) | (refine And.intro (fun h => ?_) (fun h => ?_) <;> (try simp only [cnt1, ints_length] at h)) | refine zS ?_ | refine zV ?_ | (apply zI; refine zP vObx ?_) | refine Alt.fst ?_ | refine Or.inl ?_) <;> conv => whnf) | fail
      · rw [tm_mul hm, hown]
        repeat' first | ((first | refine z0 ?_ | (refine And.intro (fun h => ?_) (fun h => ?_) <;> (try simp only [cnt1, ints_length] at h)) | refine zS ?_ | refine zV ?_ | (apply zI; refine zP vObx ?_) | refine Alt.fst ?_ | refine Or.inl ?_) <;> conv => whnf) | fail
        refine Exists.intro (k + 1) (And.intro vAr (And.intro vAr ?_))
        first | refine WeakS.auto ?_ | refine Weak.auto ?_
        conv => whnf
        repeat' ((first | refine z1 ?_ | refine z2 ?_ | refine zV ?_ | refine And.intro vRepl ?_ | refine And.intro vReplL ?_ | refine And.intro ?_ ?_ | exact trivial) <;> try (conv => whnf))
        · refine ints_congr (L_push ?_)
          exact tm_mul hm _ _
      · have e : k = d.toNat + 1 := vAr
        subst e
        have hz := Zm.val_range hm.pos ((inv (invN m ((hirS m y).c 0).val) (hirS m y)).c 1)
        have hX : ∀ i, (PS.C (Zm.mk m y) * PS.X).c i = if i = 1 then Zm.mk m y else 0 := fun i => by
          rw [C_mul, X_c]; split
          · exact Go.Fg.mul_one _
          · exact Go.Fg.mul_zero _
        repeat' first | ((first | refine z0 ?_ | (apply zI; refine zP (c_l02InverseU hm _ (d.toNat + 1) (d.toNat + 1) vAr vAr vAr vAr _) ?_) | (apply zI; refine zP (c_l01Mod _ _ hm.pos (by omega)) ?_) | refine Or.inl (Or.inr (And.intro (mk_l02Make) ?_)) | refine Or.inr (And.intro (mk_l02Make) ?_) | (refine And.intro (fun h => ?_) (fun h => ?_) <;> (try simp only [cnt1, ints_length] at h)) | refine zS ?_ | refine zV ?_ | (apply zI; refine zP vObx ?_) | refine Alt.fst ?_ | refine Or.inl ?_) <;> conv => whnf) | fail
        rw [show D.agg [D.lit (.int .i64 m), D.list true 1 (ints ((L (d.toNat + 1) (inv (invN m ((hirS m y).c 0).val) (hirS m y))).set 1 ((((inv (invN m ((hirS m y).c 0).val) (hirS m y)).c 1).val - y) % m)))] = SerD m true (d.toNat + 1) (hirR m y) from serD_congr (L_set_eq (((inv (invN m ((hirS m y).c 0).val) (hirS m y)).c 1) - Zm.mk m y) (Zm.emod_val (by rw [Zm.mk_sub, Zm.mk_val])) (fun i hi => by
          unfold hirR
          rw [upd_c, sub_c, hX]
          by_cases e : i = 1
          · subst e; rw [if_pos rfl, if_pos rfl]
          · rw [if_neg e, if_neg e, Go.Fg.sub_def, Go.Fg.neg_zero, Go.Fg.add_zero]))]
        exact serRes_yes (by unfold codeH; simp_all) rfl
    · exact serRes_no (by omega) (by unfold codeH; simp_all)
  · exact serRes_no (by omega) (by unfold codeH; simp_all)
end Go.Proofs

