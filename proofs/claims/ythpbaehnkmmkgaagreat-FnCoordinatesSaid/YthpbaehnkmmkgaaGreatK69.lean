import Derived.Test.YthpbaehnkmmkgaaGreatK68
namespace Go.Proofs
open Go Go.Vm Go.Fg Go.Fg.PS
set_option maxRecDepth 100000
set_option maxHeartbeats 4000000
set_option linter.unusedSimpArgs false
set_option linter.unusedVariables false
theorem c_specIsTypicalCurve (o p1 o1 : Bool) (m : Int) (t : List (List Int)) (ma : Int) (l : List Int) (p : Int) (hl : t.length ≤ 1048576) (hr : lensOk t) (h1 : l.length ≤ 1048576) :
   PureCall Tryz.prog 143 [.agg [dint m, .list o 1 (rows p1 t)], .agg [dint ma, .list o1 1 (ints l)], dint p] (tyR m t ma l p) := by
 have hd : PureCall Tryz.prog 298 [.agg [dint m, .list o 1 (rows p1 t)]] (dint (t.length - 1)) := by
   refine pure_of_vcR Tryz.tabOk mixOrd Tryz.func298 rfl rfl ?_
   conv => whnf
   repeat' first | ((first | refine z0 ?_ | (refine And.intro (fun h => ?_) (fun h => ?_) <;> (try simp only [cnt1, ints_length] at h)) | refine zS ?_ | refine zV ?_ | (apply zI; refine zP vObt ?_) | (apply zI; refine zP vObx ?_) | refine zA ?_ | refine And.intro (inR64 vAr vAr) ?_ | refine Alt.fst ?_ | refine Or.inl ?_) <;> conv => whnf) | fail
   rw [cnt1, rows_length]
 have hcv := c_l04Code1 o p1 false false m t ma l hl hr h1
 by_cases hc : cuC m t ma l = 0
 · obtain ⟨hmd, hN⟩ := cuC_N hc
   have hcode : (p ≠ 2 ∧ p ≠ 3 ∧ p ≠ 5) → tyC (cuC m t ma l) p = 2 := fun h => by unfold tyC; rw [if_pos hc, if_pos h]
   have hcode0 : ¬ (p ≠ 2 ∧ p ≠ 3 ∧ p ≠ 5) → tyC (cuC m t ma l) p = 0 := fun h => by unfold tyC; rw [if_pos hc, if_neg h]
   rw [hc] at hcv
   refine pure_of_vcR Tryz.tabOk mixOrd Tryz.func143 rfl rfl ?_
   conv => whnf
   repeat' first | ((first | refine z0 ?_ | (apply zI; refine zP (hcv) ?_) | (apply zI; refine zP ((show sub [dint ma, D.list o1 1 (ints l)] 2 0 1 = [dint ma, D.list o1 1 (ints l)] from rfl)) ?_) | (apply zI; refine zP ((show sub [dint ma, D.list false 1 (ints l)] 2 0 1 = [dint ma, D.list false 1 (ints l)] from rfl)) ?_) | (refine And.intro (fun h => ?_) (fun h => ?_) <;> (try simp only [cnt1, ints_length] at h) <;> first | (exfalso; omega) | skip) | refine zS ?_ | refine zV ?_ | (apply zI; refine zP vObt ?_) | (apply zI; refine zP vObx ?_) | refine zA ?_ | refine And.intro ((show 1 * 2 ≤ 2 by omega)) ?_ | refine And.intro (ints_plain [2, 3, 5]) ?_ | refine Alt.fst ?_ | refine Or.inl ?_) <;> conv => whnf) | fail
   · have := hcode ⟨by assumption, by assumption, by assumption⟩
     rw [← tyR_bad (by rw [this]; decide), this]
   all_goals try (exact absurd trivial (show ¬ True by assumption))
   all_goals
     have hok := hcode0 (by omega)
     refine loop_atR Tryz.tabOk mixOrd (α := Nat) (fun i => [(10, dint i), (9, .ref 4 [] 1 0 3), (11, .undef), (66, .undef)]) (fun i => [(4, some ⟨false, 1, ints [2, 3, 5]⟩)]) (fun i => i ≤ 3 ∧ ∀ j, j < i → tyO m t l p (prL.getD j 0) = true) (fun i => 3 - i) (0) ?_ ?_ ?_
     · exact ⟨by omega, by omega⟩
     · conv => whnf
       first | refine WeakS.autoR ?_ | refine Weak.autoR ?_
       conv => whnf
       repeat' ((first | refine z1 ?_ | refine z2 ?_ | refine zV ?_ | refine And.intro vRepl ?_ | refine And.intro vReplL ?_ | refine And.intro ?_ ?_ | exact trivial) <;> try (conv => whnf))
     intro i ⟨hi, hz⟩
     rcases Nat.lt_or_ge i 3 with hi' | hi'
     · obtain ⟨n, hg, hn2, hn5, hgi⟩ := prL_get hi'
       have hstep : tyO m t l p n = true → i + 1 ≤ 3 ∧ ∀ j, j < i + 1 → tyO m t l p (prL.getD j 0) = true := fun h => ⟨by omega, lt_cases hz (by rw [hg]; exact h)⟩
       have hKl := Nat.div_le_self (t.length - 1) n
       have hfr := fun o p1 o1 => c_lfrob o p1 o1 m t ma l hc n ⟨hn2, hn5⟩ hgi
       have hzr : zrB m t l n = decide (L ((t.length - 1) / n + 1) (frS m t l n) = L ((t.length - 1) / n + 1) 0) := rfl
       generalize (t.length - 1) / n = K at *
       have hK1 : K + 1 ≤ 11 := by omega
       have hty : tyO m t l p n = (decide ((n : Int) = p) || (decide ((n : Int) > (t.length : Int) - 1) || zrB m t l n)) := rfl
       generalize frS m t l n = w at *
       conv => whnf
       repeat' first | ((first | refine z0 ?_ | (apply zI; refine zP (hd) ?_) | (apply zI; refine zP (hfr _ _ _) ?_) | (refine And.intro (fun h => ?_) (fun h => ?_) <;> (try simp only [cnt1, ints_length] at h) <;> first | (exfalso; omega) | skip) | refine zS ?_ | refine zV ?_ | (apply zI; refine zP vObt ?_) | (apply zI; refine zP vObx ?_) | refine zA ?_ | refine Alt.fst ?_ | refine Or.inl ?_) <;> conv => whnf) | fail
       · have hp : ([2, 3, 5] : List Int).getD i 0 = p := by assumption
         refine Exists.intro (i + 1) (And.intro (hstep (by rw [hty, ← hgi, decide_eq_true hp, Bool.true_or])) (And.intro (by omega) ?_))
         first | refine WeakS.autoR ?_ | refine Weak.autoR ?_
         conv => whnf
         repeat' ((first | refine z1 ?_ | refine z2 ?_ | refine zV ?_ | refine And.intro vRepl ?_ | refine And.intro vReplL ?_ | refine And.intro ?_ ?_ | exact trivial) <;> try (conv => whnf))
       · have hq : (t.length : Int) - 1 < ([2, 3, 5] : List Int).getD i 0 := by assumption
         refine Exists.intro (i + 1) (And.intro (hstep (by rw [hty, ← hgi, decide_eq_true (show ([2, 3, 5] : List Int).getD i 0 > (t.length : Int) - 1 from hq), Bool.true_or, Bool.or_true])) (And.intro (by omega) ?_))
         first | refine WeakS.autoR ?_ | refine Weak.autoR ?_
         conv => whnf
         repeat' ((first | refine z1 ?_ | refine z2 ?_ | refine zV ?_ | refine And.intro vRepl ?_ | refine And.intro vReplL ?_ | refine And.intro ?_ ?_ | exact trivial) <;> try (conv => whnf))
       · have hp : ¬ ([2, 3, 5] : List Int).getD i 0 = p := by assumption
         have hq : ¬ (t.length : Int) - 1 < ([2, 3, 5] : List Int).getD i 0 := by assumption
         rw [hgi] at hp hq
         refine loop_atR Tryz.tabOk mixOrd (α := Nat) (fun k => [(12, dint k)]) (fun k => []) (fun k => k ≤ K + 1 ∧ ∀ j, j < k → w.c j = 0) (fun k => K + 1 - k) (0) ?_ ?_ ?_
         · exact ⟨by omega, by omega⟩
         · conv => whnf
           first | refine WeakS.autoR ?_ | refine Weak.autoR ?_
           conv => whnf
           repeat' ((first | refine z1 ?_ | refine z2 ?_ | refine zV ?_ | refine And.intro vRepl ?_ | refine And.intro vReplL ?_ | refine And.intro ?_ ?_ | exact trivial) <;> try (conv => whnf))
         intro k ⟨hk, hkz⟩
         conv => whnf
         repeat' first | ((first | refine z0 ?_ | (refine And.intro (fun h => ?_) (fun h => ?_) <;> (try simp only [cnt1, ints_length] at h)) | refine zS ?_ | refine zV ?_ | (apply zI; refine zP vObt ?_) | (apply zI; refine zP vObx ?_) | refine zA ?_ | refine Alt.fst ?_ | refine Or.inl ?_) <;> conv => whnf) | fail
         · have hk' : k < K + 1 := vAr
           refine tyR_ok hok (not3 hi' hg ?_)
           have hx : decide (L (K + 1) w = L (K + 1) (0 : PS (Zm m))) = false := decide_eq_false (fun e => by
             have h0 := L_inj e k hk'
             have hne : ¬ (w.c k).val = 0 := by assumption
             exact hne (by rw [h0]; exact Zm.val_zero))
           rw [hty, hzr, hx, decide_eq_false hp, decide_eq_false hq]; rfl
         · have hk' : k < K + 1 := vAr
           have he : (w.c k).val = 0 := Classical.not_not.1 (by assumption)
           refine Exists.intro (k + 1) (And.intro ⟨by omega, lt_cases hkz (Zm.val_eq_zero.1 he)⟩ (And.intro (by omega) ?_))
           first | refine WeakS.autoR ?_ | refine Weak.autoR ?_
           conv => whnf
           repeat' ((first | refine z1 ?_ | refine z2 ?_ | refine zV ?_ | refine And.intro vRepl ?_ | refine And.intro vReplL ?_ | refine And.intro ?_ ?_ | exact trivial) <;> try (conv => whnf))
         · have hk' : K + 1 ≤ k := vAr
           have hx : decide (L (K + 1) w = L (K + 1) (0 : PS (Zm m))) = true := decide_eq_true (L_congr (fun j hj => by rw [hkz j (by omega)]; rfl))
           refine Exists.intro (i + 1) (And.intro (hstep (by rw [hty, hzr, hx, Bool.or_true, Bool.or_true])) (And.intro (by omega) ?_))
           first | refine WeakS.autoR ?_ | refine Weak.autoR ?_
           conv => whnf
           repeat' ((first | refine z1 ?_ | refine z2 ?_ | refine zV ?_ | refine And.intro vRepl ?_ | refine And.intro vReplL ?_ | refine And.intro ?_ ?_ | exact trivial) <;> try (conv => whnf))
     · conv => whnf
       repeat' first | ((first | refine z0 ?_ | (refine And.intro (fun h => ?_) (fun h => ?_) <;> (try simp only [cnt1, ints_length] at h) <;> first | (exfalso; omega) | skip) | refine zS ?_ | refine zV ?_ | (apply zI; refine zP vObt ?_) | (apply zI; refine zP vObx ?_) | refine zA ?_ | refine Alt.fst ?_ | refine Or.inl ?_) <;> conv => whnf) | fail
       exact tyR_ok hok (all3 hi' hz)
 · have hcode : tyC (cuC m t ma l) p = cuC m t ma l := by unfold tyC; rw [if_neg hc]
   refine pure_of_vcR Tryz.tabOk mixOrd Tryz.func143 rfl rfl ?_
   conv => whnf
   repeat' first | ((first | refine z0 ?_ | (apply zI; refine zP (hcv) ?_) | (apply zI; refine zP ((show sub [dint ma, D.list o1 1 (ints l)] 2 0 1 = [dint ma, D.list o1 1 (ints l)] from rfl)) ?_) | (apply zI; refine zP ((show sub [dint ma, D.list false 1 (ints l)] 2 0 1 = [dint ma, D.list false 1 (ints l)] from rfl)) ?_) | (refine And.intro (fun h => ?_) (fun h => ?_) <;> (try simp only [cnt1, ints_length] at h) <;> first | (exfalso; omega) | skip) | refine zS ?_ | refine zV ?_ | (apply zI; refine zP vObt ?_) | (apply zI; refine zP vObx ?_) | refine zA ?_ | refine And.intro ((show 1 * 2 ≤ 2 by omega)) ?_ | refine Alt.fst ?_ | refine Or.inl ?_) <;> conv => whnf) | fail
   all_goals first
     | (exact absurd (by assumption) hc)
     | (rw [← tyR_bad (by rw [hcode]; exact hc), hcode])
     | (exfalso; simp_all; done)
end Go.Proofs
