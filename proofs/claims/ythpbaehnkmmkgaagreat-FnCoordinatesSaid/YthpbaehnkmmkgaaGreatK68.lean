import Derived.Test.YthpbaehnkmmkgaaGreatK66
namespace Go.Proofs
open Go Go.Vm Go.Fg Go.Fg.PS
set_option maxRecDepth 100000
set_option maxHeartbeats 4000000
set_option linter.unusedSimpArgs false
set_option linter.unusedVariables false
noncomputable def zrB (m : Int) (t : List (List Int)) (l : List Int) (n : Nat) : Bool := decide (L ((t.length - 1) / n + 1) (frS m t l n) = L ((t.length - 1) / n + 1) (0 : PS (Zm m)))
def prL : List Nat := [2, 3, 5]
noncomputable def tyO (m : Int) (t : List (List Int)) (l : List Int) (p : Int) (n : Nat) : Bool := decide ((n : Int) = p) || (decide ((n : Int) > (t.length : Int) - 1) || zrB m t l n)
def tyC (cu p : Int) : Int := if cu = 0 then (if p ≠ 2 ∧ p ≠ 3 ∧ p ≠ 5 then 2 else 0) else cu
noncomputable def tyR (m : Int) (t : List (List Int)) (ma : Int) (l : List Int) (p : Int) : D := .tup [dbool (decide (tyC (cuC m t ma l) p = 0) && prL.all (tyO m t l p)), dint (tyC (cuC m t ma l) p)]
theorem prL_get {i : Nat} (h : i < 3) : ∃ n, prL.getD i 0 = n ∧ 2 ≤ n ∧ n ≤ 5 ∧ ([2, 3, 5] : List Int).getD i 0 = n := by
 rcases (show i = 0 ∨ i = 1 ∨ i = 2 by omega) with rfl | rfl | rfl <;> exact ⟨_, rfl, by decide, by decide, rfl⟩
theorem all3 {f : Nat → Bool} {i : Nat} (h3 : 3 ≤ i) (h : ∀ j, j < i → f (prL.getD j 0) = true) : prL.all f = true := by
 have h0 := h 0 (by omega)
 have h1 := h 1 (by omega)
 have h2 := h 2 (by omega)
 simp only [prL] at *
 simp_all
theorem not3 {f : Nat → Bool} {i n : Nat} (h3 : i < 3) (hn : prL.getD i 0 = n) (h : f n = false) : prL.all f = false := by
 subst hn
 rcases (show i = 0 ∨ i = 1 ∨ i = 2 by omega) with rfl | rfl | rfl <;> simp_all [prL]
theorem c_slEqualT (o o' : Bool) (l l' : List Int) (hl : l.length ≤ 1048576) : PureCall Tryz.prog 390 [.list o 1 (ints l), .list o' 1 (ints l')] (dbool (decide (l = l'))) := by
 refine pure_of_vcR Tryz.tabOk mixOrd Tryz.func390 rfl rfl ?_
 conv => whnf
 repeat' first | ((first | refine z0 ?_ | (refine And.intro (fun h => ?_) (fun h => ?_) <;> (try simp only [cnt1, ints_length] at h)) | refine zS ?_ | refine zV ?_ | (apply zI; refine zP vObt ?_) | (apply zI; refine zP vObx ?_) | refine zA ?_ | refine Alt.fst ?_ | refine Or.inl ?_) <;> conv => whnf) | fail
 · refine dbool_congr ?_
   rw [eq_comm, decide_eq_false_iff_not]
   intro e; subst e; simp_all
 refine loop_atR Tryz.tabOk mixOrd (α := Nat) (fun i => [(13, dint i)]) (fun i => []) (fun i => i ≤ l.length ∧ ∀ j, j < i → l.getD j 0 = l'.getD j 0) (fun i => l.length - i) (0) ?_ ?_ ?_
 · exact ⟨by omega, by omega⟩
 · conv => whnf
   first | refine WeakS.autoR ?_ | refine Weak.autoR ?_
   conv => whnf
   repeat' ((first | refine z1 ?_ | refine z2 ?_ | refine zV ?_ | refine And.intro vRepl ?_ | refine And.intro vReplL ?_ | refine And.intro ?_ ?_ | exact trivial) <;> try (conv => whnf))
 intro i hi
 conv => whnf
 repeat' first | ((first | refine z0 ?_ | (refine And.intro (fun h => ?_) (fun h => ?_) <;> (try simp only [cnt1, ints_length] at h)) | refine zS ?_ | refine zV ?_ | (apply zI; refine zP vObt ?_) | (apply zI; refine zP vObx ?_) | refine zA ?_ | refine Alt.fst ?_ | refine Or.inl ?_) <;> conv => whnf) | fail
 · exact dbool_congr (by rw [eq_comm, decide_eq_false_iff_not]; intro e; subst e; simp_all)
 · refine Exists.intro (i + 1) (And.intro ⟨by omega, lt_cases hi.2 (by omega)⟩ (And.intro (by omega) ?_))
   first | refine WeakS.autoR ?_ | refine Weak.autoR ?_
   conv => whnf
   repeat' ((first | refine z1 ?_ | refine z2 ?_ | refine zV ?_ | refine And.intro vRepl ?_ | refine And.intro vReplL ?_ | refine And.intro ?_ ?_ | exact trivial) <;> try (conv => whnf))
 · refine dbool_congr ?_
   rw [eq_comm, decide_eq_true_iff]
   refine List.ext_getElem (by omega) (fun j k1 k2 => ?_)
   have := hi.2 j (by omega)
   simpa [k1, k2] using this
theorem c_sameT (m : Int) (o o' : Bool) (N : Nat) (hN : N ≤ 1048576) (a b : PS (Zm m)) : PureCall Tryz.prog 341 [SerD m o N a, SerD m o' N b] (dbool (decide (L N a = L N b))) := by
 refine pure_of_vcR Tryz.tabOk mixOrd Tryz.func341 rfl rfl ?_
 conv => whnf
 repeat' first | ((first | refine z0 ?_ | (apply zI; refine zP (c_slEqualT _ _ (L N a) (L N b) (by rw [L_length]; exact hN)) ?_) | (refine And.intro (fun h => ?_) (fun h => ?_) <;> (try simp only [cnt1, ints_length] at h)) | refine zS ?_ | refine zV ?_ | (apply zI; refine zP vObt ?_) | (apply zI; refine zP vObx ?_) | refine zA ?_ | refine Alt.fst ?_ | refine Or.inl ?_) <;> conv => whnf) | fail
 all_goals (refine dbool_congr ?_; first | rfl | (simp_all []; done) | (simp_all []; omega) | (simp_all []; intros; omega))
theorem tyR_bad {m : Int} {t : List (List Int)} {ma : Int} {l : List Int} {p : Int} (h : tyC (cuC m t ma l) p ≠ 0) : D.tup [.lit (.bool false), dint (tyC (cuC m t ma l) p)] = tyR m t ma l p := by
 unfold tyR; rw [decide_eq_false h, Bool.false_and]
theorem tyR_ok {m : Int} {t : List (List Int)} {ma : Int} {l : List Int} {p : Int} (h : tyC (cuC m t ma l) p = 0) {b : Bool} (hb : prL.all (tyO m t l p) = b) : D.tup [.lit (.bool b), .lit (.int .i64 0)] = tyR m t ma l p := by
 unfold tyR; rw [decide_eq_true h, Bool.true_and, hb, h]
theorem c_implIsTypicalCurve (o p1 o1 : Bool) (m : Int) (t : List (List Int)) (ma : Int) (l : List Int) (p : Int) (hl : t.length ≤ 1048576) (hr : lensOk t) (h1 : l.length ≤ 1048576) :
   PureCall Tryz.prog 142 [.agg [dint m, .list o 1 (rows p1 t)], .agg [dint ma, .list o1 1 (ints l)], dint p] (tyR m t ma l p) := by
 have hd : PureCall Tryz.prog 215 [.agg [dint m, .list o 1 (rows p1 t)]] (dint (t.length - 1)) := by
   refine pure_of_vcR Tryz.tabOk mixOrd Tryz.func215 rfl rfl ?_
   conv => whnf
   repeat' first | ((first | refine z0 ?_ | (refine And.intro (fun h => ?_) (fun h => ?_) <;> (try simp only [cnt1, ints_length] at h)) | refine zS ?_ | refine zV ?_ | (apply zI; refine zP vObt ?_) | (apply zI; refine zP vObx ?_) | refine zA ?_ | refine And.intro (inR64 vAr vAr) ?_ | refine Alt.fst ?_ | refine Or.inl ?_) <;> conv => whnf) | fail
   rw [cnt1, rows_length]
 have hcv := c_curved1 o p1 false false m t ma l hl hr h1
 by_cases hc : cuC m t ma l = 0
 · obtain ⟨hmd, hN⟩ := cuC_N hc
   have hcode : (p ≠ 2 ∧ p ≠ 3 ∧ p ≠ 5) → tyC (cuC m t ma l) p = 2 := fun h => by unfold tyC; rw [if_pos hc, if_pos h]
   have hcode0 : ¬ (p ≠ 2 ∧ p ≠ 3 ∧ p ≠ 5) → tyC (cuC m t ma l) p = 0 := fun h => by unfold tyC; rw [if_pos hc, if_neg h]
   refine pure_of_vcR Tryz.tabOk mixOrd Tryz.func142 rfl rfl ?_
   conv => whnf
   repeat' first | ((first | refine z0 ?_ | (apply zI; refine zP (hcv) ?_) | (apply zI; refine zP ((show sub [dint ma, D.list o1 1 (ints l)] 2 0 1 = [dint ma, D.list o1 1 (ints l)] from rfl)) ?_) | (apply zI; refine zP ((show sub [dint ma, D.list false 1 (ints l)] 2 0 1 = [dint ma, D.list false 1 (ints l)] from rfl)) ?_) | (refine And.intro (fun h => ?_) (fun h => ?_) <;> (try simp only [cnt1, ints_length] at h)) | refine zS ?_ | refine zV ?_ | (apply zI; refine zP vObt ?_) | (apply zI; refine zP vObx ?_) | refine zA ?_ | refine And.intro ((show 1 * 2 ≤ 2 by omega)) ?_ | refine And.intro (ints_plain [2, 3, 5]) ?_ | refine Alt.fst ?_ | refine Or.inl ?_) <;> conv => whnf) | fail
   · exfalso; simp_all
   · have := hcode ⟨by assumption, by assumption, by assumption⟩
     rw [← tyR_bad (by rw [this]; decide), this]
   all_goals
     have hok := hcode0 (by omega)
     refine loop_atR Tryz.tabOk mixOrd (α := Nat) (fun i => [(33, dint i), (31, .ref 4 [] 1 0 3), (10, .undef), (11, .undef)]) (fun i => [(4, some ⟨false, 1, ints [2, 3, 5]⟩)]) (fun i => i ≤ 3 ∧ ∀ j, j < i → tyO m t l p (prL.getD j 0) = true) (fun i => 3 - i) (0) ?_ ?_ ?_
     · exact ⟨by omega, by omega⟩
     · conv => whnf
       first | refine WeakS.autoR ?_ | refine Weak.autoR ?_
       conv => whnf
       repeat' ((first | refine z1 ?_ | refine z2 ?_ | refine zV ?_ | refine And.intro vRepl ?_ | refine And.intro vReplL ?_ | refine And.intro ?_ ?_ | exact trivial) <;> try (conv => whnf))
     intro i ⟨hi, hz⟩
     rcases Nat.lt_or_ge i 3 with hi' | hi'
     · obtain ⟨n, hg, hn2, hn5, hgi⟩ := prL_get hi'
       have hstep : tyO m t l p n = true → i + 1 ≤ 3 ∧ ∀ j, j < i + 1 → tyO m t l p (prL.getD j 0) = true := fun h => ⟨by omega, lt_cases hz (by rw [hg]; exact h)⟩
       have hKl := Nat.div_le_self (t.length - 1) n
       have hfr := fun o p1 o1 => c_frob o p1 o1 m t ma l hc n ⟨hn2, hn5⟩ hgi
       have hzr : zrB m t l n = decide (L ((t.length - 1) / n + 1) (frS m t l n) = L ((t.length - 1) / n + 1) 0) := rfl
       generalize (t.length - 1) / n = K at *
       have hK1 : K + 1 ≤ 11 := by omega
       have hty : tyO m t l p n = (decide ((n : Int) = p) || (decide ((n : Int) > (t.length : Int) - 1) || zrB m t l n)) := rfl
       generalize frS m t l n = w at *
       conv => whnf
       repeat' first | ((first | refine z0 ?_ | (apply zI; refine zP (hd) ?_) | (apply zI; refine zP (hfr _ _ _) ?_) | (apply zI; refine zP (c_degreeS _ (K + 1) (by omega) w) ?_) | (apply zI; refine zP (c_zero (K + 1) (by omega) (by omega)) ?_) | (apply zI; refine zP (c_sameT m _ _ (K + 1) (by omega) w 0) ?_) | (refine And.intro (fun h => ?_) (fun h => ?_) <;> (try simp only [cnt1, ints_length] at h) <;> first | (exfalso; omega) | skip) | refine zS ?_ | refine zV ?_ | (apply zI; refine zP vObt ?_) | (apply zI; refine zP vObx ?_) | refine zA ?_ | refine Alt.fst ?_ | refine Or.inl ?_) <;> conv => whnf) | fail
       · have hp : ([2, 3, 5] : List Int).getD i 0 = p := by assumption
         refine Exists.intro (i + 1) (And.intro (hstep (by rw [hty, ← hgi, decide_eq_true hp, Bool.true_or])) (And.intro (by omega) ?_))
         first | refine WeakS.autoR ?_ | refine Weak.autoR ?_
         conv => whnf
         repeat' ((first | refine z1 ?_ | refine z2 ?_ | refine zV ?_ | refine And.intro vRepl ?_ | refine And.intro vReplL ?_ | refine And.intro ?_ ?_ | exact trivial) <;> try (conv => whnf))
       · have hq : (t.length : Int) - 1 < ([2, 3, 5] : List Int).getD i 0 := by assumption
         refine Exists.intro (i + 1) (And.intro (hstep (by rw [hty, ← hgi, decide_eq_true (show ([2, 3, 5] : List Int).getD i 0 > (t.length : Int) - 1 from hq), Bool.true_or, Bool.or_true])) (And.intro (by omega) ?_))
         first | refine WeakS.autoR ?_ | refine Weak.autoR ?_
         conv => whnf
         repeat' ((first | refine z1 ?_ | refine z2 ?_ | refine zV ?_ | refine And.intro vRepl ?_ | refine And.intro vReplL ?_ | refine And.intro ?_ ?_ | exact trivial) <;> try (conv => whnf))
       · have hx : decide (L (K + 1) w = L (K + 1) (0 : PS (Zm m))) = true := by assumption
         refine Exists.intro (i + 1) (And.intro (hstep (by rw [hty, hzr, hx, Bool.or_true, Bool.or_true])) (And.intro (by omega) ?_))
         first | refine WeakS.autoR ?_ | refine Weak.autoR ?_
         conv => whnf
         repeat' ((first | refine z1 ?_ | refine z2 ?_ | refine zV ?_ | refine And.intro vRepl ?_ | refine And.intro vReplL ?_ | refine And.intro ?_ ?_ | exact trivial) <;> try (conv => whnf))
       · have hx : decide (L (K + 1) w = L (K + 1) (0 : PS (Zm m))) = false := by assumption
         have hp : ¬ ([2, 3, 5] : List Int).getD i 0 = p := by assumption
         have hq : ¬ (t.length : Int) - 1 < ([2, 3, 5] : List Int).getD i 0 := by assumption
         rw [hgi] at hp hq
         exact tyR_ok hok (not3 hi' hg (by rw [hty, hzr, hx, decide_eq_false hp, decide_eq_false hq]; rfl))
     · conv => whnf
       repeat' first | ((first | refine z0 ?_ | (refine And.intro (fun h => ?_) (fun h => ?_) <;> (try simp only [cnt1, ints_length] at h) <;> first | (exfalso; omega) | skip) | refine zS ?_ | refine zV ?_ | (apply zI; refine zP vObt ?_) | (apply zI; refine zP vObx ?_) | refine zA ?_ | refine Alt.fst ?_ | refine Or.inl ?_) <;> conv => whnf) | fail
       exact tyR_ok hok (all3 hi' hz)
 · have hcode : tyC (cuC m t ma l) p = cuC m t ma l := by unfold tyC; rw [if_neg hc]
   refine pure_of_vcR Tryz.tabOk mixOrd Tryz.func142 rfl rfl ?_
   conv => whnf
   repeat' first | ((first | refine z0 ?_ | (apply zI; refine zP (hcv) ?_) | (apply zI; refine zP ((show sub [dint ma, D.list o1 1 (ints l)] 2 0 1 = [dint ma, D.list o1 1 (ints l)] from rfl)) ?_) | (apply zI; refine zP ((show sub [dint ma, D.list false 1 (ints l)] 2 0 1 = [dint ma, D.list false 1 (ints l)] from rfl)) ?_) | (refine And.intro (fun h => ?_) (fun h => ?_) <;> (try simp only [cnt1, ints_length] at h) <;> first | (exfalso; omega) | skip) | refine zS ?_ | refine zV ?_ | (apply zI; refine zP vObt ?_) | (apply zI; refine zP vObx ?_) | refine zA ?_ | refine And.intro ((show 1 * 2 ≤ 2 by omega)) ?_ | refine Alt.fst ?_ | refine Or.inl ?_) <;> conv => whnf) | fail
   all_goals first
     | (exact absurd (by assumption) hc)
     | (rw [← tyR_bad (by rw [hcode]; exact hc), hcode])
     | (exfalso; simp_all; done)
end Go.Proofs
