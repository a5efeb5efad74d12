import Derived.Test.YthpbaehnkmmkgaaGreatK57
namespace Go.Proofs
open Go Go.Vm Go.Fg Go.Fg.PS
set_option maxRecDepth 100000
set_option maxHeartbeats 4000000
set_option linter.unusedSimpArgs false
set_option linter.unusedVariables false
variable {m : Int}
theorem c_whSum (hm : Md m) (o o1 o2 o3 p1 p2 p3 : Bool) (rl : List Int) {k : Nat} (hk : RuOk rl k) (N : Nat) (hN : 1 ≤ N ∧ N ≤ 100) (f : PS (PS (Zm m))) (a b : PS (PS (Zm m))) :
   PureCall Tryz.prog 414 [RuD m o rl, .agg [dint m, .list o1 1 (rows p1 (Tb N f))], RtD o2 p2 k N a, RtD o3 p3 k N b] (RtD true true k N (puS k (rd m rl) N f a b)) := by
 have hk0 := hk
 obtain ⟨hl, hk1, hk4, hr⟩ := hk
 have hm1 := hm.1
 have hm2 := hm.2
 refine pure_of_vcR Tryz.tabOk mixOrd Tryz.func414 rfl rfl ?_
 conv => whnf
 repeat' first | ((first | refine z0 ?_ | (apply zI; refine zP (c_whPowers hm _ _ _ _ _ rl hk0 N hN f _) ?_) | (refine And.intro (fun h => ?_) (fun h => ?_) <;> (try simp only [cnt1, ints_length] at h)) | refine zS ?_ | refine zV ?_ | (apply zI; refine zP vObt ?_) | (apply zI; refine zP vObx ?_) | refine zA ?_ | refine Alt.fst ?_ | refine Or.inl ?_) <;> conv => whnf) | fail
 refine loop_atR Tryz.tabOk mixOrd (α := Nat) (fun i => [(29, dint i), (12, .ref 4 [] 1 0 i), (26, .undef), (9, .undef), (19, .undef), (20, .undef), (23, .undef)]) (fun i => [(4, some ⟨false, 1, rows true (sqP k i (0 : PS (PS (Zm m))))⟩)]) (fun i => i ≤ N) (fun i => N - i) (0) ?_ ?_ ?_
 · omega
 · conv => whnf
   first | refine WeakS.autoR ?_ | refine Weak.autoR ?_
   conv => whnf
   repeat' ((first | refine z1 ?_ | refine z2 ?_ | refine zV ?_ | refine And.intro vRepl ?_ | refine And.intro vReplL ?_ | refine And.intro ?_ ?_ | exact trivial) <;> try (conv => whnf))
 intro i hi
 conv => whnf
 repeat' first | ((first | refine z0 ?_ | (apply zI; refine zP (c_whNumber hm _ rl hk0 0 (by rw [Zm.val_zero])) ?_) | (refine And.intro (fun h => ?_) (fun h => ?_) <;> (try simp only [cnt1, ints_length] at h)) | refine zS ?_ | refine zV ?_ | (apply zI; refine zP vObt ?_) | (apply zI; refine zP vObx ?_) | refine zA ?_ | refine And.intro (vRA) ?_ | refine And.intro (one_in _) ?_ | refine And.intro (rows_plain _) ?_ | refine Alt.fst ?_ | refine Or.inl ?_) <;> conv => whnf) | fail
 · refine Exists.intro (i + 1) (And.intro vRA (And.intro vRA ?_))
   first | refine WeakS.autoR ?_ | refine Weak.autoR ?_
   conv => whnf
   repeat' ((first | refine z1 ?_ | refine z2 ?_ | refine zV ?_ | refine And.intro vRepl ?_ | refine And.intro vReplL ?_ | refine And.intro ?_ ?_ | exact trivial) <;> try (conv => whnf))
   exact rows_congr (sqP_push (by rw [PS.C_zero]; rfl))
 · have hiN : i = N := vRA
   rw [hiN]
   refine loop_atR Tryz.tabOk mixOrd (α := Nat) (fun i => [(40, dint i), (13, .undef), (14, .undef)]) (fun i => [(4, some ⟨false, 1, rows true (sqP k N (puP k (rd m rl) N f a b i 0))⟩)]) (fun i => i ≤ N) (fun i => N - i) (0) ?_ ?_ ?_
   · omega
   · conv => whnf
     first | refine WeakS.autoR ?_ | refine Weak.autoR ?_
     conv => whnf
     repeat' ((first | refine z1 ?_ | refine z2 ?_ | refine zV ?_ | refine And.intro vRepl ?_ | refine And.intro vReplL ?_ | refine And.intro ?_ ?_ | exact trivial) <;> try (conv => whnf))
     all_goals rw [puP_zero]
   intro i hi
   conv => whnf
   repeat' first | ((first | refine z0 ?_ | (refine And.intro (fun h => ?_) (fun h => ?_) <;> (try simp only [cnt1, ints_length] at h)) | refine zS ?_ | refine zV ?_ | (apply zI; refine zP vObt ?_) | (apply zI; refine zP vObx ?_) | refine zA ?_ | refine And.intro (vRA) ?_ | refine Alt.fst ?_ | refine Or.inl ?_) <;> conv => whnf) | fail
   · have hi' : i < N := vRA
     refine loop_atR Tryz.tabOk mixOrd (α := Nat) (fun j => [(47, dint j), (15, .undef), (16, .undef), (17, .undef), (18, .undef)]) (fun j => [(4, some ⟨false, 1, rows true (sqP k N (puP k (rd m rl) N f a b i j))⟩)]) (fun j => j ≤ N - i) (fun j => N - j) (0) ?_ ?_ ?_
     · omega
     · conv => whnf
       first | refine WeakS.autoR ?_ | refine Weak.autoR ?_
       conv => whnf
       repeat' ((first | refine z1 ?_ | refine z2 ?_ | refine zV ?_ | refine And.intro vRepl ?_ | refine And.intro vReplL ?_ | refine And.intro ?_ ?_ | exact trivial) <;> try (conv => whnf))
     intro j hj
     conv => whnf
     repeat' first | ((first | refine z0 ?_ | (apply zI; refine zP (vTgL i vIx vRA) ?_) | (apply zI; refine zP (vTgG i vIx vRA) ?_) | (apply zI; refine zP (vTgL j vIx vRA) ?_) | (apply zI; refine zP (vTgG j vIx vRA) ?_) | (apply zI; refine zP (sub_rt vRA (Nat.le_refl _)) ?_) | (apply zI; refine zP (c_whProduct hm _ _ _ _ _ rl hk0 N hN (pwR k (rd m rl) N a i) (pwR k (rd m rl) N b j)) ?_) | (refine And.intro (fun h => ?_) (fun h => ?_) <;> (try simp only [cnt1, ints_length] at h)) | refine zS ?_ | refine zV ?_ | (apply zI; refine zP vObt ?_) | (apply zI; refine zP vObx ?_) | refine zA ?_ | refine And.intro (vTgIx vRA) ?_ | refine And.intro (vRA) ?_ | refine Alt.fst ?_ | refine Or.inl ?_) <;> conv => whnf) | fail
     · have he := Zm.val_eq_zero.1 h
       refine Exists.intro (j + 1) (And.intro vRA (And.intro vRA ?_))
       first | refine WeakS.autoR ?_ | refine Weak.autoR ?_
       conv => whnf
       repeat' ((first | refine z1 ?_ | refine z2 ?_ | refine zV ?_ | refine And.intro vRepl ?_ | refine And.intro vReplL ?_ | refine And.intro ?_ ?_ | exact trivial) <;> try (conv => whnf))
       rw [puP_skip _ _ _ _ _ _ _ _ he]
     · have hj' : j < N - i := vRA
       refine loop_atR Tryz.tabOk mixOrd (α := Nat) (fun q => [(65, dint q), (17, .undef), (18, .undef)]) (fun q => [(4, some ⟨false, 1, rows true (sqP k N (mix q (puP k (rd m rl) N f a b i (j + 1)) (puP k (rd m rl) N f a b i j)))⟩)]) (fun q => q ≤ N) (fun q => N - q) (0) ?_ ?_ ?_
       · omega
       · conv => whnf
         first | refine WeakS.autoR ?_ | refine Weak.autoR ?_
         conv => whnf
         repeat' ((first | refine z1 ?_ | refine z2 ?_ | refine zV ?_ | refine And.intro vRepl ?_ | refine And.intro vReplL ?_ | refine And.intro ?_ ?_ | exact trivial) <;> try (conv => whnf))
         all_goals rw [mix_zero]
       intro q hq
       conv => whnf
       repeat' first | ((first | refine z0 ?_ | (apply zI; refine zP (vRtC (i := q) vIx vRA) ?_) | (apply zI; refine zP (vRtL (i := q) vIx vRA) ?_) | (apply zI; refine zP (vRtG (i := q) vIx vRA) ?_) | refine Or.inr (inl_ofR Tryz.tabOk mixOrd _ Tryz.func456 rfl rfl ?_) | (refine And.intro (fun h => ?_) (fun h => ?_) <;> (try simp only [cnt1, ints_length] at h)) | refine zS ?_ | refine zV ?_ | (apply zI; refine zP vObt ?_) | (apply zI; refine zP vObx ?_) | refine zA ?_ | refine And.intro (rtIx vRA) ?_ | refine And.intro (vRA) ?_ | refine Alt.fst ?_ | refine Or.inl ?_) <;> conv => whnf) | fail
       · have hq' : q < N := vRA
         refine loop_atR Tryz.tabOk mixOrd (α := Nat) (fun l => [(12, dint l)]) (fun l => [(4, some ⟨false, 1, rows true (sqP k N (rwU (mix q (puP k (rd m rl) N f a b i (j + 1)) (puP k (rd m rl) N f a b i j)) q l ((puP k (rd m rl) N f a b i (j + 1)).c q)))⟩)]) (fun l => l ≤ k) (fun l => k - l) (0) ?_ ?_ ?_
         · omega
         · conv => whnf
           first | refine WeakS.autoR ?_ | refine Weak.autoR ?_
           conv => whnf
           repeat' ((first | refine z1 ?_ | refine z2 ?_ | refine zV ?_ | refine And.intro vRepl ?_ | refine And.intro vReplL ?_ | refine And.intro ?_ ?_ | exact trivial) <;> try (conv => whnf))
           all_goals rw [rwU_zero]
         intro l hll
         conv => whnf
         have x1 := hm.mul ((f.c i).c j) (((prM k (rd m rl) N (pwR k (rd m rl) N a i) (pwR k (rd m rl) N b j)).c q).c l)
         have x2 := Zm.val_range hm.pos (((rwU (mix q (puP k (rd m rl) N f a b i (j + 1)) (puP k (rd m rl) N f a b i j)) q l ((puP k (rd m rl) N f a b i (j + 1)).c q)).c q).c l)
         repeat' first | ((first | refine z0 ?_ | (apply zI; refine zP (vRtLL (i := q) (j := l) vIx vIx vRA vRA) ?_) | (apply zI; refine zP (vIntC (l := l) vIx vRA) ?_) | (apply zI; refine zP (vRtStore (i := q) (j := l) _ vIx vIx vRA vRA) ?_) | (apply zI; refine zP (c_mod _ _ hm.pos (by omega)) ?_) | (refine And.intro (fun h => ?_) (fun h => ?_) <;> (try simp only [cnt1, ints_length] at h)) | refine zS ?_ | refine zV ?_ | (apply zI; refine zP vObt ?_) | (apply zI; refine zP vObx ?_) | refine zA ?_ | refine And.intro (inR64 vRA vRA) ?_ | refine And.intro (vRA) ?_ | refine Alt.fst ?_ | refine Or.inl ?_) <;> conv => whnf) | fail
         · have hl' : l < k := vRA
           refine Exists.intro (l + 1) (And.intro vRA (And.intro vRA ?_))
           first | refine WeakS.autoR ?_ | refine Weak.autoR ?_
           conv => whnf
           repeat' ((first | refine z1 ?_ | refine z2 ?_ | refine zV ?_ | refine And.intro vRepl ?_ | refine And.intro vReplL ?_ | refine And.intro ?_ ?_ | exact trivial) <;> try (conv => whnf))
           refine rows_congr (rwU_set _ _ vRA hl' ?_)
           rw [rwU_row, mix_at, em_mulA, mix_c, if_neg (by omega), puP_step, add_c, add_c, CC_cc]
         · refine Exists.intro (q + 1) (And.intro vRA (And.intro vRA ?_))
           first | refine WeakS.autoR ?_ | refine Weak.autoR ?_
           conv => whnf
           repeat' ((first | refine z1 ?_ | refine z2 ?_ | refine zV ?_ | refine And.intro vRepl ?_ | refine And.intro vReplL ?_ | refine And.intro ?_ ?_ | exact trivial) <;> try (conv => whnf))
           refine rows_congr ?_
           rw [rwU_full _ _ _ vRA, ← mix_succ]
       · refine Exists.intro (j + 1) (And.intro vRA (And.intro vRA ?_))
         first | refine WeakS.autoR ?_ | refine Weak.autoR ?_
         conv => whnf
         repeat' ((first | refine z1 ?_ | refine z2 ?_ | refine zV ?_ | refine And.intro vRepl ?_ | refine And.intro vReplL ?_ | refine And.intro ?_ ?_ | exact trivial) <;> try (conv => whnf))
         exact rows_congr (rt_congr (fun n hn => Ag.of_eq (by rw [mix_c, if_pos vRA])))
     · refine Exists.intro (i + 1) (And.intro vRA (And.intro vRA ?_))
       first | refine WeakS.autoR ?_ | refine Weak.autoR ?_
       conv => whnf
       repeat' ((first | refine z1 ?_ | refine z2 ?_ | refine zV ?_ | refine And.intro vRepl ?_ | refine And.intro vReplL ?_ | refine And.intro ?_ ?_ | exact trivial) <;> try (conv => whnf))
       rw [puP_row _ _ _ _ _ _ (show j = N - i from vRA)]
   · rw [show i = N from vRA]
     rfl
end Go.Proofs
