import Derived.Test.YthpbaehnkmmkgaaGreatK58
namespace Go.Proofs
open Go Go.Vm Go.Fg Go.Fg.PS
set_option maxRecDepth 100000
set_option maxHeartbeats 4000000
set_option linter.unusedSimpArgs false
set_option linter.unusedVariables false
variable {m : Int}
theorem frT_succ (k : Nat) (ρ : PS (Zm m)) (N : Nat) (f : PS (PS (Zm m))) (a : PS (Zm m)) (i : Nat) : frT k ρ N f a (i + 1) = puS k ρ N f (frT k ρ N f a i) (cuR k ρ (tnI k ρ i 1) a) := rfl
theorem tnI_succ (k : Nat) (ρ b : PS (Zm m)) (i : Nat) : tnI k ρ (i + 1) b = tnR k ρ (tnI k ρ i b) := rfl
theorem c_frobenius (hm : Md m) (o o1 p1 : Bool) (n : Nat) (hn : 2 ≤ n ∧ n ≤ 5) (N : Nat) (hN : 1 ≤ N ∧ N ≤ 100) (f : PS (PS (Zm m))) (a : PS (Zm m)) :
   PureCall Tryz.prog 337 [.agg [dint m, .list o1 1 (rows p1 (Tb N f))], SerD m o N a, dint n] (SerD m true ((N - 1) / n + 1) ⟨fun i => ((frT (kN n) (rd m (rlN n)) N f a n).c (i * n)).c 0⟩) := by
 have hm1 := hm.1
 have hm2 := hm.2
 have hk0 := rlN_ok hn
 have hcy : PureCall Tryz.prog 411 [dint n] (.list true 1 (ints (rlN n))) := by
   rcases (show n = 2 ∨ n = 3 ∨ n = 4 ∨ n = 5 by omega) with rfl | rfl | rfl | rfl
   all_goals
     refine pure_of_vcR Tryz.tabOk mixOrd Tryz.func411 rfl rfl ?_
     conv => whnf
     repeat' first | ((first | refine z0 ?_ | (refine And.intro (fun h => ?_) (fun h => ?_) <;> (try simp only [cnt1, ints_length] at h) <;> first | (exfalso; omega) | skip) | refine zS ?_ | refine zV ?_ | (apply zI; refine zP vObt ?_) | (apply zI; refine zP vObx ?_) | refine zA ?_ | refine And.intro (ints_plain [-1]) ?_ | refine And.intro (ints_plain [-1, -1]) ?_ | refine And.intro (ints_plain [-1, 0]) ?_ | refine And.intro (ints_plain [-1, -1, -1, -1]) ?_ | refine Alt.fst ?_ | refine Or.inl ?_) <;> conv => whnf) | fail
     all_goals rfl
 obtain ⟨hrl, hk1, hk4, hr⟩ := id hk0
 generalize hkk : kN n = k at *
 generalize hrr : rlN n = rl at *
 refine pure_of_vcR Tryz.tabOk mixOrd Tryz.func337 rfl rfl ?_
 conv => whnf
 repeat' first | ((first | refine z0 ?_ | (apply zI; refine zP (hcy) ?_) | (refine And.intro (fun h => ?_) (fun h => ?_) <;> (try simp only [cnt1, ints_length] at h)) | refine zS ?_ | refine zV ?_ | (apply zI; refine zP vObt ?_) | (apply zI; refine zP vObx ?_) | refine zA ?_ | refine Alt.fst ?_ | refine Or.inl ?_) <;> conv => whnf) | fail
 refine loop_atR Tryz.tabOk mixOrd (α := Nat) (fun i => [(25, dint i), (8, .ref 5 [] 1 0 i), (21, .undef)]) (fun i => [(5, some ⟨false, 1, rows true (sqP k i (0 : PS (PS (Zm m))))⟩)]) (fun i => i ≤ N) (fun i => N - i) (0) ?_ ?_ ?_
 · omega
 · conv => whnf
   first | refine WeakS.autoR ?_ | refine Weak.autoR ?_
   conv => whnf
   repeat' ((first | refine z1 ?_ | refine z2 ?_ | refine zV ?_ | refine And.intro vRepl ?_ | refine And.intro vReplL ?_ | refine And.intro ?_ ?_ | exact trivial) <;> try (conv => whnf))
 intro i hi
 conv => whnf
 repeat' first | ((first | refine z0 ?_ | (apply zI; refine zP (c_whNumber hm _ rl hk0 0 (C := 0) (by rw [Zm.val_zero])) ?_) | (apply zI; refine zP (c_whNumber hm _ rl hk0 1 (C := 1) (by rw [Zm.val_one (by omega)])) ?_) | (refine And.intro (fun h => ?_) (fun h => ?_) <;> (try simp only [cnt1, ints_length] at h)) | refine zS ?_ | refine zV ?_ | (apply zI; refine zP vObt ?_) | (apply zI; refine zP vObx ?_) | refine zA ?_ | refine And.intro (vRA) ?_ | refine And.intro (one_in _) ?_ | refine And.intro (rows_plain _) ?_ | refine Alt.fst ?_ | refine Or.inl ?_) <;> conv => whnf) | fail
 · refine Exists.intro (i + 1) (And.intro vRA (And.intro vRA ?_))
   first | refine WeakS.autoR ?_ | refine Weak.autoR ?_
   conv => whnf
   repeat' ((first | refine z1 ?_ | refine z2 ?_ | refine zV ?_ | refine And.intro vRepl ?_ | refine And.intro vReplL ?_ | refine And.intro ?_ ?_ | exact trivial) <;> try (conv => whnf))
   exact rows_congr (sqP_push (by rw [PS.C_zero]; rfl))
 · have hiN : i = N := vRA
   rw [hiN]
   have hT : PureCall Tryz.prog 167 [SerD m o N a] (dint (N - 1)) := c_degreeS _ _ vAr _
   refine loop_atR Tryz.tabOk mixOrd (α := Nat) (fun q => [(36, dint q), (8, .ref 5 [] 1 0 N), (9, .ref 6 [] 1 0 k), (34, .undef), (10, .undef), (11, .undef), (13, .undef)]) (fun q => [(5, some ⟨false, 1, rows true (sqP k N (frT k (rd m rl) N f a q))⟩), (6, some ⟨false, 1, ints (L k (tnI k (rd m rl) q 1))⟩)]) (fun q => q ≤ n) (fun q => n - q) (0) ?_ ?_ ?_
   · omega
   · conv => whnf
     first | refine WeakS.autoR ?_ | refine Weak.autoR ?_
     conv => whnf
     repeat' ((first | refine z1 ?_ | refine z2 ?_ | refine zV ?_ | refine And.intro vRepl ?_ | refine And.intro vReplL ?_ | refine And.intro ?_ ?_ | exact trivial) <;> try (conv => whnf))
     all_goals first
       | rfl
       | (rw [cnt1, ints_length, L_length]; done)
       | skip
   intro q hq
   conv => whnf
   repeat' first | ((first | refine z0 ?_ | (apply zI; refine zP (c_whNumber hm _ rl hk0 0 (C := 0) (by rw [Zm.val_zero])) ?_) | (apply zI; refine zP (c_whNumber hm _ rl hk0 1 (C := 1) (by rw [Zm.val_one (by omega)])) ?_) | (refine And.intro (fun h => ?_) (fun h => ?_) <;> (try simp only [cnt1, ints_length] at h)) | refine zS ?_ | refine zV ?_ | (apply zI; refine zP vObt ?_) | (apply zI; refine zP vObx ?_) | refine zA ?_ | refine And.intro (vRA) ?_ | refine Alt.fst ?_ | refine Or.inl ?_) <;> conv => whnf) | fail
   · have hq' : q < n := vRA
     generalize hs : tnI k (rd m rl) q 1 = s at *
     refine loop_atR Tryz.tabOk mixOrd (α := Nat) (fun j => [(44, dint j), (10, .ref 7 [] 1 0 j), (11, .ref 8 [] 1 0 k), (38, .undef), (40, .undef), (13, .undef)]) (fun j => [(7, some ⟨false, 1, rows true (sqP k j (cuR k (rd m rl) s a))⟩), (8, some ⟨false, 1, ints (L k (spR k (rd m rl) s j))⟩)]) (fun j => j ≤ N) (fun j => N - j) (0) ?_ ?_ ?_
     · omega
     · conv => whnf
       first | refine WeakS.autoR ?_ | refine Weak.autoR ?_
       conv => whnf
       repeat' ((first | refine z1 ?_ | refine z2 ?_ | refine zV ?_ | refine And.intro vRepl ?_ | refine And.intro vReplL ?_ | refine And.intro ?_ ?_ | exact trivial) <;> try (conv => whnf))
       all_goals first
         | rfl
         | (rw [cnt1, ints_length, L_length]; done)
         | skip
     intro j hj
     conv => whnf
     repeat' first | ((first | refine z0 ?_ | (apply zI; refine zP (c_whNumber hm _ rl hk0 (a.c j) rfl) ?_) | (apply zI; refine zP (c_whTimes hm _ _ _ rl hk0 (spR k (rd m rl) s j) (PS.C (a.c j))) ?_) | (apply zI; refine zP (c_whTimes hm _ _ _ rl hk0 (spR k (rd m rl) s j) s) ?_) | (apply zI; refine zP (sub_rt vRA (Nat.le_refl _)) ?_) | (refine And.intro (fun h => ?_) (fun h => ?_) <;> (try simp only [cnt1, ints_length] at h)) | refine zS ?_ | refine zV ?_ | (apply zI; refine zP vObt ?_) | (apply zI; refine zP vObx ?_) | refine zA ?_ | refine And.intro (vRA) ?_ | refine And.intro (one_in _) ?_ | refine And.intro (rows_plain _) ?_ | refine Alt.fst ?_ | refine Or.inl ?_) <;> conv => whnf) | fail
     · have hj' : j < N := vRA
       refine Exists.intro (j + 1) (And.intro vRA (And.intro vRA ?_))
       first | refine WeakS.autoR ?_ | refine Weak.autoR ?_
       conv => whnf
       repeat' ((first | refine z1 ?_ | refine z2 ?_ | refine zV ?_ | refine And.intro vRepl ?_ | refine And.intro vReplL ?_ | refine And.intro ?_ ?_ | exact trivial) <;> try (conv => whnf))
       all_goals first
         | (exact rows_congr (sqP_push (L_congr (fun l hl => rtM_C _ _ _ _ hl))))
         | (rw [cnt1, ints_length, L_length]; done)
         | rfl
         | skip
     · rw [show j = N from vRA]
       repeat' first | ((first | refine z0 ?_ | (apply zI; refine zP (c_whSum hm _ _ _ _ _ _ _ rl hk0 N hN f (frT k (rd m rl) N f a q) (cuR k (rd m rl) s a)) ?_) | (apply zI; refine zP (c_whTurned hm _ _ rl hk0 s) ?_) | (apply zI; refine zP (sub_rt vRA (Nat.le_refl _)) ?_) | (refine And.intro (fun h => ?_) (fun h => ?_) <;> (try simp only [cnt1, ints_length] at h)) | refine zS ?_ | refine zV ?_ | (apply zI; refine zP vObt ?_) | (apply zI; refine zP vObx ?_) | refine zA ?_ | refine And.intro (vRA) ?_ | refine Alt.fst ?_ | refine Or.inl ?_) <;> conv => whnf) | fail
       refine Exists.intro (q + 1) (And.intro vRA (And.intro vRA ?_))
       first | refine WeakS.autoR ?_ | refine Weak.autoR ?_
       conv => whnf
       repeat' ((first | refine z1 ?_ | refine z2 ?_ | refine zV ?_ | refine And.intro vRepl ?_ | refine And.intro vReplL ?_ | refine And.intro ?_ ?_ | exact trivial) <;> try (conv => whnf))
       all_goals first
         | (rw [cnt1, ints_length, L_length]; done)
         | (rw [cnt1, rows_length, sqP_length]; done)
         | exact rows_congr (congrArg (sqP k N) (by rw [← hs]; exact (frT_succ _ _ _ _ _ _).symm))
         | exact ints_congr' (congrArg (L k) (by rw [← hs]; exact (tnI_succ _ _ _ _).symm))
   · have hqn : q = n := vRA
     rw [hqn]
     have hz : ((N : Int) - 1).tdiv n = (((N - 1) / n : Nat) : Int) := by
       rw [Int.tdiv_eq_ediv_of_nonneg (by omega), show (N : Int) - 1 = ((N - 1 : Nat) : Int) by omega]
       exact (Int.natCast_ediv _ _).symm
     have hlt : (N - 1) / n ≤ N - 1 := Nat.div_le_self (N - 1) n
     have hKn : (N - 1) / n * n ≤ N - 1 := Nat.div_mul_le_self _ _
     generalize (N - 1) / n = K at *
     have hc0 : PureCall Tryz.prog 216 [dint m, dint (((N : Int) - 1).tdiv n)] (SerD m true (K + 1) (0 : PS (Zm m))) := c_zero (K + 1) (by rw [hz]; omega) (by omega)
     have hir : inR .i64 (((N : Int) - 1).tdiv n) := inR64 (by rw [hz]; omega) (by rw [hz]; omega)
     have hn0 : (n : Int) ≠ 0 := by omega
     generalize frT k (rd m rl) N f a n = F at *
     repeat' first | ((first | refine z0 ?_ | (apply zI; refine zP (hT) ?_) | (apply zI; refine zP (hc0) ?_) | (refine And.intro (fun h => ?_) (fun h => ?_) <;> (try simp only [cnt1, ints_length] at h)) | refine zS ?_ | refine zV ?_ | (apply zI; refine zP vObt ?_) | (apply zI; refine zP vObx ?_) | refine zA ?_ | refine And.intro (hir) ?_ | refine And.intro (hn0) ?_ | refine Alt.fst ?_ | refine Or.inl ?_) <;> conv => whnf) | fail
     refine loop_atR Tryz.tabOk mixOrd (α := Nat) (fun i => [(81, dint i)]) (fun i => [(9, some ⟨false, 1, ints (L (K + 1) (mix i (⟨fun i => (F.c (i * n)).c 0⟩ : PS (Zm m)) 0))⟩)]) (fun i => i ≤ K + 1) (fun i => K + 1 - i) (0) ?_ ?_ ?_
     · omega
     · conv => whnf
       first | refine WeakS.autoR ?_ | refine Weak.autoR ?_
       conv => whnf
       repeat' ((first | refine z1 ?_ | refine z2 ?_ | refine zV ?_ | refine And.intro vRepl ?_ | refine And.intro vReplL ?_ | refine And.intro ?_ ?_ | exact trivial) <;> try (conv => whnf))
       all_goals rw [mix_zero]
     intro i hi
     conv => whnf
     have hin : i ≤ K → i * n < N := fun h => by
       have := Nat.mul_le_mul_right n h
       omega
     have hcast : (i : Int) * (n : Int) = ((i * n : Nat) : Int) := (Int.natCast_mul i n).symm
     have htn : ((i : Int) * (n : Int)).toNat = i * n := by rw [hcast]; rfl
     have hrng : i ≤ K → inR .i64 ((i : Int) * (n : Int)) := fun h => by
       have := hin h
       rw [hcast]
       exact inR64 (by omega) (by omega)
     have hix : i ≤ K → 0 ≤ (i : Int) * (n : Int) ∧ (i : Int) * (n : Int) < (cnt 1 (rows true (sqP k N F)) : Nat) := fun h => by
       have := hin h
       rw [hcast, cnt1, rows_length, sqP_length]; omega
     repeat' first | ((first | refine z0 ?_ | (apply zI; refine zP (vRtC (i := i * n) (by rw [htn]; exact vIx) (hin vRA)) ?_) | (apply zI; refine zP (vRtL (i := i * n) (by rw [htn]; exact vIx) (hin vRA)) ?_) | (apply zI; refine zP (vRtLL (i := i * n) (j := 0) (by rw [htn]; exact vIx) vIx (hin vRA) vRA) ?_) | (refine And.intro (fun h => ?_) (fun h => ?_) <;> (try simp only [cnt1, ints_length] at h)) | refine zS ?_ | refine zV ?_ | (apply zI; refine zP vObt ?_) | (apply zI; refine zP vObx ?_) | refine zA ?_ | refine And.intro (hrng vRA) ?_ | refine And.intro (hix vRA) ?_ | refine And.intro (vRA) ?_ | refine Alt.fst ?_ | refine Or.inl ?_) <;> conv => whnf) | fail
     · refine Exists.intro (i + 1) (And.intro vRA (And.intro vRA ?_))
       first | refine WeakS.autoR ?_ | refine Weak.autoR ?_
       conv => whnf
       repeat' ((first | refine z1 ?_ | refine z2 ?_ | refine zV ?_ | refine And.intro vRepl ?_ | refine And.intro vReplL ?_ | refine And.intro ?_ ?_ | exact trivial) <;> try (conv => whnf))
       exact ints_congr' (mix_set hm _ _ rfl)
     · rw [mix_full _ _ (show K + 1 ≤ i from vRA)]
end Go.Proofs
