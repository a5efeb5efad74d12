import Derived.Test.YthpbaehnkmmkgaaGreatK60
namespace Go.Proofs
open Go Go.Vm Go.Fg Go.Fg.PS
set_option maxRecDepth 100000
set_option maxHeartbeats 4000000
set_option linter.unusedSimpArgs false
set_option linter.unusedVariables false
variable {m : Int}
theorem c_l12Put (hm : Md m) (o o1 o2 o3 p1 p2 p3 : Bool) (k : Nat) (hk : 1 ≤ k ∧ k ≤ 4) (φ ρ : PS (Zm m)) (hf : FlP k φ ρ) (N : Nat) (hN : 1 ≤ N ∧ N ≤ 100) (f a b : PS (PS (Zm m))) :
   PureCall Tryz.prog 418 [dint m, LD o k φ, .list o1 1 (rows p1 (Tb N f)), RtD o2 p2 k N a, RtD o3 p3 k N b] (RtD true true k N (puS k ρ N f a b)) := by
 have hm1 := hm.1
 have hm2 := hm.2
 refine pure_of_vcR Tryz.tabOk mixOrd Tryz.func418 rfl rfl ?_
 conv => whnf
 repeat' first | ((first | refine z0 ?_ | (apply zI; refine zP (c_l12Powers hm _ _ _ k hk φ ρ hf N hN a) ?_) | (apply zI; refine zP (c_l12Powers hm _ _ _ k hk φ ρ hf N hN b) ?_) | (apply zI; refine zP (c_l12Zero _ k hk φ N hN vRA) ?_) | (refine And.intro (fun h => ?_) (fun h => ?_) <;> (try simp only [cnt1, ints_length] at h)) | refine zS ?_ | refine zV ?_ | (apply zI; refine zP vObt ?_) | (apply zI; refine zP vObx ?_) | refine zA ?_ | refine And.intro (inR64 vRA vRA) ?_ | refine Alt.fst ?_ | refine Or.inl ?_) <;> conv => whnf) | fail
 refine loop_atR Tryz.tabOk mixOrd (α := Nat) (fun i => [(15, dint i), (17, .undef), (42, .undef), (50, .undef), (60, .undef), (64, .undef), (65, .undef)]) (fun i => [(2, some ⟨false, 1, rows true (sqP k N (puP k ρ N f a b i 0))⟩)]) (fun i => i ≤ N) (fun i => N - i) (0) ?_ ?_ ?_
 · omega
 · conv => whnf
   first | refine WeakS.autoR ?_ | refine Weak.autoR ?_
   conv => whnf
   repeat' ((first | refine z1 ?_ | refine z2 ?_ | refine zV ?_ | refine And.intro vRepl ?_ | refine And.intro vReplL ?_ | refine And.intro ?_ ?_ | exact trivial) <;> try (conv => whnf))
   all_goals rw [puP_zero]
 intro i hi
 conv => whnf
 repeat' first | ((first | refine z0 ?_ | (refine And.intro (fun h => ?_) (fun h => ?_) <;> (try simp only [cnt1, ints_length] at h)) | refine zS ?_ | refine zV ?_ | (apply zI; refine zP vObt ?_) | (apply zI; refine zP vObx ?_) | refine zA ?_ | refine And.intro (vRA) ?_ | refine Alt.fst ?_ | refine Or.inl ?_) <;> conv => whnf) | fail
 · have hi' : i < N := vRA
   refine loop_atR Tryz.tabOk mixOrd (α := Nat) (fun j => [(16, dint j), (17, .undef), (42, .undef), (50, .undef), (60, .undef), (64, .undef), (65, .undef)]) (fun j => [(2, some ⟨false, 1, rows true (sqP k N (puP k ρ N f a b i j))⟩)]) (fun j => j ≤ N - i) (fun j => N - j) (0) ?_ ?_ ?_
   · omega
   · conv => whnf
     first | refine WeakS.autoR ?_ | refine Weak.autoR ?_
     conv => whnf
     repeat' ((first | refine z1 ?_ | refine z2 ?_ | refine zV ?_ | refine And.intro vRepl ?_ | refine And.intro vReplL ?_ | refine And.intro ?_ ?_ | exact trivial) <;> try (conv => whnf))
   intro j hj
   conv => whnf
   repeat' first | ((first | refine z0 ?_ | (apply zI; refine zP (vTgL i vIx vRA) ?_) | (apply zI; refine zP (vTgG i vIx vRA) ?_) | (apply zI; refine zP (vTgL j vIx vRA) ?_) | (apply zI; refine zP (vTgG j vIx vRA) ?_) | (apply zI; refine zP (sub_rt vRA (Nat.le_refl _)) ?_) | (apply zI; refine zP (c_l12Times hm _ _ _ _ _ k hk φ ρ hf N hN (pwR k ρ N a i) (pwR k ρ N b j)) ?_) | (refine And.intro (fun h => ?_) (fun h => ?_) <;> (try simp only [cnt1, ints_length] at h)) | refine zS ?_ | refine zV ?_ | (apply zI; refine zP vObt ?_) | (apply zI; refine zP vObx ?_) | refine zA ?_ | refine And.intro (vTgIx vRA) ?_ | refine And.intro (vRA) ?_ | refine Alt.fst ?_ | refine Or.inl ?_) <;> conv => whnf) | fail
   · have he := Zm.val_eq_zero.1 h
     refine Exists.intro (j + 1) (And.intro vRA (And.intro vRA ?_))
     first | refine WeakS.autoR ?_ | refine Weak.autoR ?_
     conv => whnf
     repeat' ((first | refine z1 ?_ | refine z2 ?_ | refine zV ?_ | refine And.intro vRepl ?_ | refine And.intro vReplL ?_ | refine And.intro ?_ ?_ | exact trivial) <;> try (conv => whnf))
     rw [puP_skip _ _ _ _ _ _ _ _ he]
   · have hj' : j < N - i := vRA
     refine loop_atR Tryz.tabOk mixOrd (α := Nat) (fun q => [(18, dint q), (77, .undef), (91, .undef), (90, .undef)]) (fun q => [(2, some ⟨false, 1, rows true (sqP k N (mix q (puP k ρ N f a b i (j + 1)) (puP k ρ N f a b i j)))⟩)]) (fun q => q ≤ N) (fun q => N - q) (0) ?_ ?_ ?_
     · omega
     · conv => whnf
       first | refine WeakS.autoR ?_ | refine Weak.autoR ?_
       conv => whnf
       repeat' ((first | refine z1 ?_ | refine z2 ?_ | refine zV ?_ | refine And.intro vRepl ?_ | refine And.intro vReplL ?_ | refine And.intro ?_ ?_ | exact trivial) <;> try (conv => whnf))
       all_goals rw [mix_zero]
     intro q hq
     conv => whnf
     repeat' first | ((first | refine z0 ?_ | (apply zI; refine zP (vRtC (i := q) vIx vRA) ?_) | (apply zI; refine zP (vRtL (i := q) vIx vRA) ?_) | (apply zI; refine zP (vRtG (i := q) vIx vRA) ?_) | (apply zI; refine zP (c_l02Scale hm _ k vRA ((f.c i).c j) _) ?_) | (apply zI; refine zP (c_l02Add hm _ _ k vRA _ _) ?_) | refine move_of ?_ | (apply zI; refine zP (rows_set _ _ _ _) ?_) | (refine And.intro (fun h => ?_) (fun h => ?_) <;> (try simp only [cnt1, ints_length] at h)) | refine zS ?_ | refine zV ?_ | (apply zI; refine zP vObt ?_) | (apply zI; refine zP vObx ?_) | refine zA ?_ | refine And.intro (rtIx vRA) ?_ | refine And.intro (vRA) ?_ | refine Alt.fst ?_ | refine Or.inl ?_) <;> conv => whnf) | fail
     · have hq' : q < N := vRA
       refine Exists.intro (q + 1) (And.intro vRA (And.intro vRA ?_))
       first | refine WeakS.autoR ?_ | refine Weak.autoR ?_
       conv => whnf
       repeat' ((first | refine z1 ?_ | refine z2 ?_ | refine zV ?_ | refine And.intro vRepl ?_ | refine And.intro vReplL ?_ | refine And.intro ?_ ?_ | exact trivial) <;> try (conv => whnf))
       refine rows_congr ?_
       rw [show place 1 0 ((q : Int)).toNat = q from vIx, rt_set _ _ hq', mix_c, if_neg (by omega), mix_succ, puP_step]
       refine rt_congr (fun n hn l hl => ?_)
       rw [upd_c, upd_c]
       split
       · rename_i e
         subst e
         rw [add_c, add_c, add_c, CC_cc, C_mul]
       · rfl
     · refine Exists.intro (j + 1) (And.intro vRA (And.intro vRA ?_))
       first | refine WeakS.autoR ?_ | refine Weak.autoR ?_
       conv => whnf
       repeat' ((first | refine z1 ?_ | refine z2 ?_ | refine zV ?_ | refine And.intro vRepl ?_ | refine And.intro vReplL ?_ | refine And.intro ?_ ?_ | exact trivial) <;> try (conv => whnf))
       exact rows_congr (rt_congr (fun n hn => Ag.of_eq (by rw [mix_c, if_pos vRA])))
   · refine Exists.intro (i + 1) (And.intro vRA (And.intro vRA ?_))
     first | refine WeakS.autoR ?_ | refine Weak.autoR ?_
     conv => whnf
     repeat' ((first | refine z1 ?_ | refine z2 ?_ | refine zV ?_ | refine And.intro vRepl ?_ | refine And.intro vReplL ?_ | refine And.intro ?_ ?_ | exact trivial) <;> try (conv => whnf))
     rw [puP_row _ _ _ _ _ _ (show j = N - i from vRA)]
 · rw [show i = N from vRA]
   rfl
theorem c_l12Turned (hm : Md m) (o o1 : Bool) (k : Nat) (hk : 1 ≤ k ∧ k ≤ 4) (φ ρ : PS (Zm m)) (hf : FlP k φ ρ) (hρ : k = 1 → ρ.c 0 = -1) (N : Nat) (hN : 1 ≤ N ∧ N ≤ 100) (a : PS (Zm m)) (q : Nat) (hq : q ≤ 5) {Q : Int} (hQ : Q = q) :
   PureCall Tryz.prog 419 [dint m, LD o k φ, LD o1 N a, dint Q] (RtD true true k N (cuR k ρ (tnI k ρ q 1) a)) := by
 have hm1 := hm.1
 have hm2 := hm.2
 subst hQ
 refine pure_of_vcR Tryz.tabOk mixOrd Tryz.func419 rfl rfl ?_
 conv => whnf
 have hL1 : (List.replicate k (0 : Int)).set 0 1 = L k (1 : PS (Zm m)) := by
   rw [← L_zero (m := m)]
   exact L_set_eq (1 : Zm m) (Zm.val_one (by omega)).symm (fun j hj => by rw [upd_c, PS.one_c]; split <;> rfl)
 have hR1 : k = 1 → (List.replicate k (0 : Int)).set 0 (m - 1) = L k (tnR k ρ 1) := fun hk1 => by
   rw [← L_zero (m := m)]
   refine L_set_eq (-1 : Zm m) ?_ (fun j hj => ?_)
   · rw [← em_neg, Zm.val_one (by omega), show (0 : Int) - 1 = (m - 1) + m * (-1) by omega, Int.add_mul_emod_self_left, Int.emod_eq_of_lt (by omega) (by omega)]
   · rw [upd_c, if_pos (by omega), tnR_c, if_pos hj, if_pos (by omega), PS.one_c, if_pos (by omega), show j = 0 by omega, hρ hk1, CR.one_mul, CR.zero_add]
 have hR2 : k ≠ 1 → (List.replicate k (0 : Int)).set 1 1 = L k (tnR k ρ 1) := fun hk1 => by
   rw [← L_zero (m := m)]
   refine L_set_eq (1 : Zm m) (Zm.val_one (by omega)).symm (fun j hj => ?_)
   rw [upd_c, tnR_c, if_pos hj, PS.one_c, PS.one_c, if_neg (show ¬ k - 1 = 0 by omega), Go.Fg.zero_mul, Go.Fg.add_zero]
   by_cases h0 : j = 0
   · rw [if_pos h0, if_neg (by omega)]; rfl
   · rw [if_neg h0]
     by_cases h1 : j = 1
     · rw [if_pos h1, if_pos (by omega)]
     · rw [if_neg h1, if_neg (by omega)]; rfl
 repeat' first | ((first | refine z0 ?_ | (refine And.intro (fun h => ?_) (fun h => ?_) <;> (try simp only [cnt1, ints_length] at h) <;> first | (exfalso; omega) | skip) | refine zS ?_ | refine zV ?_ | (apply zI; refine zP vObt ?_) | (apply zI; refine zP vObx ?_) | refine zA ?_ | refine Alt.fst ?_ | refine Or.inl ?_) <;> conv => whnf) | fail
 all_goals
   refine loop_atR Tryz.tabOk mixOrd (α := Nat) (fun r => [(3, dint ((q : Int) - r)), (10, .ref 1 [] 1 0 k), (17, .undef), (23, .undef), (24, .undef), (43, .undef), (45, .undef)]) (fun r => [(1, some ⟨false, 1, ints (L k (tnI k ρ r 1))⟩), (2, some ⟨false, 1, ints (L k (1 : PS (Zm m)))⟩), (3, some ⟨false, 1, ints (L k (tnR k ρ 1))⟩)]) (fun r => r ≤ q) (fun r => q - r) (0) ?_ ?_ ?_
   · omega
   · conv => whnf
     first | refine WeakS.autoR ?_ | refine Weak.autoR ?_
     conv => whnf
     repeat' ((first | refine z1 ?_ | refine z2 ?_ | refine zV ?_ | refine And.intro vRepl ?_ | refine And.intro vReplL ?_ | refine And.intro ?_ ?_ | exact trivial) <;> try (conv => whnf))
     all_goals first
       | (rw [hL1]; done)
       | (exact congrArg (fun x => [D.list true 1 (ints x)]) (hR1 (by simp only [L_length] at h; omega)))
       | (exact congrArg (fun x => [D.list true 1 (ints x)]) (hR2 (by simp only [L_length] at h; omega)))
       | (exact ints_congr' hL1)
       | (exact ints_congr' (hR1 (by simp only [L_length] at h; omega)))
       | (exact ints_congr' (hR2 (by simp only [L_length] at h; omega)))
       | skip
   intro r hr
   conv => whnf
   repeat' first | ((first | refine z0 ?_ | (apply zI; refine zP (c_l12Product hm _ _ _ k hk φ ρ (tnI k ρ r 1) (tnR k ρ 1) hf) ?_) | (refine And.intro (fun h => ?_) (fun h => ?_) <;> (try simp only [cnt1, ints_length] at h)) | refine zS ?_ | refine zV ?_ | (apply zI; refine zP vObt ?_) | (apply zI; refine zP vObx ?_) | refine zA ?_ | refine Alt.fst ?_ | refine Or.inl ?_) <;> conv => whnf) | fail
   · have hr' : r < q := by omega
     refine Exists.intro (r + 1) (And.intro vRA (And.intro vRA ?_))
     first | refine WeakS.autoR ?_ | refine Weak.autoR ?_
     conv => whnf
     repeat' ((first | refine z1 ?_ | refine z2 ?_ | refine zV ?_ | refine And.intro vRepl ?_ | refine And.intro vReplL ?_ | refine And.intro ?_ ?_ | exact trivial) <;> try (conv => whnf))
     all_goals first
       | (exact ints_congr' (L_congr (fun j hj => (rtM_root k ρ _ hj))))
       | (exact eqV_int (by omega))
       | skip
   · have hrq : r = q := by omega
     rw [hrq]
     generalize tnI k ρ q 1 = s at *
     repeat' first | ((first | refine z0 ?_ | (refine And.intro (fun h => ?_) (fun h => ?_) <;> (try simp only [cnt1, ints_length] at h)) | refine zS ?_ | refine zV ?_ | (apply zI; refine zP vObt ?_) | (apply zI; refine zP vObx ?_) | refine zA ?_ | refine Alt.fst ?_ | refine Or.inl ?_) <;> conv => whnf) | fail
     refine loop_atR Tryz.tabOk mixOrd (α := Nat) (fun j => [(13, dint j), (9, .ref 0 [] 1 0 j), (11, .ref 2 [] 1 0 k), (14, .undef), (20, .undef), (21, .undef), (22, .undef), (58, .undef), (59, .undef), (60, .undef), (64, .undef), (66, .undef)]) (fun j => [(0, some ⟨false, 1, rows true (sqP k j (cuR k ρ s a))⟩), (2, some ⟨false, 1, ints (L k (spR k ρ s j))⟩)]) (fun j => j ≤ N) (fun j => N - j) (0) ?_ ?_ ?_
     · omega
     · conv => whnf
       first | refine WeakS.autoR ?_ | refine Weak.autoR ?_
       conv => whnf
       repeat' ((first | refine z1 ?_ | refine z2 ?_ | refine zV ?_ | refine And.intro vRepl ?_ | refine And.intro vReplL ?_ | refine And.intro ?_ ?_ | exact trivial) <;> try (conv => whnf))
     intro j hj
     conv => whnf
     repeat' first | ((first | refine z0 ?_ | (apply zI; refine zP (c_l02Scale hm _ k vRA (a.c j) _) ?_) | (apply zI; refine zP (c_l12Product hm _ _ _ k hk φ ρ (spR k ρ s j) s hf) ?_) | (refine And.intro (fun h => ?_) (fun h => ?_) <;> (try simp only [cnt1, ints_length] at h)) | refine zS ?_ | refine zV ?_ | (apply zI; refine zP vObt ?_) | (apply zI; refine zP vObx ?_) | refine zA ?_ | refine And.intro (vRA) ?_ | refine And.intro (one_in _) ?_ | refine And.intro (rows_plain _) ?_ | refine Alt.fst ?_ | refine Or.inl ?_) <;> conv => whnf) | fail
     · have hj' : j < N := vRA
       refine Exists.intro (j + 1) (And.intro vRA (And.intro vRA ?_))
       first | refine WeakS.autoR ?_ | refine Weak.autoR ?_
       conv => whnf
       repeat' ((first | refine z1 ?_ | refine z2 ?_ | refine zV ?_ | refine And.intro vRepl ?_ | refine And.intro vReplL ?_ | refine And.intro ?_ ?_ | exact trivial) <;> try (conv => whnf))
       all_goals first
         | (exact rows_congr (sqP_push rfl))
         | rfl
         | skip
     · rw [show j = N from vRA]
theorem c_l12Frobenius (hm : Md m) (o o1 p1 : Bool) (n : Nat) (hn : 2 ≤ n ∧ n ≤ 5) (N : Nat) (hN : 1 ≤ N ∧ N ≤ 100) (f : PS (PS (Zm m))) (a : PS (Zm m)) {Q : Int} (hQ : Q = n) :
   PureCall Tryz.prog 339 [dint m, .list o1 1 (rows p1 (Tb N f)), LD o N a, dint Q] (LD true ((N - 1) / n + 1) ⟨fun i => ((frT (kN n) (rd m (rlN n)) N f a n).c (i * n)).c 0⟩) := by
 subst hQ
 have hm1 := hm.1
 have hm2 := hm.2
 have hk := kN_le hn
 have hf : FlP (m := m) (kN n) (rd m (flN n)) (rd m (rlN n)) := FlP_n hn
 have hρ : kN n = 1 → (rd m (rlN n)).c 0 = -1 := by
   rcases (show n = 2 ∨ n = 3 ∨ n = 4 ∨ n = 5 by omega) with rfl | rfl | rfl | rfl
   · intro _; rw [rd_c]; exact Zm.mk_neg 1
   all_goals (intro h; simp [kN] at h)
 have hfl := c_l12Field n hn hm
 generalize kN n = k at *
 generalize rd m (rlN n) = ρ at *
 generalize rd m (flN n) = φ at *
 refine pure_of_vcR Tryz.tabOk mixOrd Tryz.func339 rfl rfl ?_
 conv => whnf
 repeat' first | ((first | refine z0 ?_ | (apply zI; refine zP (hfl) ?_) | (apply zI; refine zP (c_l12Zero _ k hk φ N hN vRA) ?_) | (refine And.intro (fun h => ?_) (fun h => ?_) <;> (try simp only [cnt1, ints_length] at h)) | refine zS ?_ | refine zV ?_ | (apply zI; refine zP vObt ?_) | (apply zI; refine zP vObx ?_) | refine zA ?_ | refine And.intro (inR64 vRA vRA) ?_ | refine Alt.fst ?_ | refine Or.inl ?_) <;> conv => whnf) | fail
 refine loop_atR Tryz.tabOk mixOrd (α := Nat) (fun i => [(11, dint i), (10, .ref 1 [] 1 0 N), (20, .undef), (29, .undef), (34, .undef), (35, .undef)]) (fun i => [(1, some ⟨false, 1, rows true (sqP k N (frT k ρ N f a i))⟩)]) (fun i => i ≤ n) (fun i => n - i) (0) ?_ ?_ ?_
 · omega
 · conv => whnf
   first | refine WeakS.autoR ?_ | refine Weak.autoR ?_
   conv => whnf
   repeat' ((first | refine z1 ?_ | refine z2 ?_ | refine zV ?_ | refine And.intro vRepl ?_ | refine And.intro vReplL ?_ | refine And.intro ?_ ?_ | exact trivial) <;> try (conv => whnf))
   all_goals first
     | rfl
     | (rw [cnt1, rows_length, sqP_length]; done)
     | skip
 intro i hi
 conv => whnf
 repeat' first | ((first | refine z0 ?_ | (apply zI; refine zP (c_l12Turned hm _ _ k hk φ ρ hf hρ N hN a i (by omega) rfl) ?_) | (apply zI; refine zP (c_l12Put hm _ _ _ _ _ _ _ k hk φ ρ hf N hN f (frT k ρ N f a i) (cuR k ρ (tnI k ρ i 1) a)) ?_) | (apply zI; refine zP (sub_rt vRA (Nat.le_refl _)) ?_) | (refine And.intro (fun h => ?_) (fun h => ?_) <;> (try simp only [cnt1, ints_length] at h)) | refine zS ?_ | refine zV ?_ | (apply zI; refine zP vObt ?_) | (apply zI; refine zP vObx ?_) | refine zA ?_ | refine And.intro (vRA) ?_ | refine Alt.fst ?_ | refine Or.inl ?_) <;> conv => whnf) | fail
 · refine Exists.intro (i + 1) (And.intro vRA (And.intro vRA ?_))
   first | refine WeakS.autoR ?_ | refine Weak.autoR ?_
   conv => whnf
   repeat' ((first | refine z1 ?_ | refine z2 ?_ | refine zV ?_ | refine And.intro vRepl ?_ | refine And.intro vReplL ?_ | refine And.intro ?_ ?_ | exact trivial) <;> try (conv => whnf))
   all_goals first
     | rfl
     | (rw [cnt1, rows_length, sqP_length]; done)
     | skip
 · rw [show i = n from vRA]
   have hKn : (N - 1) / n * n ≤ N - 1 := Nat.div_mul_le_self _ _
   have hKn2 : N ≤ ((N - 1) / n + 1) * n := by
     have := Nat.lt_div_mul_add (a := N - 1) (b := n) (by omega)
     rw [Nat.add_mul]; omega
   have hKN : (N - 1) / n ≤ N - 1 := Nat.div_le_self _ _
   generalize (N - 1) / n = K at *
   generalize frT k ρ N f a n = F at *
   repeat' first | ((first | refine z0 ?_ | (refine And.intro (fun h => ?_) (fun h => ?_) <;> (try simp only [cnt1, ints_length] at h)) | refine zS ?_ | refine zV ?_ | (apply zI; refine zP vObt ?_) | (apply zI; refine zP vObx ?_) | refine zA ?_ | refine Alt.fst ?_ | refine Or.inl ?_) <;> conv => whnf) | fail
   refine loop_atR Tryz.tabOk mixOrd (α := Nat) (fun j => [(13, dint ((j : Int) * (n : Int))), (12, .ref 2 [] 1 0 j), (36, .undef)]) (fun j => [(2, some ⟨false, 1, ints (L j (⟨fun i => (F.c (i * n)).c 0⟩ : PS (Zm m)))⟩)]) (fun j => j ≤ K + 1) (fun j => K + 1 - j) (0) ?_ ?_ ?_
   · omega
   · conv => whnf
     first | refine WeakS.autoR ?_ | refine Weak.autoR ?_
     conv => whnf
     repeat' ((first | refine z1 ?_ | refine z2 ?_ | refine zV ?_ | refine And.intro vRepl ?_ | refine And.intro vReplL ?_ | refine And.intro ?_ ?_ | exact trivial) <;> try (conv => whnf))
     all_goals first
       | (exact eqV_int (by simp))
       | rfl
       | skip
   intro j hj
   conv => whnf
   have hcast : (j : Int) * (n : Int) = ((j * n : Nat) : Int) := (Int.natCast_mul j n).symm
   have htn : ((j : Int) * (n : Int)).toNat = j * n := by rw [hcast]; rfl
   have hlt : j ≤ K → j * n < N := fun h => by
     have := Nat.mul_le_mul_right n h
     omega
   have hge : ¬ j ≤ K → N ≤ j * n := fun h => by
     have := Nat.mul_le_mul_right n (show K + 1 ≤ j by omega)
     omega
   have hjN : (j : Int) * (n : Int) < (N : Int) → j ≤ K := fun h => by
     rw [hcast] at h
     rcases Nat.lt_or_ge K j with h1 | h1
     · have := hge (by omega); omega
     · exact h1
   have hcs : ((j + 1 : Nat) : Int) * (n : Int) = (j : Int) * (n : Int) + n := by
     rw [show ((j + 1 : Nat) : Int) = (j : Int) + 1 by omega, Int.add_mul, Int.one_mul]
   have hrng : inR .i64 ((j : Int) * (n : Int) + n) := by
     rw [hcast]
     have h1 := Nat.mul_le_mul_right n hj
     have h2 : (K + 1) * n = K * n + n := Nat.succ_mul K n
     exact inR64 (by omega) (by omega)
   have hix : j ≤ K → 0 ≤ (j : Int) * (n : Int) ∧ (j : Int) * (n : Int) < (cnt 1 (rows true (sqP k N F)) : Nat) := fun h => by
     have := hlt h
     rw [hcast, cnt1, rows_length, sqP_length]; omega
   repeat' first | ((first | refine z0 ?_ | (apply zI; refine zP (vRtL (i := j * n) (by rw [htn]; exact vIx) (hlt (hjN (by simp only [cnt1, ints_length, L_length] at *; assumption)))) ?_) | (apply zI; refine zP (vRtLL (i := j * n) (j := 0) (by rw [htn]; exact vIx) vIx (hlt (hjN (by simp only [cnt1, ints_length, L_length] at *; assumption))) (by omega)) ?_) | (refine And.intro (fun h => ?_) (fun h => ?_) <;> (try simp only [cnt1, ints_length] at h)) | refine zS ?_ | refine zV ?_ | (apply zI; refine zP vObt ?_) | (apply zI; refine zP vObx ?_) | refine zA ?_ | refine And.intro (hrng) ?_ | (refine And.intro (hix (hjN (by simp only [cnt1, ints_length, L_length] at *; assumption))) ?_) | refine And.intro (vRA) ?_ | refine Alt.fst ?_ | refine Or.inl ?_) <;> conv => whnf) | fail
   · have hjK : j ≤ K := hjN (by simp only [L_length] at *; assumption)
     refine Exists.intro (j + 1) (And.intro (by omega) (And.intro (by omega) ?_))
     first | refine WeakS.autoR ?_ | refine Weak.autoR ?_
     conv => whnf
     repeat' ((first | refine z1 ?_ | refine z2 ?_ | refine zV ?_ | refine And.intro vRepl ?_ | refine And.intro vReplL ?_ | refine And.intro ?_ ?_ | exact trivial) <;> try (conv => whnf))
     all_goals first
       | (exact ints_congr' (L_push rfl))
       | (exact eqV_int hcs.symm)
       | skip
   · have hjK : ¬ j ≤ K := fun h1 => by
       have h2 := hlt h1
       have h3 : ¬ (j : Int) * (n : Int) < ((L N a).length : Nat) := by assumption
       rw [L_length, hcast] at h3
       omega
     rw [show j = K + 1 by omega]
end Go.Proofs
