import Derived.Test.YtndhpcigpghejaaGreatK13
import Derived.Test.YtndhpcigpghejaaGreatVm32
namespace Go.Proofs
open Go Go.Vm Go.Fg Go.Fg.PS
set_option maxRecDepth 100000
set_option maxHeartbeats 4000000
set_option linter.unusedSimpArgs false
set_option linter.unusedVariables false
variable {m : Int}
theorem c_l03Times (hm : Md m) (o p o' p' : Bool) (n : Nat) (hn : 1 ≤ n ∧ n ≤ 100) (f g : PS (PS (Zm m))) : PureCall Tryz.prog 346 [dint m, TbD o p n f, TbD o' p' n g] (TbD true true n (f * g)) := by
 have hm1 := hm.1
 have hm2 := hm.2
 refine pure_of_vcR Tryz.tabOk mixOrd Tryz.func346 rfl rfl ?_
 conv => whnf
 repeat' first | ((first | refine z0 ?_ | (apply zI; refine zP (c_l03Zero (m := m) n vAr vAr) ?_) | (refine And.intro (fun h => ?_) (fun h => ?_) <;> (try simp only [cnt1, ints_length] at h)) | refine zS ?_ | refine zV ?_ | (apply zI; refine zP vObt ?_) | (apply zI; refine zP vObx ?_) | refine zA ?_ | refine Alt.fst ?_ | refine Or.inl ?_) <;> conv => whnf) | fail
 refine loop_atR Tryz.tabOk mixOrd (α := Nat) (fun i => [(9, dint i), (12, .undef), (13, .undef)]) (fun i => [(0, some ⟨false, 1, rows true (Tb n (pP f g i 0))⟩)]) (fun i => i ≤ n) (fun i => n - i) (0) ?_ ?_ ?_
 · omega
 · conv => whnf
   first | refine WeakS.autoR ?_ | refine Weak.autoR ?_
   conv => whnf
   repeat' ((first | refine z1 ?_ | refine z2 ?_ | refine zV ?_ | refine And.intro vRepl ?_ | refine And.intro vReplL ?_ | refine And.intro ?_ ?_ | exact trivial) <;> try (conv => whnf))
   all_goals rw [pP_zero]
 intro i hi
 conv => whnf
 repeat' first | ((first | refine z0 ?_ | (refine And.intro (fun h => ?_) (fun h => ?_) <;> (try simp only [cnt1, ints_length] at h)) | refine zS ?_ | refine zV ?_ | (apply zI; refine zP vObt ?_) | (apply zI; refine zP vObx ?_) | refine zA ?_ | refine Alt.fst ?_ | refine Or.inl ?_) <;> conv => whnf) | fail
 · refine loop_atR Tryz.tabOk mixOrd (α := Nat) (fun j => [(10, dint j), (12, .undef), (13, .undef)]) (fun j => [(0, some ⟨false, 1, rows true (Tb n (pP f g i j))⟩)]) (fun j => j ≤ n - i) (fun j => n - j) (0) ?_ ?_ ?_
   · omega
   · conv => whnf
     first | refine WeakS.autoR ?_ | refine Weak.autoR ?_
     conv => whnf
     repeat' ((first | refine z1 ?_ | refine z2 ?_ | refine zV ?_ | refine And.intro vRepl ?_ | refine And.intro vReplL ?_ | refine And.intro ?_ ?_ | exact trivial) <;> try (conv => whnf))
   intro j hj
   conv => whnf
   repeat' first | ((first | refine z0 ?_ | (refine And.intro (fun h => ?_) (fun h => ?_) <;> (try simp only [cnt1, ints_length] at h)) | refine zS ?_ | refine zV ?_ | (apply zI; refine zP vObt ?_) | (apply zI; refine zP vObx ?_) | refine zA ?_ | refine Alt.fst ?_ | refine Or.inl ?_) <;> conv => whnf) | fail
   · refine Exists.intro (j + 1) (And.intro vAr (And.intro vAr ?_))
     first | refine WeakS.autoR ?_ | refine Weak.autoR ?_
     conv => whnf
     repeat' ((first | refine z1 ?_ | refine z2 ?_ | refine zV ?_ | refine And.intro vRepl ?_ | refine And.intro vReplL ?_ | refine And.intro ?_ ?_ | exact trivial) <;> try (conv => whnf))
     rw [pP_skip f g i j (Zm.val_eq_zero.1 (by assumption))]
   · refine loop_atR Tryz.tabOk mixOrd (α := Nat) (fun k => [(11, dint k), (12, .undef), (13, .undef)]) (fun k => [(0, some ⟨false, 1, rows true (Tb n (pQ f g i j k 0))⟩)]) (fun k => i + j + k ≤ n) (fun k => n - k) (0) ?_ ?_ ?_
     · exact vAr
     · conv => whnf
       first | refine WeakS.autoR ?_ | refine Weak.autoR ?_
       conv => whnf
       repeat' ((first | refine z1 ?_ | refine z2 ?_ | refine zV ?_ | refine And.intro vRepl ?_ | refine And.intro vReplL ?_ | refine And.intro ?_ ?_ | exact trivial) <;> try (conv => whnf))
       all_goals rw [pQ_zero]
     intro k hk
     conv => whnf
     repeat' first | ((first | refine z0 ?_ | (refine And.intro (fun h => ?_) (fun h => ?_) <;> (try simp only [cnt1, ints_length] at h)) | refine zS ?_ | refine zV ?_ | (apply zI; refine zP vObt ?_) | (apply zI; refine zP vObx ?_) | refine zA ?_ | refine Alt.fst ?_ | refine Or.inl ?_) <;> conv => whnf) | fail
     · refine loop_atR Tryz.tabOk mixOrd (α := Nat) (fun l => [(14, dint l)]) (fun l => [(0, some ⟨false, 1, rows true (Tb n (pQ f g i j k l))⟩)]) (fun l => i + j + k + l ≤ n) (fun l => n - l) (0) ?_ ?_ ?_
       · exact vAr
       · conv => whnf
         first | refine WeakS.autoR ?_ | refine Weak.autoR ?_
         conv => whnf
         repeat' ((first | refine z1 ?_ | refine z2 ?_ | refine zV ?_ | refine And.intro vRepl ?_ | refine And.intro vReplL ?_ | refine And.intro ?_ ?_ | exact trivial) <;> try (conv => whnf))
       intro l hll
       conv => whnf
       have hx1 := Zm.val_range hm.pos (((pQ f g i j k l).c (i + k)).c (j + l))
       have hx2 := hm.mul ((f.c i).c j) ((g.c k).c l)
       repeat' first | ((first | refine z0 ?_ | (refine And.intro (fun h => ?_) (fun h => ?_) <;> (try simp only [cnt1, ints_length] at h)) | refine zS ?_ | refine zV ?_ | (apply zI; refine zP vObt ?_) | (apply zI; refine zP vObx ?_) | refine zA ?_ | refine Alt.fst ?_ | refine Or.inl ?_) <;> conv => whnf) | fail
       · refine Exists.intro (l + 1) (And.intro vAr (And.intro vAr ?_))
         first | refine WeakS.autoR ?_ | refine Weak.autoR ?_
         conv => whnf
         repeat' ((first | refine z1 ?_ | refine z2 ?_ | refine zV ?_ | refine And.intro vRepl ?_ | refine And.intro vReplL ?_ | refine And.intro ?_ ?_ | exact trivial) <;> try (conv => whnf))
         exact rows_congr (setT_eq _ (tm_mulA hm _ _ _) vAr (Ag2.of_eq (pQ_step f g i j k l).symm))
       · refine Exists.intro (k + 1) (And.intro vAr (And.intro vAr ?_))
         first | refine WeakS.autoR ?_ | refine Weak.autoR ?_
         conv => whnf
         repeat' ((first | refine z1 ?_ | refine z2 ?_ | refine zV ?_ | refine And.intro vRepl ?_ | refine And.intro vReplL ?_ | refine And.intro ?_ ?_ | exact trivial) <;> try (conv => whnf))
         exact rows_congr (Tb_congr (pQ_row f g vAr))
     · refine Exists.intro (j + 1) (And.intro vAr (And.intro vAr ?_))
       first | refine WeakS.autoR ?_ | refine Weak.autoR ?_
       conv => whnf
       repeat' ((first | refine z1 ?_ | refine z2 ?_ | refine zV ?_ | refine And.intro vRepl ?_ | refine And.intro vReplL ?_ | refine And.intro ?_ ?_ | exact trivial) <;> try (conv => whnf))
       exact rows_congr (Tb_congr (pQ_end f g vAr))
   · refine Exists.intro (i + 1) (And.intro vAr (And.intro vAr ?_))
     first | refine WeakS.autoR ?_ | refine Weak.autoR ?_
     conv => whnf
     repeat' ((first | refine z1 ?_ | refine z2 ?_ | refine zV ?_ | refine And.intro vRepl ?_ | refine And.intro vReplL ?_ | refine And.intro ?_ ?_ | exact trivial) <;> try (conv => whnf))
     exact rows_congr (Tb_congr (pP_row f g vAr))
 · exact tbD_congr (Tb_congr (pP_full f g vAr))
theorem comp2N_top (a : PS (Zm m)) (f : PS (PS (Zm m))) (k t : Nat) : upd2 (comp2N a f (k + 1) t * f) 0 0 ((((comp2N a f (k + 1) t * f).c 0).c 0) + a.c k) = comp2N a f k (t + 1) := by
 rw [← comp2N_step]
 refine ext2 (fun i j => ?_)
 rw [upd2_cc, add_c, add_c, C_c]
 by_cases h : i = 0
 · rw [if_pos h, C_c]
   by_cases h2 : j = 0
   · rw [if_pos ⟨h, h2⟩, if_pos h2, h, h2]
   · rw [if_neg (fun x => h2 x.2), if_neg h2]; exact (Go.Fg.add_zero _).symm
 · rw [if_neg (fun x => h x.1), if_neg h]; exact (Go.Fg.add_zero _).symm
theorem c_l03After (hm : Md m) (o o' p : Bool) (n : Nat) (hn : 1 ≤ n ∧ n ≤ 100) (k : Nat) (hk : k ≤ 100) (a : PS (Zm m)) (f : PS (PS (Zm m))) : PureCall Tryz.prog 238 [dint m, LD o k a, TbD o' p n f] (TbD true true n (comp2N a f 0 k)) := by
 have hm1 := hm.1
 have hm2 := hm.2
 refine pure_of_vcR Tryz.tabOk mixOrd Tryz.func238 rfl rfl ?_
 conv => whnf
 repeat' first | ((first | refine z0 ?_ | (apply zI; refine zP (c_l03Zero (m := m) n vAr vAr) ?_) | (refine And.intro (fun h => ?_) (fun h => ?_) <;> (try simp only [cnt1, ints_length] at h)) | refine zS ?_ | refine zV ?_ | (apply zI; refine zP vObt ?_) | (apply zI; refine zP vObx ?_) | refine zA ?_ | refine Alt.fst ?_ | refine Or.inl ?_) <;> conv => whnf) | fail
 refine loop_atR Tryz.tabOk mixOrd (α := Nat) (fun t => [(8, dint ((k : Int) - 1 - t)), (7, .ref 0 [] 1 0 n), (9, .undef), (13, .undef)]) (fun t => [(0, some ⟨false, 1, rows true (Tb n (comp2N a f (k - t) t))⟩)]) (fun t => t ≤ k) (fun t => k - t) (0) ?_ ?_ ?_
 · omega
 · conv => whnf
   first | refine WeakS.autoR ?_ | refine Weak.autoR ?_
   conv => whnf
   repeat' ((first | refine z1 ?_ | refine z2 ?_ | refine zV ?_ | refine And.intro vRepl ?_ | refine And.intro vReplL ?_ | refine And.intro ?_ ?_ | exact trivial) <;> try (conv => whnf))
 intro t ht
 conv => whnf
 have hx1 := Zm.val_range hm.pos (((comp2N a f (k - t) t * f).c 0).c 0)
 have hx2 := Zm.val_range hm.pos (a.c ((k : Int) - 1 - t).toNat)
 repeat' first | ((first | refine z0 ?_ | (apply zI; refine zP (c_l03Times hm _ _ _ _ n vAr _ _) ?_) | (refine And.intro (fun h => ?_) (fun h => ?_) <;> (try simp only [cnt1, ints_length] at h)) | refine zS ?_ | refine zV ?_ | (apply zI; refine zP vObt ?_) | (apply zI; refine zP vObx ?_) | refine zA ?_ | refine Alt.fst ?_ | refine Or.inl ?_) <;> conv => whnf) | fail
 · refine Exists.intro (t + 1) (And.intro vAr (And.intro vAr ?_))
   first | refine WeakS.autoR ?_ | refine Weak.autoR ?_
   conv => whnf
   repeat' ((first | refine z1 ?_ | refine z2 ?_ | refine zV ?_ | refine And.intro vRepl ?_ | refine And.intro vReplL ?_ | refine And.intro ?_ ?_ | exact trivial) <;> try (conv => whnf))
   have e : ((k : Int) - 1 - t).toNat = k - (t + 1) := by omega
   have e2 : k - t = k - (t + 1) + 1 := by omega
   rw [e, e2]
   exact rows_congr (setT_eq _ (tm_add hm _ _) (by omega) (Ag2.of_eq (comp2N_top a f (k - (t + 1)) t)))
 · exact tbD_congr (by rw [show k = t by omega, Nat.sub_self])
theorem axes_step (a : PS (Zm m)) {i : Nat} (hi : 1 ≤ i) : upd2 (upd2 (axX (mix i a 0) + axY (mix i a 0)) i 0 (a.c i)) 0 i (a.c i) = axX (mix (i + 1) a 0) + axY (mix (i + 1) a 0) := by
 refine ext2 (fun p q => ?_)
 simp only [upd2_cc, add_c, axX_c, axY_c, mix_c]
 have hz : ∀ k, (0 : PS (Zm m)).c k = 0 := fun _ => rfl
 by_cases h1 : p = 0
 · by_cases h2 : q = i
   · rw [if_pos ⟨h1, h2⟩, if_neg (by omega), if_pos h1, if_pos (by omega), h2, CR.zero_add]
   · rw [if_neg (by omega), if_neg (by omega)]
     by_cases h3 : q < i
     · rw [if_pos (by omega : p < i), if_pos (by omega : p < i + 1), if_pos h3, if_pos (by omega : q < i + 1)]
     · rw [if_pos (by omega : p < i), if_pos (by omega : p < i + 1), if_neg h3, if_neg (by omega : ¬ q < i + 1)]
 · rw [if_neg (by omega)]
   by_cases h2 : p = i ∧ q = 0
   · rw [if_pos h2, if_pos h2.2, if_pos (by omega), if_neg h1, h2.1]; exact (Go.Fg.add_zero _).symm
   · rw [if_neg h2, if_neg h1, if_neg h1]
     by_cases h3 : q = 0
     · rw [if_pos h3, if_pos h3]
       by_cases h4 : p < i
       · rw [if_pos h4, if_pos (by omega)]
       · rw [if_neg h4, if_neg (by omega)]
     · rw [if_neg h3, if_neg h3]
theorem c_l05Sum (hm : Md m) (o : Bool) (n : Nat) (hn : 1 ≤ n ∧ n ≤ 100) (a : PS (Zm m)) (ha : a.c 0 = 0) : PureCall Tryz.prog 239 [dint m, LD o n a] (TbD true true n (axX a + axY a)) := by
 have hm1 := hm.1
 have hm2 := hm.2
 refine pure_of_vcR Tryz.tabOk mixOrd Tryz.func239 rfl rfl ?_
 conv => whnf
 have hmix : mix 1 a 0 = 0 := by
   ext k; rw [mix_c]; split
   · rw [show k = 0 by omega, ha]; rfl
   · rfl
 repeat' first | ((first | refine z0 ?_ | (apply zI; refine zP (c_l03Zero (m := m) n vAr vAr) ?_) | (refine And.intro (fun h => ?_) (fun h => ?_) <;> (try simp only [cnt1, ints_length] at h)) | refine zS ?_ | refine zV ?_ | (apply zI; refine zP vObt ?_) | (apply zI; refine zP vObx ?_) | refine zA ?_ | refine Alt.fst ?_ | refine Or.inl ?_) <;> conv => whnf) | fail
 refine loop_atR Tryz.tabOk mixOrd (α := Nat) (fun i => [(6, dint ((i : Int) + 1))]) (fun i => [(0, some ⟨false, 1, rows true (Tb n (axX (mix (i + 1) a 0) + axY (mix (i + 1) a 0)))⟩)]) (fun i => i + 1 ≤ n) (fun i => n - i) (0) ?_ ?_ ?_
 · omega
 · conv => whnf
   first | refine WeakS.autoR ?_ | refine Weak.autoR ?_
   conv => whnf
   repeat' ((first | refine z1 ?_ | refine z2 ?_ | refine zV ?_ | refine And.intro vRepl ?_ | refine And.intro vReplL ?_ | refine And.intro ?_ ?_ | exact trivial) <;> try (conv => whnf))
   all_goals rw [hmix, axX_zero, axY_zero, CR.zero_add]
 intro i hi
 conv => whnf
 repeat' first | ((first | refine z0 ?_ | (refine And.intro (fun h => ?_) (fun h => ?_) <;> (try simp only [cnt1, ints_length] at h)) | refine zS ?_ | refine zV ?_ | (apply zI; refine zP vObt ?_) | (apply zI; refine zP vObx ?_) | refine zA ?_ | refine Alt.fst ?_ | refine Or.inl ?_) <;> conv => whnf) | fail
 · rw [show setT (Tb n (axX (mix (i + 1) a 0) + axY (mix (i + 1) a 0))) (i + 1) 0 (a.c (i + 1)).val = Tb n (upd2 (axX (mix (i + 1) a 0) + axY (mix (i + 1) a 0)) (i + 1) 0 (a.c (i + 1))) from setT_eq _ rfl (by simp at *; omega) Ag2.rfl]
   repeat' first | ((first | refine z0 ?_ | (refine And.intro (fun h => ?_) (fun h => ?_) <;> (try simp only [cnt1, ints_length] at h)) | refine zS ?_ | refine zV ?_ | (apply zI; refine zP vObt ?_) | (apply zI; refine zP vObx ?_) | refine zA ?_ | refine Alt.fst ?_ | refine Or.inl ?_) <;> conv => whnf) | fail
   refine Exists.intro (i + 1) (And.intro vAr (And.intro vAr ?_))
   first | refine WeakS.autoR ?_ | refine Weak.autoR ?_
   conv => whnf
   repeat' ((first | refine z1 ?_ | refine z2 ?_ | refine zV ?_ | refine And.intro vRepl ?_ | refine And.intro vReplL ?_ | refine And.intro ?_ ?_ | exact trivial) <;> try (conv => whnf))
   exact rows_congr (setT_eq _ rfl (by omega) (Ag2.of_eq (axes_step a (by omega))))
 · have e : i + 1 = n := vAr
   rw [e]
   exact tbD_congr (Tb_congr ((axX_ag (fun k hk => by rw [mix_c, if_pos (by omega)])).add (axY_ag (fun k hk => by rw [mix_c, if_pos (by omega)]))))
end Go.Proofs
