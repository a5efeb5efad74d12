import Derived.Test.YthpbaehnkmmkgaaGreatK32
import Derived.Test.YthpbaehnkmmkgaaGreatAlg10
namespace Go.Proofs
open Go Go.Vm Go.Fg Go.Fg.PS
set_option maxRecDepth 100000
set_option maxHeartbeats 4000000
set_option linter.unusedSimpArgs false
set_option linter.unusedVariables false
variable {m : Int}
abbrev RuD (m : Int) (o : Bool) (rl : List Int) : D := .agg [dint m, .list o 1 (ints rl)]
def RuOk (rl : List Int) (k : Nat) : Prop := rl.length = k ∧ 1 ≤ k ∧ k ≤ 4 ∧ ∀ j, j < k → -1 ≤ rl.getD j 0 ∧ rl.getD j 0 ≤ 0
theorem rlN_ok {n : Nat} (hn : 2 ≤ n ∧ n ≤ 5) : RuOk (rlN n) (kN n) := by
 have key : ∀ (l : List Int), (l.all fun x => decide (-1 ≤ x ∧ x ≤ 0)) = true → ∀ j, j < l.length → -1 ≤ l.getD j 0 ∧ l.getD j 0 ≤ 0 := fun l h j hj => by
   have := List.all_eq_true.1 h l[j] (List.getElem_mem hj)
   simpa [hj] using this
 rcases (show n = 2 ∨ n = 3 ∨ n = 4 ∨ n = 5 by omega) with rfl | rfl | rfl | rfl
 · exact ⟨rfl, by decide, by decide, key [-1] (by decide)⟩
 · exact ⟨rfl, by decide, by decide, key [-1, -1] (by decide)⟩
 · exact ⟨rfl, by decide, by decide, key [-1, 0] (by decide)⟩
 · exact ⟨rfl, by decide, by decide, key [-1, -1, -1, -1] (by decide)⟩
theorem rl_mul (hm : Md m) {r : Int} (hr : -1 ≤ r ∧ r ≤ 0) (a : Zm m) : -10000 ≤ a.val * r ∧ a.val * r ≤ 0 := by
 have := Zm.val_range hm.pos a
 have := hm.2
 rcases (show r = -1 ∨ r = 0 by omega) with rfl | rfl <;> omega
theorem em_mulA (a b c : Zm m) : (c.val + a.val * b.val) % m = (c + a * b).val :=
 Zm.emod_val (by rw [Zm.mk_add, Zm.mk_mul, Zm.mk_val, Zm.mk_val, Zm.mk_val])
theorem em_mulR (a c : Zm m) (r : Int) : (c.val + a.val * r) % m = (c + a * Zm.mk m r).val :=
 Zm.emod_val (by rw [Zm.mk_add, Zm.mk_mul, Zm.mk_val, Zm.mk_val])
theorem L_shift (k : Nat) (a : PS (Zm m)) (hk : 1 ≤ k) : (0 : Int) :: L (k - 1) a = L k (PS.C 0 + PS.X * a) := by
 obtain ⟨n, rfl⟩ : ∃ n, k = n + 1 := ⟨k - 1, by omega⟩
 rw [← L_cons, Zm.val_zero]; rfl
theorem shift_c (a : PS (Zm m)) (j : Nat) : (PS.C 0 + PS.X * a).c j = if j = 0 then 0 else a.c (j - 1) := by
 rw [PS.C_zero, CR.zero_add]
 cases j with
 | zero => exact PS.X_mul_zero a
 | succ j => rw [PS.X_mul_succ, if_neg (by omega)]; rfl
theorem mix_set (hm : Md m) {k i : Nat} (f g : PS (Zm m)) {x : Int} (h : x = (f.c i).val) : (L k (mix i f g)).set i x = L k (mix (i + 1) f g) :=
 L_set_eq _ h (Ag.of_eq (mix_succ i f g).symm)
theorem mix_full {k : Nat} (f g : PS (Zm m)) {i : Nat} (h : k ≤ i) : L k (mix i f g) = L k f := L_congr (fun j hj => by rw [mix_c, if_pos (by omega)])
theorem mix_at (i : Nat) (f g : PS (Zm m)) : (mix i f g).c i = g.c i := by rw [mix_c, if_neg (by omega)]
theorem c_whNumber (hm : Md m) (o : Bool) (rl : List Int) {k : Nat} (hk : RuOk rl k) (c : Zm m) {C : Int} (hC : C = c.val) : PureCall Tryz.prog 412 [RuD m o rl, dint C] (LD true k (PS.C c)) := by
 obtain ⟨hl, hk1, hk4, hr⟩ := hk
 subst hC
 subst hl
 refine pure_of_vcR Tryz.tabOk mixOrd Tryz.func412 rfl rfl ?_
 conv => whnf
 repeat' first | ((first | refine z0 ?_ | (refine And.intro (fun h => ?_) (fun h => ?_) <;> (try simp only [cnt1, ints_length] at h)) | refine zS ?_ | refine zV ?_ | (apply zI; refine zP vObt ?_) | (apply zI; refine zP vObx ?_) | refine zA ?_ | refine Alt.fst ?_ | refine Or.inl ?_) <;> conv => whnf) | fail
 exact congrArg (fun x => D.list true 1 (ints x)) (by
   rw [← L_zero (m := m)]
   exact L_set_eq c rfl (fun j hj => by rw [upd_c]; rfl))
theorem c_whTurned (hm : Md m) (o o1 : Bool) (rl : List Int) {k : Nat} (hk : RuOk rl k) (a : PS (Zm m)) : PureCall Tryz.prog 415 [RuD m o rl, LD o1 k a] (LD true k (tnR k (rd m rl) a)) := by
 obtain ⟨hl, hk1, hk4, hr⟩ := hk
 have hm1 := hm.1
 have hm2 := hm.2
 subst hl
 refine pure_of_vcR Tryz.tabOk mixOrd Tryz.func415 rfl rfl ?_
 conv => whnf
 repeat' first | ((first | refine z0 ?_ | refine Or.inr (inl_ofR Tryz.tabOk mixOrd _ Tryz.func456 rfl rfl ?_) | (refine And.intro (fun h => ?_) (fun h => ?_) <;> (try simp only [cnt1, ints_length] at h)) | refine zS ?_ | refine zV ?_ | (apply zI; refine zP vObt ?_) | (apply zI; refine zP vObx ?_) | refine zA ?_ | refine Alt.fst ?_ | refine Or.inl ?_) <;> conv => whnf) | fail
 refine loop_atR Tryz.tabOk mixOrd (α := Nat) (fun i => [(12, dint i)]) (fun i => [(2, some ⟨false, 1, ints (L rl.length (mix i (tnR rl.length (rd m rl) a) (PS.C 0 + PS.X * a)))⟩)]) (fun i => i ≤ rl.length) (fun i => rl.length - i) (0) ?_ ?_ ?_
 · omega
 · conv => whnf
   first | refine WeakS.autoR ?_ | refine Weak.autoR ?_
   conv => whnf
   repeat' ((first | refine z1 ?_ | refine z2 ?_ | refine zV ?_ | refine And.intro vRepl ?_ | refine And.intro vReplL ?_ | refine And.intro ?_ ?_ | exact trivial) <;> try (conv => whnf))
   all_goals (rw [mix_zero, ← L_shift _ _ hk1]; rfl)
 intro i hi
 conv => whnf
 have x1 := fun h => rl_mul hm (hr i h) (a.c (rl.length - 1))
 have x2 := Zm.val_range hm.pos ((mix i (tnR rl.length (rd m rl) a) (PS.C 0 + PS.X * a)).c i)
 repeat' first | ((first | refine z0 ?_ | (apply zI; refine zP (c_mod _ _ hm.pos (by omega)) ?_) | (refine And.intro (fun h => ?_) (fun h => ?_) <;> (try simp only [cnt1, ints_length] at h)) | refine zS ?_ | refine zV ?_ | (apply zI; refine zP vObt ?_) | (apply zI; refine zP vObx ?_) | refine zA ?_ | refine Alt.fst ?_ | refine Or.inl ?_) <;> conv => whnf) | fail
 · have hi' : i < rl.length := vAr
   refine Exists.intro (i + 1) (And.intro vAr (And.intro vAr ?_))
   first | refine WeakS.autoR ?_ | refine Weak.autoR ?_
   conv => whnf
   repeat' ((first | refine z1 ?_ | refine z2 ?_ | refine zV ?_ | refine And.intro vRepl ?_ | refine And.intro vReplL ?_ | refine And.intro ?_ ?_ | exact trivial) <;> try (conv => whnf))
   refine ints_congr' (mix_set hm _ _ ?_)
   rw [mix_at, em_mulR, shift_c, tnR_c, if_pos hi']
   rfl
 · rw [mix_full _ _ vAr]
theorem c_whTimes (hm : Md m) (o o1 o2 : Bool) (rl : List Int) {k : Nat} (hk : RuOk rl k) (a b : PS (Zm m)) : PureCall Tryz.prog 413 [RuD m o rl, LD o1 k a, LD o2 k b] (LD true k (rtM k (rd m rl) a b)) := by
 have hk0 := hk
 obtain ⟨hl, hk1, hk4, hr⟩ := hk
 have hm1 := hm.1
 have hm2 := hm.2
 subst hl
 refine pure_of_vcR Tryz.tabOk mixOrd Tryz.func413 rfl rfl ?_
 conv => whnf
 repeat' first | ((first | refine z0 ?_ | (refine And.intro (fun h => ?_) (fun h => ?_) <;> (try simp only [cnt1, ints_length] at h)) | refine zS ?_ | refine zV ?_ | (apply zI; refine zP vObt ?_) | (apply zI; refine zP vObx ?_) | refine zA ?_ | refine Alt.fst ?_ | refine Or.inl ?_) <;> conv => whnf) | fail
 refine loop_atR Tryz.tabOk mixOrd (α := Nat) (fun i => [(20, dint i), (10, .undef), (15, .undef), (17, .undef), (8, .ref 3 [] 1 0 rl.length)]) (fun i => [(1, some ⟨false, 1, ints (L rl.length (rtP rl.length (rd m rl) a b i))⟩), (3, some ⟨false, 1, ints (L rl.length (tnI rl.length (rd m rl) i b))⟩)]) (fun i => i ≤ rl.length) (fun i => rl.length - i) (0) ?_ ?_ ?_
 · omega
 · conv => whnf
   first | refine WeakS.autoR ?_ | refine Weak.autoR ?_
   conv => whnf
   repeat' ((first | refine z1 ?_ | refine z2 ?_ | refine zV ?_ | refine And.intro vRepl ?_ | refine And.intro vReplL ?_ | refine And.intro ?_ ?_ | exact trivial) <;> try (conv => whnf))
   all_goals first
     | (rw [rtP_zero, L_zero]; done)
     | rfl
     | skip
 intro i hi
 conv => whnf
 repeat' first | ((first | refine z0 ?_ | refine Or.inr (inl_ofR Tryz.tabOk mixOrd _ Tryz.func456 rfl rfl ?_) | (refine And.intro (fun h => ?_) (fun h => ?_) <;> (try simp only [cnt1, ints_length] at h)) | refine zS ?_ | refine zV ?_ | (apply zI; refine zP vObt ?_) | (apply zI; refine zP vObx ?_) | refine zA ?_ | refine Alt.fst ?_ | refine Or.inl ?_) <;> conv => whnf) | fail
 · have hi' : i < rl.length := vAr
   refine loop_atR Tryz.tabOk mixOrd (α := Nat) (fun j => [(12, dint j)]) (fun j => [(1, some ⟨false, 1, ints (L rl.length (mix j (rtP rl.length (rd m rl) a b (i + 1)) (rtP rl.length (rd m rl) a b i)))⟩)]) (fun j => j ≤ rl.length) (fun j => rl.length - j) (0) ?_ ?_ ?_
   · omega
   · conv => whnf
     first | refine WeakS.autoR ?_ | refine Weak.autoR ?_
     conv => whnf
     repeat' ((first | refine z1 ?_ | refine z2 ?_ | refine zV ?_ | refine And.intro vRepl ?_ | refine And.intro vReplL ?_ | refine And.intro ?_ ?_ | exact trivial) <;> try (conv => whnf))
     all_goals rw [mix_zero]
   intro j hj
   conv => whnf
   have x1 := hm.mul (a.c i) ((tnI rl.length (rd m rl) i b).c j)
   have x2 := Zm.val_range hm.pos ((mix j (rtP rl.length (rd m rl) a b (i + 1)) (rtP rl.length (rd m rl) a b i)).c j)
   repeat' first | ((first | refine z0 ?_ | (apply zI; refine zP (c_mod _ _ hm.pos (by omega)) ?_) | (apply zI; refine zP (c_whTurned hm _ _ rl hk0 _) ?_) | (refine And.intro (fun h => ?_) (fun h => ?_) <;> (try simp only [cnt1, ints_length] at h)) | refine zS ?_ | refine zV ?_ | (apply zI; refine zP vObt ?_) | (apply zI; refine zP vObx ?_) | refine zA ?_ | refine Alt.fst ?_ | refine Or.inl ?_) <;> conv => whnf) | fail
   · have hj' : j < rl.length := vAr
     refine Exists.intro (j + 1) (And.intro vAr (And.intro vAr ?_))
     first | refine WeakS.autoR ?_ | refine Weak.autoR ?_
     conv => whnf
     repeat' ((first | refine z1 ?_ | refine z2 ?_ | refine zV ?_ | refine And.intro vRepl ?_ | refine And.intro vReplL ?_ | refine And.intro ?_ ?_ | exact trivial) <;> try (conv => whnf))
     refine ints_congr' (mix_set hm _ _ ?_)
     rw [mix_at, em_mulA, rtP_succ, add_c, C_mul]
   · refine Exists.intro (i + 1) (And.intro vAr (And.intro vAr ?_))
     first | refine WeakS.autoR ?_ | refine Weak.autoR ?_
     conv => whnf
     repeat' ((first | refine z1 ?_ | refine z2 ?_ | refine zV ?_ | refine And.intro vRepl ?_ | refine And.intro vReplL ?_ | refine And.intro ?_ ?_ | exact trivial) <;> try (conv => whnf))
     all_goals first
       | (exact ints_congr' (mix_full _ _ vAr))
       | rfl
       | skip
 · rw [show i = rl.length by simp only [L_length] at *; omega]
   rfl
end Go.Proofs
