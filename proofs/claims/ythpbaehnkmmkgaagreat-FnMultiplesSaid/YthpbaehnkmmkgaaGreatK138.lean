/- Inverses of laws, opposites and multiples of curves by integers: both sides. -/
-- tables
-- rec
import Derived.Test.YthpbaehnkmmkgaaGreatK33
import Derived.Test.YthpbaehnkmmkgaaGreatK7
import Derived.Test.YthpbaehnkmmkgaaGreatAlg21
namespace Go.Proofs
open Go Go.Vm Go.Fg Go.Fg.PS
set_option maxRecDepth 100000
set_option maxHeartbeats 4000000
set_option linter.unusedSimpArgs false
set_option linter.unusedVariables false
variable {m : Int}
theorem putS_ev (f : PS (PS (Zm m))) (a b : PS (Zm m)) (n : Nat) : putS f a b n = evT n f a b := by
  unfold putS putP evT
  exact Go.Fg.add_zero _
theorem L_X (hm : Md m) (n : Nat) : (List.replicate n (0 : Int)).set 1 1 = L n (PS.X : PS (Zm m)) := by
  rw [← L_zero (m := m)]; exact L_set_eq (1 : Zm m) (Zm.val_one (by have := hm.1; omega)).symm (Ag.of_eq (by ext k; rw [upd_c, X_c]; split <;> rfl))
theorem neg_val (hm : Md m) (z : Zm m) : (0 - z.val) % m = (-z).val := by rw [Int.zero_sub]; exact (Zm.val_neg z).symm
theorem neg_valT (hm : Md m) (z : Zm m) : (m - z.val).tmod m = (-z).val := by
  have h1 := Zm.val_range hm.pos z
  exact Zm.tmod_val (by omega) (by rw [Zm.mk_sub, Zm.mk_self, Zm.mk_val, Go.Fg.sub_def, CR.zero_add])
def MulZ (f : PS (PS (Zm m))) (n : Nat) (k : Int) (a r : PS (Zm m)) : Prop := if 0 ≤ k then Mul f n k.toNat 0 a r else ∃ s, Mul f n (-k).toNat 0 a s ∧ r = compN (ivS n f) s 0 n
theorem mulZ_ex (f : PS (PS (Zm m))) (n : Nat) (k : Int) (a : PS (Zm m)) : ∃ r, MulZ f n k a r := by
  unfold MulZ
  by_cases h : 0 ≤ k
  · obtain ⟨r, hr⟩ := mul_ex f n k.toNat 0 a
    exact ⟨r, by rw [if_pos h]; exact hr⟩
  · obtain ⟨s, hs⟩ := mul_ex f n (-k).toNat 0 a
    exact ⟨_, by rw [if_neg h]; exact ⟨s, hs, rfl⟩⟩
theorem c_inverseP (hm : Md m) (o p : Bool) (n : Nat) (hn : 2 ≤ n ∧ n ≤ 100) (f : PS (PS (Zm m))) : PureCall Tryz.prog 257 [PlD m o p n f] (SerD m true n (ivS n f)) := by
  have hm1 := hm.1
  have hm2 := hm.2
  refine pure_of_vcR Tryz.tabOk mixOrd Tryz.func257 rfl rfl ?_
  conv => whnf
  repeat' first | ((first | refine z0 ?_ | (apply zI; refine zP (c_degreeP _ _ n vAr _) ?_) | (apply zI; refine zP (c_variable n vAr vAr hm) ?_) | (apply zI; refine zP (c_zero n vAr vAr) ?_) | (refine And.intro (fun h => ?_) (fun h => ?_) <;> (try simp only [cnt1, ints_length] at h)) | refine zS ?_ | refine zV ?_ | (apply zI; refine zP vObt ?_) | (apply zI; refine zP vObx ?_) | refine zA ?_ | refine Alt.fst ?_ | refine Or.inl ?_) <;> conv => whnf) | fail
  refine loop_atR Tryz.tabOk mixOrd (α := Nat) (fun k => [(5, dint ((k : Int) + 1))]) (fun k => [(8, some ⟨false, 1, ints (L n (ivP n f k))⟩)]) (fun k => k + 1 ≤ n) (fun k => n - k) (0) ?_ ?_ ?_
  · omega
  · conv => whnf
    first | refine WeakS.autoR ?_ | refine Weak.autoR ?_
    conv => whnf
    repeat' ((first | refine z1 ?_ | refine z2 ?_ | refine zV ?_ | refine And.intro vRepl ?_ | refine And.intro vReplL ?_ | refine And.intro ?_ ?_ | exact trivial) <;> try (conv => whnf))
    all_goals first | rfl
  intro k hk
  conv => whnf
  have hr := Zm.val_range hm.pos ((putS f PS.X (ivP n f k) n).c (k + 1))
  repeat' first | ((first | refine z0 ?_ | (apply zI; refine zP (c_degreeP _ _ n vAr _) ?_) | (apply zI; refine zP (c_curves hm _ _ _ _ n vAr f _ _) ?_) | (apply zI; refine zP (c_mod _ _ hm.pos (by omega)) ?_) | (refine And.intro (fun h => ?_) (fun h => ?_) <;> (try simp only [cnt1, ints_length] at h)) | refine zS ?_ | refine zV ?_ | (apply zI; refine zP vObt ?_) | (apply zI; refine zP vObx ?_) | refine zA ?_ | refine Alt.fst ?_ | refine Or.inl ?_) <;> conv => whnf) | fail
  · refine Exists.intro (k + 1) (And.intro (by omega) (And.intro (by omega) ?_))
    first | refine WeakS.autoR ?_ | refine Weak.autoR ?_
    conv => whnf
    repeat' ((first | refine z1 ?_ | refine z2 ?_ | refine zV ?_ | refine And.intro vRepl ?_ | refine And.intro vReplL ?_ | refine And.intro ?_ ?_ | exact trivial) <;> try (conv => whnf))
    all_goals (refine ints_congr' (L_set_eq _ (neg_val hm _) ?_); rw [putS_ev]; exact Ag.rfl)
  · rw [ivS, show n - 1 = k by omega]
theorem c_l04Inverse (hm : Md m) (o p : Bool) (n : Nat) (hn : 2 ≤ n ∧ n ≤ 100) (f : PS (PS (Zm m))) : PureCall Tryz.prog 258 [PlD m o p n f] (LD true n (ivS n f)) := by
  have hm1 := hm.1
  have hm2 := hm.2
  refine pure_of_vcR Tryz.tabOk mixOrd Tryz.func258 rfl rfl ?_
  conv => whnf
  repeat' first | ((first | refine z0 ?_ | (refine And.intro (fun h => ?_) (fun h => ?_) <;> (try simp only [cnt1, ints_length] at h)) | refine zS ?_ | refine zV ?_ | (apply zI; refine zP vObt ?_) | (apply zI; refine zP vObx ?_) | refine zA ?_ | refine Alt.fst ?_ | refine Or.inl ?_) <;> conv => whnf) | fail
  refine loop_atR Tryz.tabOk mixOrd (α := Nat) (fun k => [(6, dint ((k : Int) + 1)), (3, dint ((n : Int) - 1)), (4, .ref 1 [] 1 0 n), (5, .ref 2 [] 1 0 n), (7, .undef)]) (fun k => [(1, some ⟨false, 1, ints (L n (ivP n f k))⟩), (2, some ⟨false, 1, ints (L n (PS.X : PS (Zm m)))⟩)]) (fun k => k + 1 ≤ n) (fun k => n - k) (0) ?_ ?_ ?_
  · omega
  · conv => whnf
    first | refine WeakS.autoR ?_ | refine Weak.autoR ?_
    conv => whnf
    repeat' ((first | refine z1 ?_ | refine z2 ?_ | refine zV ?_ | refine And.intro vRepl ?_ | refine And.intro vReplL ?_ | refine And.intro ?_ ?_ | exact trivial) <;> try (conv => whnf))
    all_goals (rw [show ((n : Int) - 1 + 1).toNat = n by omega]; first | exact congrArg ints (L_zero n).symm | exact congrArg ints (L_X hm n))
  intro k hk
  conv => whnf
  have hr := Zm.val_range hm.pos ((putS f PS.X (ivP n f k) n).c (k + 1))
  repeat' first | ((first | refine z0 ?_ | (apply zI; refine zP (c_l03Put hm _ _ _ _ n vAr f _ _) ?_) | (refine And.intro (fun h => ?_) (fun h => ?_) <;> (try simp only [cnt1, ints_length] at h)) | refine zS ?_ | refine zV ?_ | (apply zI; refine zP vObt ?_) | (apply zI; refine zP vObx ?_) | refine zA ?_ | refine Alt.fst ?_ | refine Or.inl ?_) <;> conv => whnf) | fail
  · refine Exists.intro (k + 1) (And.intro (by omega) (And.intro (by omega) ?_))
    first | refine WeakS.autoR ?_ | refine Weak.autoR ?_
    conv => whnf
    repeat' ((first | refine z1 ?_ | refine z2 ?_ | refine zV ?_ | refine And.intro vRepl ?_ | refine And.intro vReplL ?_ | refine And.intro ?_ ?_ | exact trivial) <;> try (conv => whnf))
    all_goals (refine ints_congr' (L_set_eq _ (neg_valT hm _) ?_); rw [putS_ev]; exact Ag.rfl)
  · rw [ivS, show n - 1 = k by omega]
theorem c_oppositeP (hm : Md m) (o p o1 : Bool) (n : Nat) (hn : 2 ≤ n ∧ n ≤ 100) (f : PS (PS (Zm m))) (a : PS (Zm m)) : PureCall Tryz.prog 259 [PlD m o p n f, SerD m o1 n a] (SerD m true n (compN (ivS n f) a 0 n)) := by
  have hm1 := hm.1
  have hm2 := hm.2
  refine pure_of_vcR Tryz.tabOk mixOrd Tryz.func259 rfl rfl ?_
  conv => whnf
  repeat' first | ((first | refine z0 ?_ | (apply zI; refine zP (c_inverseP hm _ _ n hn f) ?_) | (apply zI; refine zP (c_compose hm _ _ n vAr _ _) ?_) | (refine And.intro (fun h => ?_) (fun h => ?_) <;> (try simp only [cnt1, ints_length] at h)) | refine zS ?_ | refine zV ?_ | (apply zI; refine zP vObt ?_) | (apply zI; refine zP vObx ?_) | refine zA ?_ | refine Alt.fst ?_ | refine Or.inl ?_) <;> conv => whnf) | fail
theorem c_l04Opposite (hm : Md m) (o p o1 : Bool) (n : Nat) (hn : 2 ≤ n ∧ n ≤ 100) (f : PS (PS (Zm m))) (a : PS (Zm m)) : PureCall Tryz.prog 381 [PlD m o p n f, LD o1 n a] (LD true n (compN (ivS n f) a 0 n)) := by
  have hm1 := hm.1
  have hm2 := hm.2
  refine pure_of_vcR Tryz.tabOk mixOrd Tryz.func381 rfl rfl ?_
  conv => whnf
  repeat' first | ((first | refine z0 ?_ | (apply zI; refine zP (c_l04Inverse hm _ _ n hn f) ?_) | (apply zI; refine zP (c_l02Compose hm _ _ n n n (by simp [cnt1]) vAr (by omega) (by omega) (by omega) (by omega) _ _) ?_) | (refine And.intro (fun h => ?_) (fun h => ?_) <;> (try simp only [cnt1, ints_length] at h)) | refine zS ?_ | refine zV ?_ | (apply zI; refine zP vObt ?_) | (apply zI; refine zP vObx ?_) | refine zA ?_ | refine Alt.fst ?_ | refine Or.inl ?_) <;> conv => whnf) | fail
theorem c_multipleZ (hm : Md m) (o p o' : Bool) (n : Nat) (hn : 2 ≤ n ∧ n ≤ 100) (f : PS (PS (Zm m))) (a : PS (Zm m)) (k : Int) (hk : -1000000 ≤ k ∧ k ≤ 1000000) (r : PS (Zm m)) (hr : MulZ f n k a r) : PureCall Tryz.prog 248 [PlD m o p n f, dint k, SerD m o' n a] (SerD m true n r) := by
  have hm1 := hm.1
  have hm2 := hm.2
  unfold MulZ at hr
  by_cases h0 : 0 ≤ k
  · rw [if_pos h0] at hr
    exact c_multiple hm o p o' n (by omega) f a k.toNat (by omega) r hr (by omega)
  · rw [if_neg h0] at hr
    obtain ⟨s, hs, rfl⟩ := hr
    refine pure_of_vcR Tryz.tabOk mixOrd Tryz.func248 rfl rfl ?_
    conv => whnf
    repeat' first | ((first | refine z0 ?_ | (apply zI; refine zP (c_multiple hm _ _ _ n (by omega) f a (-k).toNat (by omega) s hs (by omega)) ?_) | (apply zI; refine zP (c_oppositeP hm _ _ _ n hn f s) ?_) | (refine And.intro (fun h => ?_) (fun h => ?_) <;> (try simp only [cnt1, ints_length] at h) <;> first | (exfalso; omega) | skip) | refine zS ?_ | refine zV ?_ | (apply zI; refine zP vObt ?_) | (apply zI; refine zP vObx ?_) | refine zA ?_ | refine Alt.fst ?_ | refine Or.inl ?_) <;> conv => whnf) | fail
theorem c_l04MultipleZ (hm : Md m) (o p o' : Bool) (n : Nat) (hn : 2 ≤ n ∧ n ≤ 100) (f : PS (PS (Zm m))) (a : PS (Zm m)) (k : Int) (hk : -1000000 ≤ k ∧ k ≤ 1000000) (r : PS (Zm m)) (hr : MulZ f n k a r) : PureCall Tryz.prog 256 [PlD m o p n f, dint k, LD o' n a] (LD true n r) := by
  have hm1 := hm.1
  have hm2 := hm.2
  unfold MulZ at hr
  by_cases h0 : 0 ≤ k
  · rw [if_pos h0] at hr
    exact c_l04Multiple hm o p o' n (by omega) f a k.toNat (by omega) r hr (by omega)
  · rw [if_neg h0] at hr
    obtain ⟨s, hs, rfl⟩ := hr
    refine pure_of_vcR Tryz.tabOk mixOrd Tryz.func256 rfl rfl ?_
    conv => whnf
    repeat' first | ((first | refine z0 ?_ | (apply zI; refine zP (c_l04Multiple hm _ _ _ n (by omega) f a (-k).toNat (by omega) s hs (by omega)) ?_) | (apply zI; refine zP (c_l04Opposite hm _ _ _ n hn f s) ?_) | (refine And.intro (fun h => ?_) (fun h => ?_) <;> (try simp only [cnt1, ints_length] at h) <;> first | (exfalso; omega) | skip) | refine zS ?_ | refine zV ?_ | (apply zI; refine zP vObt ?_) | (apply zI; refine zP vObx ?_) | refine zA ?_ | refine Alt.fst ?_ | refine Or.inl ?_) <;> conv => whnf) | fail
end Go.Proofs

