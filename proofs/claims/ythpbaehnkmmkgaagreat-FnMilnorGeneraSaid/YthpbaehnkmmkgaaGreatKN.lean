/- Numbers: greatest common divisors, units, powers. -/
import Derived.Test.YthpbaehnkmmkgaaGreatK2
import Derived.Test.YthpbaehnkmmkgaaGreatK3
import Derived.Test.YthpbaehnkmmkgaaGreatK7
import Derived.Test.YthpbaehnkmmkgaaGreatAlg7
namespace Go.Proofs
open Go Go.Vm Go.Fg Go.Fg.PS
set_option maxRecDepth 100000
set_option maxHeartbeats 4000000
set_option linter.unusedSimpArgs false
set_option linter.unusedVariables false
variable {m : Int}
theorem c_gcd (a b : Nat) (ha : a ≤ 4611686018427387904) (hb : b ≤ 4611686018427387904) : PureCall Tryz.prog 431 [dint a, dint b] (dint (Nat.gcd a b : Nat)) := by
  refine pure_of_vc Tryz.tabOk mixOrd Tryz.func431 rfl rfl ?_
  conv => whnf
  refine loop_at Tryz.tabOk mixOrd (α := Nat × Nat) (fun x => [(0, dint x.1), (1, dint x.2)]) (fun x => []) (fun x => Nat.gcd x.1 x.2 = Nat.gcd a b ∧ x.1 ≤ 4611686018427387904 ∧ x.2 ≤ 4611686018427387904) (fun x => x.2) ((a, b)) ?_ ?_ ?_
  · exact ⟨rfl, ha, hb⟩
  · conv => whnf
    first | refine WeakS.auto ?_ | refine Weak.auto ?_
    conv => whnf
    repeat' ((first | refine z1 ?_ | refine z2 ?_ | refine zV ?_ | refine And.intro vRepl ?_ | refine And.intro vReplL ?_ | refine And.intro ?_ ?_ | exact trivial) <;> try (conv => whnf))
  intro ⟨x, y⟩ ⟨h1, h2, h3⟩
  simp only at h1 h2 h3
  conv => whnf
  repeat' first | ((first | refine z0 ?_ | (refine And.intro (fun h => ?_) (fun h => ?_) <;> (try simp only [cnt1, ints_length] at h)) | refine zS ?_ | refine zV ?_ | (apply zI; refine zP vObx ?_) | refine Alt.fst ?_ | refine Or.inl ?_) <;> conv => whnf) | fail
  · have hy : y ≠ 0 := by omega
    have hlt := Nat.mod_lt x (show y > 0 by omega)
    refine Exists.intro (y, x % y) (And.intro ⟨by rw [← h1, Nat.gcd_comm y, ← Nat.gcd_rec, Nat.gcd_comm], h3, by simp only; omega⟩ (And.intro hlt ?_))
    first | refine WeakS.auto ?_ | refine Weak.auto ?_
    conv => whnf
    repeat' ((first | refine z1 ?_ | refine z2 ?_ | refine zV ?_ | refine And.intro vRepl ?_ | refine And.intro vReplL ?_ | refine And.intro ?_ ?_ | exact trivial) <;> try (conv => whnf))
  · refine congrArg dint ?_
    rw [← h1, show y = 0 by omega, Nat.gcd_zero_right]
    show max (x : Int) (0 - (x : Int)) = x
    omega
theorem c_l01Gcd (a b : Nat) (ha : a ≤ 4611686018427387904) (hb : b ≤ 4611686018427387904) : PureCall Tryz.prog 432 [dint a, dint b] (dint (Nat.gcd a b : Nat)) := by
  refine pure_of_vc Tryz.tabOk mixOrd Tryz.func432 rfl rfl ?_
  conv => whnf
  repeat' first | ((first | refine z0 ?_ | (refine And.intro (fun h => ?_) (fun h => ?_) <;> (try simp only [cnt1, ints_length] at h)) | refine zS ?_ | refine zV ?_ | (apply zI; refine zP vObx ?_) | refine Alt.fst ?_ | refine Or.inl ?_) <;> conv => whnf) | fail
  all_goals try (exfalso; omega)
  refine loop_at Tryz.tabOk mixOrd (α := Nat × Nat) (fun x => [(0, dint x.1), (1, dint x.2)]) (fun x => []) (fun x => Nat.gcd x.1 x.2 = Nat.gcd a b ∧ x.1 ≤ 4611686018427387904 ∧ x.2 ≤ 4611686018427387904) (fun x => x.2) ((a, b)) ?_ ?_ ?_
  · exact ⟨rfl, ha, hb⟩
  · conv => whnf
    first | refine WeakS.auto ?_ | refine Weak.auto ?_
    conv => whnf
    repeat' ((first | refine z1 ?_ | refine z2 ?_ | refine zV ?_ | refine And.intro vRepl ?_ | refine And.intro vReplL ?_ | refine And.intro ?_ ?_ | exact trivial) <;> try (conv => whnf))
  intro ⟨x, y⟩ ⟨h1, h2, h3⟩
  simp only at h1 h2 h3
  conv => whnf
  repeat' first | ((first | refine z0 ?_ | (refine And.intro (fun h => ?_) (fun h => ?_) <;> (try simp only [cnt1, ints_length] at h)) | refine zS ?_ | refine zV ?_ | (apply zI; refine zP vObx ?_) | refine Alt.fst ?_ | refine Or.inl ?_) <;> conv => whnf) | fail
  · have hy : y ≠ 0 := by omega
    have hlt := Nat.mod_lt x (show y > 0 by omega)
    refine Exists.intro (y, x % y) (And.intro ⟨by rw [← h1, Nat.gcd_comm y, ← Nat.gcd_rec, Nat.gcd_comm], h3, by simp only; omega⟩ (And.intro hlt ?_))
    first | refine WeakS.auto ?_ | refine Weak.auto ?_
    conv => whnf
    repeat' ((first | refine z1 ?_ | refine z2 ?_ | refine zV ?_ | refine And.intro vRepl ?_ | refine And.intro vReplL ?_ | refine And.intro ?_ ?_ | exact trivial) <;> try (conv => whnf))
  · refine congrArg dint ?_
    rw [← h1, show y = 0 by omega, Nat.gcd_zero_right]
def unitB (m : Int) (a : Nat) : Bool := decide (Nat.gcd a m.toNat = 1)
theorem c_isUnit (hm : Md m) (a : Nat) (ha : a ≤ 4611686018427387904) {A : Int} (hA : A = a) : PureCall Tryz.prog 358 [dint m, dint A] (dbool (unitB m a)) := by
  subst hA
  have hm1 := hm.1
  have hm2 := hm.2
  have key := c_gcd a m.toNat ha (by omega)
  rw [Int.toNat_of_nonneg (by omega)] at key
  refine pure_of_vc Tryz.tabOk mixOrd Tryz.func358 rfl rfl ?_
  conv => whnf
  repeat' first | ((first | refine z0 ?_ | (apply zI; refine zP (key) ?_) | (refine And.intro (fun h => ?_) (fun h => ?_) <;> (try simp only [cnt1, ints_length] at h)) | refine zS ?_ | refine zV ?_ | (apply zI; refine zP vObx ?_) | refine Alt.fst ?_ | refine Or.inl ?_) <;> conv => whnf) | fail
  all_goals (refine dbool_congr ?_; simp only [unitB]; simp; omega)
theorem c_areUnits (hm : Md m) (k : Nat) (hk : k ≤ 1000000) {K : Int} (hK : K = k) : PureCall Tryz.prog 174 [dint m, dint K] (dbool (unitsB m k)) := by
  subst hK
  refine pure_of_vc Tryz.tabOk mixOrd Tryz.func174 rfl rfl ?_
  conv => whnf
  repeat' first | ((first | refine z0 ?_ | (refine And.intro (fun h => ?_) (fun h => ?_) <;> (try simp only [cnt1, ints_length] at h)) | refine zS ?_ | refine zV ?_ | (apply zI; refine zP vObx ?_) | refine Alt.fst ?_ | refine Or.inl ?_) <;> conv => whnf) | fail
  refine loop_at Tryz.tabOk mixOrd (α := Nat) (fun i => [(5, dint ((i : Int) + 1))]) (fun i => []) (fun i => i ≤ k ∧ ∀ q : Nat, 1 ≤ q → q ≤ i → Nat.gcd q m.toNat = 1) (fun i => k - i) (0) ?_ ?_ ?_
  · exact ⟨by omega, by omega⟩
  · conv => whnf
    first | refine WeakS.auto ?_ | refine Weak.auto ?_
    conv => whnf
    repeat' ((first | refine z1 ?_ | refine z2 ?_ | refine zV ?_ | refine And.intro vRepl ?_ | refine And.intro vReplL ?_ | refine And.intro ?_ ?_ | exact trivial) <;> try (conv => whnf))
  intro i ⟨hi, hq⟩
  conv => whnf
  repeat' first | ((first | refine z0 ?_ | (apply zI; refine zP (c_isUnit hm (i + 1) vAr vAr) ?_) | (refine And.intro (fun h => ?_) (fun h => ?_) <;> (try simp only [cnt1, ints_length] at h)) | refine zS ?_ | refine zV ?_ | (apply zI; refine zP vObx ?_) | refine Alt.fst ?_ | refine Or.inl ?_) <;> conv => whnf) | fail
  · refine Exists.intro (i + 1) (And.intro ⟨by omega, fun q h1 h2 => ?_⟩ (And.intro (by omega) ?_))
    · rcases Nat.lt_or_ge i q with h' | h'
      · rw [show q = i + 1 by omega]; exact of_decide_eq_true (by assumption)
      · exact hq q h1 h'
    first | refine WeakS.auto ?_ | refine Weak.auto ?_
    conv => whnf
    repeat' ((first | refine z1 ?_ | refine z2 ?_ | refine zV ?_ | refine And.intro vRepl ?_ | refine And.intro vReplL ?_ | refine And.intro ?_ ?_ | exact trivial) <;> try (conv => whnf))
  · exact dbool_congr (unitsB_not (i := i + 1) (by omega) (of_decide_eq_false (by assumption))).symm
  · exact dbool_congr (unitsB_of (fun q h1 h2 => hq q h1 (by omega))).symm
theorem c_l01Unit (hm : Md m) (a : Nat) (ha : a ≤ 4611686018427387904) {A : Int} (hA : A = a) : PureCall Tryz.prog 360 [dint m, dint A] (dbool (unitB m a)) := by
  subst hA
  have hm1 := hm.1
  have hm2 := hm.2
  have key := c_l01Gcd a m.toNat ha (by omega)
  rw [Int.toNat_of_nonneg (by omega)] at key
  refine pure_of_vc Tryz.tabOk mixOrd Tryz.func360 rfl rfl ?_
  conv => whnf
  repeat' first | ((first | refine z0 ?_ | (apply zI; refine zP (key) ?_) | (refine And.intro (fun h => ?_) (fun h => ?_) <;> (try simp only [cnt1, ints_length] at h)) | refine zS ?_ | refine zV ?_ | (apply zI; refine zP vObx ?_) | refine Alt.fst ?_ | refine Or.inl ?_) <;> conv => whnf) | fail
  all_goals (refine dbool_congr ?_; simp only [unitB]; simp; omega)
theorem c_l02Integers (hm : Md m) (k : Nat) (hk : k ≤ 1000000) {K : Int} (hK : K = k) : PureCall Tryz.prog 198 [dint m, dint K] (dbool (unitsB m k)) := by
  subst hK
  refine pure_of_vc Tryz.tabOk mixOrd Tryz.func198 rfl rfl ?_
  conv => whnf
  repeat' first | ((first | refine z0 ?_ | (refine And.intro (fun h => ?_) (fun h => ?_) <;> (try simp only [cnt1, ints_length] at h)) | refine zS ?_ | refine zV ?_ | (apply zI; refine zP vObx ?_) | refine Alt.fst ?_ | refine Or.inl ?_) <;> conv => whnf) | fail
  refine loop_at Tryz.tabOk mixOrd (α := Nat) (fun i => [(5, dint ((i : Int) + 1))]) (fun i => []) (fun i => i ≤ k ∧ ∀ q : Nat, 1 ≤ q → q ≤ i → Nat.gcd q m.toNat = 1) (fun i => k - i) (0) ?_ ?_ ?_
  · exact ⟨by omega, by omega⟩
  · conv => whnf
    first | refine WeakS.auto ?_ | refine Weak.auto ?_
    conv => whnf
    repeat' ((first | refine z1 ?_ | refine z2 ?_ | refine zV ?_ | refine And.intro vRepl ?_ | refine And.intro vReplL ?_ | refine And.intro ?_ ?_ | exact trivial) <;> try (conv => whnf))
  intro i ⟨hi, hq⟩
  conv => whnf
  repeat' first | ((first | refine z0 ?_ | (apply zI; refine zP (c_l01Unit hm (i + 1) vAr vAr) ?_) | (refine And.intro (fun h => ?_) (fun h => ?_) <;> (try simp only [cnt1, ints_length] at h)) | refine zS ?_ | refine zV ?_ | (apply zI; refine zP vObx ?_) | refine Alt.fst ?_ | refine Or.inl ?_) <;> conv => whnf) | fail
  · refine Exists.intro (i + 1) (And.intro ⟨by omega, fun q h1 h2 => ?_⟩ (And.intro (by omega) ?_))
    · rcases Nat.lt_or_ge i q with h' | h'
      · rw [show q = i + 1 by omega]; exact of_decide_eq_true (by assumption)
      · exact hq q h1 h'
    first | refine WeakS.auto ?_ | refine Weak.auto ?_
    conv => whnf
    repeat' ((first | refine z1 ?_ | refine z2 ?_ | refine zV ?_ | refine And.intro vRepl ?_ | refine And.intro vReplL ?_ | refine And.intro ?_ ?_ | exact trivial) <;> try (conv => whnf))
  · exact dbool_congr (unitsB_not (i := i + 1) (by omega) (of_decide_eq_false (by assumption))).symm
  · exact dbool_congr (unitsB_of (fun q h1 h2 => hq q h1 (by omega))).symm
def codeN (m : Int) (l : List Int) : Int := if inB m 2 10000 then (if numsB m l then 0 else 2) else 1
theorem codeN_0 {m : Int} {l : List Int} (h : codeN m l = 0) : Md m ∧ numsB m l = true := by
  unfold codeN at h; split at h
  · split at h
    · refine ⟨?_, by assumption⟩
      have : inB m 2 10000 = true := by assumption
      simpa [inB, Md] using this
    · omega
  · omega
theorem c_modular1 (a m : Int) (h1 : inR .i64 (m - 1)) : PureCall Tryz.prog 357 [dint a, .cptr [dint m] 0] (dbool (inB a 0 (m - 1))) := by
  refine pure_of_vc Tryz.tabOk mixOrd Tryz.func357 rfl rfl ?_
  conv => whnf
  repeat' first | ((first | refine z0 ?_ | (apply zI; refine zP (c_isNumber _ _ h1) ?_) | (refine And.intro (fun h => ?_) (fun h => ?_) <;> (try simp only [cnt1, ints_length] at h)) | refine zS ?_ | refine zV ?_ | (apply zI; refine zP vObx ?_) | refine Alt.fst ?_ | refine Or.inl ?_) <;> conv => whnf) | fail
  all_goals (refine dbool_congr ?_; first | rfl | (simp_all []; done) | (simp_all []; omega) | (simp_all []; intros; omega))
theorem c_modular (o : Bool) (m : Int) (l : List Int) (hl : l.length ≤ 1048576) : PureCall Tryz.prog 172 [dint m, .list o 1 (ints l)] (dint (codeN m l)) := by
  refine pure_of_vc Tryz.tabOk mixOrd Tryz.func172 rfl rfl ?_
  conv => whnf
  repeat' first | ((first | refine z0 ?_ | (apply zI; refine zP (c_IsModulus _) ?_) | (apply zI; refine zP (c_allA 357 [dint m] (fun a => inB a 0 (m - 1)) (fun a => c_modular1 a m (h1of (by assumption))) _ l hl) ?_) | (refine And.intro (fun h => ?_) (fun h => ?_) <;> (try simp only [cnt1, ints_length] at h)) | refine zS ?_ | refine zV ?_ | (apply zI; refine zP vObx ?_) | refine Alt.fst ?_ | refine Or.inl ?_) <;> conv => whnf) | fail
  all_goals (refine congrArg dint ?_; simp_all [codeN, numsB])
theorem c_l01Code (o : Bool) (m : Int) (l : List Int) (hl : l.length ≤ 1048576) : PureCall Tryz.prog 197 [dint m, .list o 1 (ints l)] (dint (codeN m l)) := by
  refine pure_of_vc Tryz.tabOk mixOrd Tryz.func197 rfl rfl ?_
  conv => whnf
  repeat' first | ((first | refine z0 ?_ | (apply zI; refine zP (c_l01Modulus _) ?_) | (apply zI; refine zP (c_l01Numbers _ m l (h1of (by assumption)) (by omega)) ?_) | (refine And.intro (fun h => ?_) (fun h => ?_) <;> (try simp only [cnt1, ints_length] at h)) | refine zS ?_ | refine zV ?_ | (apply zI; refine zP vObx ?_) | refine Alt.fst ?_ | refine Or.inl ?_) <;> conv => whnf) | fail
  all_goals (refine congrArg dint ?_; simp_all [codeN])
theorem c_l01Pow (hm : Md m) (a : Int) (k : Nat) (hk : k ≤ 4611686018427387904) {K : Int} (hK : K = k) : PureCall Tryz.prog 222 [dint m, dint a, dint K] (dint (pw (Zm.mk m a) k).val) := by
  subst hK
  have hm1 := hm.1
  have hm2 := hm.2
  refine pure_of_vc Tryz.tabOk mixOrd Tryz.func222 rfl rfl ?_
  conv => whnf
  repeat' first | ((first | refine z0 ?_ | (apply zI; refine zP (c_l01Mod _ _ hm.pos (by omega)) ?_) | (refine And.intro (fun h => ?_) (fun h => ?_) <;> (try simp only [cnt1, ints_length] at h)) | refine zS ?_ | refine zV ?_ | (apply zI; refine zP vObx ?_) | refine Alt.fst ?_ | refine Or.inl ?_) <;> conv => whnf) | fail
  refine loop_at Tryz.tabOk mixOrd (α := Zm m × Zm m × Nat) (fun x => [(7, dint x.1.val), (1, dint x.2.1.val), (2, dint x.2.2)]) (fun x => []) (fun x => x.1 * pw x.2.1 x.2.2 = pw (Zm.mk m a) k ∧ x.2.2 ≤ 4611686018427387904) (fun x => x.2.2) (1, Zm.mk m a, k) ?_ ?_ ?_
  · exact ⟨CR.one_mul _, hk⟩
  · conv => whnf
    first | refine WeakS.auto ?_ | refine Weak.auto ?_
    conv => whnf
    repeat' ((first | refine z1 ?_ | refine z2 ?_ | refine zV ?_ | refine And.intro vRepl ?_ | refine And.intro vReplL ?_ | refine And.intro ?_ ?_ | exact trivial) <;> try (conv => whnf))
    all_goals exact Zm.tmod_val (by omega) rfl
  intro ⟨x, y, q⟩ ⟨hx, hq⟩
  simp only at hx hq
  conv => whnf
  repeat' first | ((first | refine z0 ?_ | (refine And.intro (fun h => ?_) (fun h => ?_) <;> (try simp only [cnt1, ints_length] at h)) | refine zS ?_ | refine zV ?_ | (apply zI; refine zP vObx ?_) | refine Alt.fst ?_ | refine Or.inl ?_) <;> conv => whnf) | fail
  · refine Exists.intro (x * y, y * y, q / 2) (And.intro ⟨by simp only; rw [pw_odd x y (by rw [tmod2] at *; omega)]; exact hx, by simp only; omega⟩ (And.intro (by simp only; omega) ?_))
    first | refine WeakS.auto ?_ | refine Weak.auto ?_
    conv => whnf
    repeat' ((first | refine z1 ?_ | refine z2 ?_ | refine zV ?_ | refine And.intro vRepl ?_ | refine And.intro vReplL ?_ | refine And.intro ?_ ?_ | exact trivial) <;> try (conv => whnf))
    all_goals first | exact tm_mul hm _ _ | exact tdiv2 _
  · refine Exists.intro (x, y * y, q / 2) (And.intro ⟨by simp only; rw [pw_even x y (by rw [tmod2] at *; omega)]; exact hx, by simp only; omega⟩ (And.intro (by simp only; omega) ?_))
    first | refine WeakS.auto ?_ | refine Weak.auto ?_
    conv => whnf
    repeat' ((first | refine z1 ?_ | refine z2 ?_ | refine zV ?_ | refine And.intro vRepl ?_ | refine And.intro vReplL ?_ | refine And.intro ?_ ?_ | exact trivial) <;> try (conv => whnf))
    all_goals first | exact tm_mul hm _ _ | exact tdiv2 _
  · refine congrArg dint ?_
    rw [show q = 0 by omega, pw_zero, Go.Fg.mul_one] at hx
    rw [hx]
theorem c_variable (n : Nat) {d : Int} (hd : d + 1 = n) (hn : 2 ≤ n ∧ n ≤ 100) (hm : Md m) : PureCall Tryz.prog 219 [dint m, dint d] (SerD m true n (PS.X : PS (Zm m))) := by
  have hm1 := hm.1
  refine pure_of_vc Tryz.tabOk mixOrd Tryz.func219 rfl rfl ?_
  conv => whnf
  repeat' first | ((first | refine z0 ?_ | (apply zI; refine zP (c_zero n hd vAr) ?_) | (refine And.intro (fun h => ?_) (fun h => ?_) <;> (try simp only [cnt1, ints_length] at h)) | refine zS ?_ | refine zV ?_ | (apply zI; refine zP vObx ?_) | refine Alt.fst ?_ | refine Or.inl ?_) <;> conv => whnf) | fail
  refine serD_congr (L_set_eq (1 : Zm m) (Zm.val_one (by omega)).symm (fun i hi => ?_))
  rw [upd_c, X_c]; split <;> rfl
end Go.Proofs

