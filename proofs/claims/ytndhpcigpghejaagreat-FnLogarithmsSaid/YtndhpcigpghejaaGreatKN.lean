import Derived.Test.YtndhpcigpghejaaGreatK2
import Derived.Test.YtndhpcigpghejaaGreatK3
import Derived.Test.YtndhpcigpghejaaGreatK9
import Derived.Test.YtndhpcigpghejaaGreatAlg7
namespace Go.Proofs
open Go Go.Vm Go.Fg Go.Fg.PS
set_option maxRecDepth 100000
set_option maxHeartbeats 4000000
set_option linter.unusedSimpArgs false
set_option linter.unusedVariables false
variable {m : Int}
theorem c_gcd (a b : Nat) (ha : a ≤ 4611686018427387904) (hb : b ≤ 4611686018427387904) : PureCall Tryz.prog 448 [dint a, dint b] (dint (Nat.gcd a b : Nat)) := by
 refine pure_of_vc Tryz.tabOk mixOrd Tryz.func448 rfl rfl ?_
 conv => whnf
 refine loop_at Tryz.tabOk mixOrd (α := Nat × Nat) (fun x => [(0, dint x.1), (1, dint x.2)]) (fun x => []) (fun x => Nat.gcd x.1 x.2 = Nat.gcd a b ∧ x.1 ≤ 4611686018427387904 ∧ x.2 ≤ 4611686018427387904) (fun x => x.2) ((a, b)) ?_ ?_ ?_
 · exact ⟨rfl, ha, hb⟩
 · conv => whnf
   first | refine WeakS.auto ?_ | refine Weak.auto ?_
   conv => whnf
   repeat' ((first | refine z1 ?_ | refine z2 ?_ | refine zV ?_ | refine And.intro vRepl ?_ | refine And.intro vReplL ?_ | refine And.intro ?_ ?_ | exact trivial) <;> try (conv => whnf))
 intro ⟨x, y⟩ ⟨h1, h2, h3⟩
 simp only at h1 h2 h3
 conv => whnf
 repeat' first | ((first | refine z0 ?_ | (refine And.intro (fun h => ?_) (fun h => ?_) <;> (try simp only [cnt1, ints_length] at h)) | refine zS ?_ | refine zV ?_ | (apply zI; refine zP vObx ?_) | refine Alt.fst ?_ | refine Or.inl ?_) <;> conv => whnf) | fail
 · have hy : y ≠ 0 := by omega
   have hlt := Nat.mod_lt x (show y > 0 by omega)
   refine Exists.intro (y, x % y) (And.intro ⟨by rw [← h1, Nat.gcd_comm y, ← Nat.gcd_rec, Nat.gcd_comm], h3, by simp only; omega⟩ (And.intro hlt ?_))
   first | refine WeakS.auto ?_ | refine Weak.auto ?_
   conv => whnf
   repeat' ((first | refine z1 ?_ | refine z2 ?_ | refine zV ?_ | refine And.intro vRepl ?_ | refine And.intro vReplL ?_ | refine And.intro ?_ ?_ | exact trivial) <;> try (conv => whnf))
 · refine congrArg dint ?_
   rw [← h1, show y = 0 by omega, Nat.gcd_zero_right]
   show max (x : Int) (0 - (x : Int)) = x
   omega
theorem c_l01Gcd (a b : Nat) (ha : a ≤ 4611686018427387904) (hb : b ≤ 4611686018427387904) : PureCall Tryz.prog 388 [dint a, dint b] (dint (Nat.gcd a b : Nat)) := by
 refine pure_of_vc Tryz.tabOk mixOrd Tryz.func388 rfl rfl ?_
 conv => whnf
 repeat' first | ((first | refine z0 ?_ | (refine And.intro (fun h => ?_) (fun h => ?_) <;> (try simp only [cnt1, ints_length] at h)) | refine zS ?_ | refine zV ?_ | (apply zI; refine zP vObx ?_) | refine Alt.fst ?_ | refine Or.inl ?_) <;> conv => whnf) | fail
 all_goals try (exfalso; omega)
 refine loop_at Tryz.tabOk mixOrd (α := Nat × Nat) (fun x => [(0, dint x.1), (1, dint x.2)]) (fun x => []) (fun x => Nat.gcd x.1 x.2 = Nat.gcd a b ∧ x.1 ≤ 4611686018427387904 ∧ x.2 ≤ 4611686018427387904) (fun x => x.2) ((a, b)) ?_ ?_ ?_
 · exact ⟨rfl, ha, hb⟩
 · conv => whnf
   first | refine WeakS.auto ?_ | refine Weak.auto ?_
   conv => whnf
   repeat' ((first | refine z1 ?_ | refine z2 ?_ | refine zV ?_ | refine And.intro vRepl ?_ | refine And.intro vReplL ?_ | refine And.intro ?_ ?_ | exact trivial) <;> try (conv => whnf))
 intro ⟨x, y⟩ ⟨h1, h2, h3⟩
 simp only at h1 h2 h3
 conv => whnf
 repeat' first | ((first | refine z0 ?_ | (refine And.intro (fun h => ?_) (fun h => ?_) <;> (try simp only [cnt1, ints_length] at h)) | refine zS ?_ | refine zV ?_ | (apply zI; refine zP vObx ?_) | refine Alt.fst ?_ | refine Or.inl ?_) <;> conv => whnf) | fail
 · have hy : y ≠ 0 := by omega
   have hlt := Nat.mod_lt x (show y > 0 by omega)
   refine Exists.intro (y, x % y) (And.intro ⟨by rw [← h1, Nat.gcd_comm y, ← Nat.gcd_rec, Nat.gcd_comm], h3, by simp only; omega⟩ (And.intro hlt ?_))
   first | refine WeakS.auto ?_ | refine Weak.auto ?_
   conv => whnf
   repeat' ((first | refine z1 ?_ | refine z2 ?_ | refine zV ?_ | refine And.intro vRepl ?_ | refine And.intro vReplL ?_ | refine And.intro ?_ ?_ | exact trivial) <;> try (conv => whnf))
 · refine congrArg dint ?_
   rw [← h1, show y = 0 by omega, Nat.gcd_zero_right]
def unitB (m : Int) (a : Nat) : Bool := decide (Nat.gcd a m.toNat = 1)
theorem c_isUnit (hm : Md m) (a : Nat) (ha : a ≤ 4611686018427387904) {A : Int} (hA : A = a) : PureCall Tryz.prog 378 [dint m, dint A] (dbool (unitB m a)) := by
 subst hA
 have hm1 := hm.1
 have hm2 := hm.2
 have key := c_gcd a m.toNat ha (by omega)
 rw [Int.toNat_of_nonneg (by omega)] at key
 refine pure_of_vc Tryz.tabOk mixOrd Tryz.func378 rfl rfl ?_
 conv => whnf
 repeat' first | ((first | refine z0 ?_ | (apply zI; refine zP (key) ?_) | (refine And.intro (fun h => ?_) (fun h => ?_) <;> (try simp only [cnt1, ints_length] at h)) | refine zS ?_ | refine zV ?_ | (apply zI; refine zP vObx ?_) | refine Alt.fst ?_ | refine Or.inl ?_) <;> conv => whnf) | fail
 all_goals (refine dbool_congr ?_; simp only [unitB]; simp; omega)
theorem c_areUnits (hm : Md m) (k : Nat) (hk : k ≤ 1000000) {K : Int} (hK : K = k) : PureCall Tryz.prog 240 [dint m, dint K] (dbool (unitsB m k)) := by
 subst hK
 refine pure_of_vc Tryz.tabOk mixOrd Tryz.func240 rfl rfl ?_
 conv => whnf
 repeat' first | ((first | refine z0 ?_ | (refine And.intro (fun h => ?_) (fun h => ?_) <;> (try simp only [cnt1, ints_length] at h)) | refine zS ?_ | refine zV ?_ | (apply zI; refine zP vObx ?_) | refine Alt.fst ?_ | refine Or.inl ?_) <;> conv => whnf) | fail
 refine loop_at Tryz.tabOk mixOrd (α := Nat) (fun i => [(5, dint ((i : Int) + 1))]) (fun i => []) (fun i => i ≤ k ∧ ∀ q : Nat, 1 ≤ q → q ≤ i → Nat.gcd q m.toNat = 1) (fun i => k - i) (0) ?_ ?_ ?_
 · exact ⟨by omega, by omega⟩
 · conv => whnf
   first | refine WeakS.auto ?_ | refine Weak.auto ?_
   conv => whnf
   repeat' ((first | refine z1 ?_ | refine z2 ?_ | refine zV ?_ | refine And.intro vRepl ?_ | refine And.intro vReplL ?_ | refine And.intro ?_ ?_ | exact trivial) <;> try (conv => whnf))
 intro i ⟨hi, hq⟩
 conv => whnf
 repeat' first | ((first | refine z0 ?_ | (apply zI; refine zP (c_isUnit hm (i + 1) vAr vAr) ?_) | (refine And.intro (fun h => ?_) (fun h => ?_) <;> (try simp only [cnt1, ints_length] at h)) | refine zS ?_ | refine zV ?_ | (apply zI; refine zP vObx ?_) | refine Alt.fst ?_ | refine Or.inl ?_) <;> conv => whnf) | fail
 · refine Exists.intro (i + 1) (And.intro ⟨by omega, fun q h1 h2 => ?_⟩ (And.intro (by omega) ?_))
   · rcases Nat.lt_or_ge i q with h' | h'
     · rw [show q = i + 1 by omega]; exact of_decide_eq_true (by assumption)
     · exact hq q h1 h'
   first | refine WeakS.auto ?_ | refine Weak.auto ?_
   conv => whnf
   repeat' ((first | refine z1 ?_ | refine z2 ?_ | refine zV ?_ | refine And.intro vRepl ?_ | refine And.intro vReplL ?_ | refine And.intro ?_ ?_ | exact trivial) <;> try (conv => whnf))
 · exact dbool_congr (unitsB_not (i := i + 1) (by omega) (of_decide_eq_false (by assumption))).symm
 · exact dbool_congr (unitsB_of (fun q h1 h2 => hq q h1 (by omega))).symm
theorem c_l01Unit (hm : Md m) (a : Nat) (ha : a ≤ 4611686018427387904) {A : Int} (hA : A = a) : PureCall Tryz.prog 262 [dint m, dint A] (dbool (unitB m a)) := by
 subst hA
 have hm1 := hm.1
 have hm2 := hm.2
 have key := c_l01Gcd a m.toNat ha (by omega)
 rw [Int.toNat_of_nonneg (by omega)] at key
 refine pure_of_vc Tryz.tabOk mixOrd Tryz.func262 rfl rfl ?_
 conv => whnf
 repeat' first | ((first | refine z0 ?_ | (apply zI; refine zP (key) ?_) | (refine And.intro (fun h => ?_) (fun h => ?_) <;> (try simp only [cnt1, ints_length] at h)) | refine zS ?_ | refine zV ?_ | (apply zI; refine zP vObx ?_) | refine Alt.fst ?_ | refine Or.inl ?_) <;> conv => whnf) | fail
 all_goals (refine dbool_congr ?_; simp only [unitB]; simp; omega)
theorem c_l02Integers (hm : Md m) (k : Nat) (hk : k ≤ 1000000) {K : Int} (hK : K = k) : PureCall Tryz.prog 244 [dint m, dint K] (dbool (unitsB m k)) := by
 subst hK
 refine pure_of_vc Tryz.tabOk mixOrd Tryz.func244 rfl rfl ?_
 conv => whnf
 repeat' first | ((first | refine z0 ?_ | (refine And.intro (fun h => ?_) (fun h => ?_) <;> (try simp only [cnt1, ints_length] at h)) | refine zS ?_ | refine zV ?_ | (apply zI; refine zP vObx ?_) | refine Alt.fst ?_ | refine Or.inl ?_) <;> conv => whnf) | fail
 refine loop_at Tryz.tabOk mixOrd (α := Nat) (fun i => [(5, dint ((i : Int) + 1))]) (fun i => []) (fun i => i ≤ k ∧ ∀ q : Nat, 1 ≤ q → q ≤ i → Nat.gcd q m.toNat = 1) (fun i => k - i) (0) ?_ ?_ ?_
 · exact ⟨by omega, by omega⟩
 · conv => whnf
   first | refine WeakS.auto ?_ | refine Weak.auto ?_
   conv => whnf
   repeat' ((first | refine z1 ?_ | refine z2 ?_ | refine zV ?_ | refine And.intro vRepl ?_ | refine And.intro vReplL ?_ | refine And.intro ?_ ?_ | exact trivial) <;> try (conv => whnf))
 intro i ⟨hi, hq⟩
 conv => whnf
 repeat' first | ((first | refine z0 ?_ | (apply zI; refine zP (c_l01Unit hm (i + 1) vAr vAr) ?_) | (refine And.intro (fun h => ?_) (fun h => ?_) <;> (try simp only [cnt1, ints_length] at h)) | refine zS ?_ | refine zV ?_ | (apply zI; refine zP vObx ?_) | refine Alt.fst ?_ | refine Or.inl ?_) <;> conv => whnf) | fail
 · refine Exists.intro (i + 1) (And.intro ⟨by omega, fun q h1 h2 => ?_⟩ (And.intro (by omega) ?_))
   · rcases Nat.lt_or_ge i q with h' | h'
     · rw [show q = i + 1 by omega]; exact of_decide_eq_true (by assumption)
     · exact hq q h1 h'
   first | refine WeakS.auto ?_ | refine Weak.auto ?_
   conv => whnf
   repeat' ((first | refine z1 ?_ | refine z2 ?_ | refine zV ?_ | refine And.intro vRepl ?_ | refine And.intro vReplL ?_ | refine And.intro ?_ ?_ | exact trivial) <;> try (conv => whnf))
 · exact dbool_congr (unitsB_not (i := i + 1) (by omega) (of_decide_eq_false (by assumption))).symm
 · exact dbool_congr (unitsB_of (fun q h1 h2 => hq q h1 (by omega))).symm
theorem c_variable (n : Nat) {d : Int} (hd : d + 1 = n) (hn : 2 ≤ n ∧ n ≤ 100) (hm : Md m) : PureCall Tryz.prog 190 [dint m, dint d] (SerD m true n (PS.X : PS (Zm m))) := by
 have hm1 := hm.1
 refine pure_of_vc Tryz.tabOk mixOrd Tryz.func190 rfl rfl ?_
 conv => whnf
 repeat' first | ((first | refine z0 ?_ | (apply zI; refine zP (c_zero n hd vAr) ?_) | (refine And.intro (fun h => ?_) (fun h => ?_) <;> (try simp only [cnt1, ints_length] at h)) | refine zS ?_ | refine zV ?_ | (apply zI; refine zP vObx ?_) | refine Alt.fst ?_ | refine Or.inl ?_) <;> conv => whnf) | fail
 refine serD_congr (L_set_eq (1 : Zm m) (Zm.val_one (by omega)).symm (fun i hi => ?_))
 rw [upd_c, X_c]; split <;> rfl
end Go.Proofs
