/- Units; genera from values on projective spaces; Hirzebruch's series. -/
import Derived.Test.YtbpiacnadjfkhaaK8
import Derived.Test.YtbpiacnadjfkhaaK9
import Derived.Test.YtbpiacnadjfkhaaAlg6
namespace Go.Proofs
open Go Go.Vm Go.Fg Go.Fg.PS
set_option maxRecDepth 100000
set_option maxHeartbeats 4000000
set_option linter.unusedSimpArgs false
set_option linter.unusedVariables false
variable {m : Int}

theorem tmod_nat (a b : Nat) : ((a : Int)).tmod (b : Int) = ((a % b : Nat) : Int) := by
  rw [Int.tmod_eq_emod_of_nonneg (by omega)]; rfl
theorem c_gcd (a b : Nat) (ha : a ≤ 4611686018427387904) (hb : b ≤ 4611686018427387904) : PureCall Try.prog 176 [dint a, dint b] (dint (Nat.gcd a b : Nat)) := by
  refine pure_of_vc Try.tabOk mixOrd Try.func176 rfl rfl ?_
  conv => whnf
  refine loop_at Try.tabOk mixOrd (α := Nat × Nat) (fun x => [(0, dint x.1), (1, dint x.2)]) (fun x => []) (fun x => Nat.gcd x.1 x.2 = Nat.gcd a b ∧ x.1 ≤ 4611686018427387904 ∧ x.2 ≤ 4611686018427387904) (fun x => x.2) ((a, b)) ?_ ?_ ?_
  · exact ⟨rfl, ha, hb⟩
  · conv => whnf
    first | refine WeakS.auto ?_ | refine Weak.auto ?_
    conv => whnf
    repeat' first
      | exact trivial
      | (refine And.intro rfl ?_; conv => whnf)
      | (refine And.intro (eqV_int vAr) ?_; conv => whnf)
      | (refine And.intro vOb ?_; conv => whnf)
      | (refine And.intro vRepl ?_; conv => whnf)
      | (refine And.intro vReplL ?_; conv => whnf)
      | (refine And.intro ?_ ?_ <;> try (conv => whnf))
  intro ⟨x, y⟩ ⟨h1, h2, h3⟩
  simp only at h1 h2 h3
  conv => whnf
  repeat' first
    | (refine And.intro (Or.inl rfl) ?_; conv => whnf)
    | (refine And.intro (fun h => ?_) (fun h => ?_) <;> (try simp only [cnt1, ints_length] at h) <;> conv => whnf)
    | (refine And.intro (show slotsOk _ = true by decide +kernel) ?_; conv => whnf)
    | (refine And.intro vOb ?_; conv => whnf)
    | fail
    | (apply Exists.intro; refine And.intro vObx ?_; conv => whnf)
    | fail
    | (refine Or.inl ?_; conv => whnf)
    | fail
  · have hy : y ≠ 0 := by omega
    have hlt := Nat.mod_lt x (show y > 0 by omega)
    refine Exists.intro (y, x % y) (And.intro ⟨by rw [← h1, Nat.gcd_comm y, ← Nat.gcd_rec, Nat.gcd_comm], h3, by simp only; omega⟩ (And.intro hlt ?_))
    first | refine WeakS.auto ?_ | refine Weak.auto ?_
    conv => whnf
    repeat' first
      | exact trivial
      | (refine And.intro rfl ?_; conv => whnf)
      | (refine And.intro (eqV_int vAr) ?_; conv => whnf)
      | (refine And.intro vOb ?_; conv => whnf)
      | (refine And.intro vRepl ?_; conv => whnf)
      | (refine And.intro vReplL ?_; conv => whnf)
      | (refine And.intro ?_ ?_ <;> try (conv => whnf))
  · refine congrArg dint ?_
    rw [← h1, show y = 0 by omega, Nat.gcd_zero_right]
    show max (x : Int) (0 - (x : Int)) = x
    omega
theorem c_l01Gcd (a b : Nat) (ha : a ≤ 4611686018427387904) (hb : b ≤ 4611686018427387904) : PureCall Try.prog 174 [dint a, dint b] (dint (Nat.gcd a b : Nat)) := by
  refine pure_of_vc Try.tabOk mixOrd Try.func174 rfl rfl ?_
  conv => whnf
  repeat' first
    | (refine And.intro (Or.inl rfl) ?_; conv => whnf)
    | (refine And.intro (fun h => ?_) (fun h => ?_) <;> (try simp only [cnt1, ints_length] at h) <;> conv => whnf)
    | (refine And.intro (show slotsOk _ = true by decide +kernel) ?_; conv => whnf)
    | (refine And.intro vOb ?_; conv => whnf)
    | fail
    | (apply Exists.intro; refine And.intro vObx ?_; conv => whnf)
    | fail
    | (refine Or.inl ?_; conv => whnf)
    | fail
  all_goals try (exfalso; omega)
  refine loop_at Try.tabOk mixOrd (α := Nat × Nat) (fun x => [(0, dint x.1), (1, dint x.2)]) (fun x => []) (fun x => Nat.gcd x.1 x.2 = Nat.gcd a b ∧ x.1 ≤ 4611686018427387904 ∧ x.2 ≤ 4611686018427387904) (fun x => x.2) ((a, b)) ?_ ?_ ?_
  · exact ⟨rfl, ha, hb⟩
  · conv => whnf
    first | refine WeakS.auto ?_ | refine Weak.auto ?_
    conv => whnf
    repeat' first
      | exact trivial
      | (refine And.intro rfl ?_; conv => whnf)
      | (refine And.intro (eqV_int vAr) ?_; conv => whnf)
      | (refine And.intro vOb ?_; conv => whnf)
      | (refine And.intro vRepl ?_; conv => whnf)
      | (refine And.intro vReplL ?_; conv => whnf)
      | (refine And.intro ?_ ?_ <;> try (conv => whnf))
  intro ⟨x, y⟩ ⟨h1, h2, h3⟩
  simp only at h1 h2 h3
  conv => whnf
  repeat' first
    | (refine And.intro (Or.inl rfl) ?_; conv => whnf)
    | (refine And.intro (fun h => ?_) (fun h => ?_) <;> (try simp only [cnt1, ints_length] at h) <;> conv => whnf)
    | (refine And.intro (show slotsOk _ = true by decide +kernel) ?_; conv => whnf)
    | (refine And.intro vOb ?_; conv => whnf)
    | fail
    | (apply Exists.intro; refine And.intro vObx ?_; conv => whnf)
    | fail
    | (refine Or.inl ?_; conv => whnf)
    | fail
  · have hy : y ≠ 0 := by omega
    have hlt := Nat.mod_lt x (show y > 0 by omega)
    refine Exists.intro (y, x % y) (And.intro ⟨by rw [← h1, Nat.gcd_comm y, ← Nat.gcd_rec, Nat.gcd_comm], h3, by simp only; omega⟩ (And.intro hlt ?_))
    first | refine WeakS.auto ?_ | refine Weak.auto ?_
    conv => whnf
    repeat' first
      | exact trivial
      | (refine And.intro rfl ?_; conv => whnf)
      | (refine And.intro (eqV_int vAr) ?_; conv => whnf)
      | (refine And.intro vOb ?_; conv => whnf)
      | (refine And.intro vRepl ?_; conv => whnf)
      | (refine And.intro vReplL ?_; conv => whnf)
      | (refine And.intro ?_ ?_ <;> try (conv => whnf))
  · refine congrArg dint ?_
    rw [← h1, show y = 0 by omega, Nat.gcd_zero_right]
def unitB (m : Int) (a : Nat) : Bool := decide (Nat.gcd a m.toNat = 1)
theorem c_isUnit (hm : Md m) (a : Nat) (ha : a ≤ 4611686018427387904) {A : Int} (hA : A = a) : PureCall Try.prog 169 [dint m, dint A] (dbool (unitB m a)) := by
  subst hA
  have hm1 := hm.1
  have hm2 := hm.2
  have key := c_gcd a m.toNat ha (by omega)
  rw [Int.toNat_of_nonneg (by omega)] at key
  refine pure_of_vc Try.tabOk mixOrd Try.func169 rfl rfl ?_
  conv => whnf
  repeat' first
    | (refine And.intro (Or.inl rfl) ?_; conv => whnf)
    | (refine Or.inl (Or.inl (Exists.intro _ (And.intro (key) ?_))); conv => whnf)
    | (refine Or.inl (Exists.intro _ (And.intro (key) ?_)); conv => whnf)
    | (apply Exists.intro; refine And.intro (key) ?_; conv => whnf)
    | (refine And.intro (fun h => ?_) (fun h => ?_) <;> (try simp only [cnt1, ints_length] at h) <;> conv => whnf)
    | (refine And.intro (show slotsOk _ = true by decide +kernel) ?_; conv => whnf)
    | (refine And.intro vOb ?_; conv => whnf)
    | fail
    | (apply Exists.intro; refine And.intro vObx ?_; conv => whnf)
    | fail
    | (refine Or.inl ?_; conv => whnf)
    | fail
  all_goals (refine dbool_congr ?_; simp only [unitB]; simp; omega)
theorem c_areUnits (hm : Md m) (k : Nat) (hk : k ≤ 1000000) {K : Int} (hK : K = k) : PureCall Try.prog 125 [dint m, dint K] (dbool (unitsB m k)) := by
  subst hK
  refine pure_of_vc Try.tabOk mixOrd Try.func125 rfl rfl ?_
  conv => whnf
  repeat' first
    | (refine And.intro (Or.inl rfl) ?_; conv => whnf)
    | (refine And.intro (fun h => ?_) (fun h => ?_) <;> (try simp only [cnt1, ints_length] at h) <;> conv => whnf)
    | (refine And.intro (show slotsOk _ = true by decide +kernel) ?_; conv => whnf)
    | (refine And.intro vOb ?_; conv => whnf)
    | fail
    | (apply Exists.intro; refine And.intro vObx ?_; conv => whnf)
    | fail
    | (refine Or.inl ?_; conv => whnf)
    | fail
  refine loop_at Try.tabOk mixOrd (α := Nat) (fun i => [(5, dint ((i : Int) + 1))]) (fun i => []) (fun i => i ≤ k ∧ ∀ q : Nat, 1 ≤ q → q ≤ i → Nat.gcd q m.toNat = 1) (fun i => k - i) (0) ?_ ?_ ?_
  · exact ⟨by omega, by omega⟩
  · conv => whnf
    first | refine WeakS.auto ?_ | refine Weak.auto ?_
    conv => whnf
    repeat' first
      | exact trivial
      | (refine And.intro rfl ?_; conv => whnf)
      | (refine And.intro (eqV_int vAr) ?_; conv => whnf)
      | (refine And.intro vOb ?_; conv => whnf)
      | (refine And.intro vRepl ?_; conv => whnf)
      | (refine And.intro vReplL ?_; conv => whnf)
      | (refine And.intro ?_ ?_ <;> try (conv => whnf))
  intro i ⟨hi, hq⟩
  conv => whnf
  repeat' first
    | (refine And.intro (Or.inl rfl) ?_; conv => whnf)
    | (refine Or.inl (Or.inl (Exists.intro _ (And.intro (c_isUnit hm (i + 1) vAr vAr) ?_))); conv => whnf)
    | (refine Or.inl (Exists.intro _ (And.intro (c_isUnit hm (i + 1) vAr vAr) ?_)); conv => whnf)
    | (apply Exists.intro; refine And.intro (c_isUnit hm (i + 1) vAr vAr) ?_; conv => whnf)
    | (refine And.intro (fun h => ?_) (fun h => ?_) <;> (try simp only [cnt1, ints_length] at h) <;> conv => whnf)
    | (refine And.intro (show slotsOk _ = true by decide +kernel) ?_; conv => whnf)
    | (refine And.intro vOb ?_; conv => whnf)
    | fail
    | (apply Exists.intro; refine And.intro vObx ?_; conv => whnf)
    | fail
    | (refine Or.inl ?_; conv => whnf)
    | fail
  · refine Exists.intro (i + 1) (And.intro ⟨by omega, fun q h1 h2 => ?_⟩ (And.intro (by omega) ?_))
    · rcases Nat.lt_or_ge i q with h' | h'
      · rw [show q = i + 1 by omega]; exact of_decide_eq_true (by assumption)
      · exact hq q h1 h'
    first | refine WeakS.auto ?_ | refine Weak.auto ?_
    conv => whnf
    repeat' first
      | exact trivial
      | (refine And.intro rfl ?_; conv => whnf)
      | (refine And.intro (eqV_int vAr) ?_; conv => whnf)
      | (refine And.intro vOb ?_; conv => whnf)
      | (refine And.intro vRepl ?_; conv => whnf)
      | (refine And.intro vReplL ?_; conv => whnf)
      | (refine And.intro ?_ ?_ <;> try (conv => whnf))
  · exact dbool_congr (unitsB_not (i := i + 1) (by omega) (of_decide_eq_false (by assumption))).symm
  · exact dbool_congr (unitsB_of (fun q h1 h2 => hq q h1 (by omega))).symm
theorem c_l01Unit (hm : Md m) (a : Nat) (ha : a ≤ 4611686018427387904) {A : Int} (hA : A = a) : PureCall Try.prog 167 [dint m, dint A] (dbool (unitB m a)) := by
  subst hA
  have hm1 := hm.1
  have hm2 := hm.2
  have key := c_l01Gcd a m.toNat ha (by omega)
  rw [Int.toNat_of_nonneg (by omega)] at key
  refine pure_of_vc Try.tabOk mixOrd Try.func167 rfl rfl ?_
  conv => whnf
  repeat' first
    | (refine And.intro (Or.inl rfl) ?_; conv => whnf)
    | (refine Or.inl (Or.inl (Exists.intro _ (And.intro (key) ?_))); conv => whnf)
    | (refine Or.inl (Exists.intro _ (And.intro (key) ?_)); conv => whnf)
    | (apply Exists.intro; refine And.intro (key) ?_; conv => whnf)
    | (refine And.intro (fun h => ?_) (fun h => ?_) <;> (try simp only [cnt1, ints_length] at h) <;> conv => whnf)
    | (refine And.intro (show slotsOk _ = true by decide +kernel) ?_; conv => whnf)
    | (refine And.intro vOb ?_; conv => whnf)
    | fail
    | (apply Exists.intro; refine And.intro vObx ?_; conv => whnf)
    | fail
    | (refine Or.inl ?_; conv => whnf)
    | fail
  all_goals (refine dbool_congr ?_; simp only [unitB]; simp; omega)
theorem c_l02Integers (hm : Md m) (k : Nat) (hk : k ≤ 1000000) {K : Int} (hK : K = k) : PureCall Try.prog 120 [dint m, dint K] (dbool (unitsB m k)) := by
  subst hK
  refine pure_of_vc Try.tabOk mixOrd Try.func120 rfl rfl ?_
  conv => whnf
  repeat' first
    | (refine And.intro (Or.inl rfl) ?_; conv => whnf)
    | (refine And.intro (fun h => ?_) (fun h => ?_) <;> (try simp only [cnt1, ints_length] at h) <;> conv => whnf)
    | (refine And.intro (show slotsOk _ = true by decide +kernel) ?_; conv => whnf)
    | (refine And.intro vOb ?_; conv => whnf)
    | fail
    | (apply Exists.intro; refine And.intro vObx ?_; conv => whnf)
    | fail
    | (refine Or.inl ?_; conv => whnf)
    | fail
  refine loop_at Try.tabOk mixOrd (α := Nat) (fun i => [(5, dint ((i : Int) + 1))]) (fun i => []) (fun i => i ≤ k ∧ ∀ q : Nat, 1 ≤ q → q ≤ i → Nat.gcd q m.toNat = 1) (fun i => k - i) (0) ?_ ?_ ?_
  · exact ⟨by omega, by omega⟩
  · conv => whnf
    first | refine WeakS.auto ?_ | refine Weak.auto ?_
    conv => whnf
    repeat' first
      | exact trivial
      | (refine And.intro rfl ?_; conv => whnf)
      | (refine And.intro (eqV_int vAr) ?_; conv => whnf)
      | (refine And.intro vOb ?_; conv => whnf)
      | (refine And.intro vRepl ?_; conv => whnf)
      | (refine And.intro vReplL ?_; conv => whnf)
      | (refine And.intro ?_ ?_ <;> try (conv => whnf))
  intro i ⟨hi, hq⟩
  conv => whnf
  repeat' first
    | (refine And.intro (Or.inl rfl) ?_; conv => whnf)
    | (refine Or.inl (Or.inl (Exists.intro _ (And.intro (c_l01Unit hm (i + 1) vAr vAr) ?_))); conv => whnf)
    | (refine Or.inl (Exists.intro _ (And.intro (c_l01Unit hm (i + 1) vAr vAr) ?_)); conv => whnf)
    | (apply Exists.intro; refine And.intro (c_l01Unit hm (i + 1) vAr vAr) ?_; conv => whnf)
    | (refine And.intro (fun h => ?_) (fun h => ?_) <;> (try simp only [cnt1, ints_length] at h) <;> conv => whnf)
    | (refine And.intro (show slotsOk _ = true by decide +kernel) ?_; conv => whnf)
    | (refine And.intro vOb ?_; conv => whnf)
    | fail
    | (apply Exists.intro; refine And.intro vObx ?_; conv => whnf)
    | fail
    | (refine Or.inl ?_; conv => whnf)
    | fail
  · refine Exists.intro (i + 1) (And.intro ⟨by omega, fun q h1 h2 => ?_⟩ (And.intro (by omega) ?_))
    · rcases Nat.lt_or_ge i q with h' | h'
      · rw [show q = i + 1 by omega]; exact of_decide_eq_true (by assumption)
      · exact hq q h1 h'
    first | refine WeakS.auto ?_ | refine Weak.auto ?_
    conv => whnf
    repeat' first
      | exact trivial
      | (refine And.intro rfl ?_; conv => whnf)
      | (refine And.intro (eqV_int vAr) ?_; conv => whnf)
      | (refine And.intro vOb ?_; conv => whnf)
      | (refine And.intro vRepl ?_; conv => whnf)
      | (refine And.intro vReplL ?_; conv => whnf)
      | (refine And.intro ?_ ?_ <;> try (conv => whnf))
  · exact dbool_congr (unitsB_not (i := i + 1) (by omega) (of_decide_eq_false (by assumption))).symm
  · exact dbool_congr (unitsB_of (fun q h1 h2 => hq q h1 (by omega))).symm
theorem c_integrated (hm : Md m) (o : Bool) (n : Nat) (hn : 1 ≤ n ∧ n ≤ 50) (a : PS (Zm m)) : PureCall Try.prog 131 [SerD m o n a] (SerD m true (n + 1) (intS a)) := by
  have hm1 := hm.1
  have hm2 := hm.2
  refine pure_of_vc Try.tabOk mixOrd Try.func131 rfl rfl ?_
  conv => whnf
  repeat' first
    | (refine And.intro (Or.inl rfl) ?_; conv => whnf)
    | (refine Or.inl (Or.inl (Exists.intro _ (And.intro (c_degreeS _ _ vAr _) ?_))); conv => whnf)
    | (refine Or.inl (Exists.intro _ (And.intro (c_degreeS _ _ vAr _) ?_)); conv => whnf)
    | (apply Exists.intro; refine And.intro (c_degreeS _ _ vAr _) ?_; conv => whnf)
    | (refine Or.inl (Or.inl (Exists.intro _ (And.intro (c_zero (n + 1) vAr vAr) ?_))); conv => whnf)
    | (refine Or.inl (Exists.intro _ (And.intro (c_zero (n + 1) vAr vAr) ?_)); conv => whnf)
    | (apply Exists.intro; refine And.intro (c_zero (n + 1) vAr vAr) ?_; conv => whnf)
    | (refine And.intro (fun h => ?_) (fun h => ?_) <;> (try simp only [cnt1, ints_length] at h) <;> conv => whnf)
    | (refine And.intro (show slotsOk _ = true by decide +kernel) ?_; conv => whnf)
    | (refine And.intro vOb ?_; conv => whnf)
    | fail
    | (apply Exists.intro; refine And.intro vObx ?_; conv => whnf)
    | fail
    | (refine Or.inl ?_; conv => whnf)
    | fail
  refine loop_at Try.tabOk mixOrd (α := Nat) (fun i => [(15, dint i)]) (fun i => [(4, some ⟨false, 1, ints (L (n + 1) (mix (i + 1) (intS a) 0))⟩)]) (fun i => i ≤ n) (fun i => n - i) (0) ?_ ?_ ?_
  · omega
  · conv => whnf
    first | refine WeakS.auto ?_ | refine Weak.auto ?_
    conv => whnf
    repeat' first
      | exact trivial
      | (refine And.intro rfl ?_; conv => whnf)
      | (refine And.intro (eqV_int vAr) ?_; conv => whnf)
      | (refine And.intro vOb ?_; conv => whnf)
      | (refine And.intro vRepl ?_; conv => whnf)
      | (refine And.intro vReplL ?_; conv => whnf)
      | (refine And.intro ?_ ?_ <;> try (conv => whnf))
    all_goals rw [mix_intS]
  intro i hi
  conv => whnf
  repeat' first
    | (refine And.intro (Or.inl rfl) ?_; conv => whnf)
    | (refine Or.inl (Or.inl (Exists.intro _ (And.intro (c_mod _ _ hm.pos (by omega)) ?_))); conv => whnf)
    | (refine Or.inl (Exists.intro _ (And.intro (c_mod _ _ hm.pos (by omega)) ?_)); conv => whnf)
    | (apply Exists.intro; refine And.intro (c_mod _ _ hm.pos (by omega)) ?_; conv => whnf)
    | (refine Or.inl (Or.inl (Exists.intro _ (And.intro (c_inverse hm _) ?_))); conv => whnf)
    | (refine Or.inl (Exists.intro _ (And.intro (c_inverse hm _) ?_)); conv => whnf)
    | (apply Exists.intro; refine And.intro (c_inverse hm _) ?_; conv => whnf)
    | (refine And.intro (fun h => ?_) (fun h => ?_) <;> (try simp only [cnt1, ints_length] at h) <;> conv => whnf)
    | (refine And.intro (show slotsOk _ = true by decide +kernel) ?_; conv => whnf)
    | (refine And.intro vOb ?_; conv => whnf)
    | fail
    | (apply Exists.intro; refine And.intro vObx ?_; conv => whnf)
    | fail
    | (refine Or.inl ?_; conv => whnf)
    | fail
  · refine Exists.intro (i + 1) (And.intro vAr (And.intro vAr ?_))
    first | refine WeakS.auto ?_ | refine Weak.auto ?_
    conv => whnf
    repeat' first
      | exact trivial
      | (refine And.intro rfl ?_; conv => whnf)
      | (refine And.intro (eqV_int vAr) ?_; conv => whnf)
      | (refine And.intro vOb ?_; conv => whnf)
      | (refine And.intro vRepl ?_; conv => whnf)
      | (refine And.intro vReplL ?_; conv => whnf)
      | (refine And.intro ?_ ?_ <;> try (conv => whnf))
    refine ints_congr' (L_set_eq ((intS a).c (i + 1)) ?_ (Ag.of_eq (mix_succ _ _ _).symm))
    rw [tm_mul hm, invN_mod]; rfl
  · have e : i = n := vAr
    subst e
    exact serD_congr (L_congr (fun k hk => by rw [mix_c, if_pos (by omega)]))
theorem c_l02Integrate (hm : Md m) (o : Bool) (n : Nat) (hn : 1 ≤ n ∧ n ≤ 50) (a : PS (Zm m)) : PureCall Try.prog 130 [dint m, LD o n a] (LD true (n + 1) (intS a)) := by
  have hm1 := hm.1
  have hm2 := hm.2
  refine pure_of_vc Try.tabOk mixOrd Try.func130 rfl rfl ?_
  conv => whnf
  repeat' first
    | (refine And.intro (Or.inl rfl) ?_; conv => whnf)
    | (refine And.intro (fun h => ?_) (fun h => ?_) <;> (try simp only [cnt1, ints_length] at h) <;> conv => whnf)
    | (refine And.intro (show slotsOk _ = true by decide +kernel) ?_; conv => whnf)
    | (refine And.intro vOb ?_; conv => whnf)
    | fail
    | (apply Exists.intro; refine And.intro vObx ?_; conv => whnf)
    | fail
    | (refine Or.inl ?_; conv => whnf)
    | fail
  refine loop_at Try.tabOk mixOrd (α := Nat) (fun i => [(5, .ref 0 [] 1 0 (i + 1)), (6, dint i), (7, .undef)]) (fun i => [(0, some ⟨false, 1, ints (L (i + 1) (intS a))⟩)]) (fun i => i ≤ n) (fun i => n - i) (0) ?_ ?_ ?_
  · omega
  · conv => whnf
    first | refine WeakS.auto ?_ | refine Weak.auto ?_
    conv => whnf
    repeat' first
      | exact trivial
      | (refine And.intro rfl ?_; conv => whnf)
      | (refine And.intro (eqV_int vAr) ?_; conv => whnf)
      | (refine And.intro vOb ?_; conv => whnf)
      | (refine And.intro vRepl ?_; conv => whnf)
      | (refine And.intro vReplL ?_; conv => whnf)
      | (refine And.intro ?_ ?_ <;> try (conv => whnf))
  intro i hi
  conv => whnf
  repeat' first
    | (refine And.intro (Or.inl rfl) ?_; conv => whnf)
    | (refine Or.inl (Or.inl (Exists.intro _ (And.intro (c_l01Inv hm _) ?_))); conv => whnf)
    | (refine Or.inl (Exists.intro _ (And.intro (c_l01Inv hm _) ?_)); conv => whnf)
    | (apply Exists.intro; refine And.intro (c_l01Inv hm _) ?_; conv => whnf)
    | (refine And.intro (fun h => ?_) (fun h => ?_) <;> (try simp only [cnt1, ints_length] at h) <;> conv => whnf)
    | (refine And.intro (show slotsOk _ = true by decide +kernel) ?_; conv => whnf)
    | (refine And.intro vOb ?_; conv => whnf)
    | fail
    | (apply Exists.intro; refine And.intro vObx ?_; conv => whnf)
    | fail
    | (refine Or.inl ?_; conv => whnf)
    | fail
  · refine Exists.intro (i + 1) (And.intro vAr (And.intro vAr ?_))
    first | refine WeakS.auto ?_ | refine Weak.auto ?_
    conv => whnf
    repeat' first
      | exact trivial
      | (refine And.intro rfl ?_; conv => whnf)
      | (refine And.intro (eqV_int vAr) ?_; conv => whnf)
      | (refine And.intro vOb ?_; conv => whnf)
      | (refine And.intro vRepl ?_; conv => whnf)
      | (refine And.intro vReplL ?_; conv => whnf)
      | (refine And.intro ?_ ?_ <;> try (conv => whnf))
    refine ints_congr' (L_push ?_)
    rw [tm_mul hm]; rfl
  · have e : i = n := vAr
    subst e; rfl
def codeN (m : Int) (l : List Int) : Int := if inB m 2 10000 then (if numsB m l then 0 else 2) else 1
theorem codeN_0 {m : Int} {l : List Int} (h : codeN m l = 0) : Md m ∧ numsB m l = true := by
  unfold codeN at h; split at h
  · split at h
    · refine ⟨?_, by assumption⟩
      have : inB m 2 10000 = true := by assumption
      simpa [inB, Md] using this
    · omega
  · omega
theorem c_modular1 (a m : Int) (h1 : inR .i64 (m - 1)) : PureCall Try.prog 168 [dint a, .cptr [dint m] 0] (dbool (inB a 0 (m - 1))) := by
  refine pure_of_vc Try.tabOk mixOrd Try.func168 rfl rfl ?_
  conv => whnf
  repeat' first
    | (refine And.intro (Or.inl rfl) ?_; conv => whnf)
    | (refine Or.inl (Or.inl (Exists.intro _ (And.intro (c_isNumber _ _ h1) ?_))); conv => whnf)
    | (refine Or.inl (Exists.intro _ (And.intro (c_isNumber _ _ h1) ?_)); conv => whnf)
    | (apply Exists.intro; refine And.intro (c_isNumber _ _ h1) ?_; conv => whnf)
    | (refine And.intro (fun h => ?_) (fun h => ?_) <;> (try simp only [cnt1, ints_length] at h) <;> conv => whnf)
    | (refine And.intro (show slotsOk _ = true by decide +kernel) ?_; conv => whnf)
    | (refine And.intro vOb ?_; conv => whnf)
    | fail
    | (apply Exists.intro; refine And.intro vObx ?_; conv => whnf)
    | fail
    | (refine Or.inl ?_; conv => whnf)
    | fail
  all_goals (refine dbool_congr ?_; first | rfl | (simp_all []; done) | (simp_all []; omega) | (simp_all []; intros; omega))
theorem c_modular (o : Bool) (m : Int) (l : List Int) (hl : l.length ≤ 1048576) : PureCall Try.prog 124 [dint m, .list o 1 (ints l)] (dint (codeN m l)) := by
  refine pure_of_vc Try.tabOk mixOrd Try.func124 rfl rfl ?_
  conv => whnf
  repeat' first
    | (refine And.intro (Or.inl rfl) ?_; conv => whnf)
    | (refine Or.inl (Or.inl (Exists.intro _ (And.intro (c_IsModulus _) ?_))); conv => whnf)
    | (refine Or.inl (Exists.intro _ (And.intro (c_IsModulus _) ?_)); conv => whnf)
    | (apply Exists.intro; refine And.intro (c_IsModulus _) ?_; conv => whnf)
    | (refine Or.inl (Or.inl (Exists.intro _ (And.intro (c_allA 168 [dint m] (fun a => inB a 0 (m - 1)) (fun a => c_modular1 a m (h1of (by assumption))) _ l hl) ?_))); conv => whnf)
    | (refine Or.inl (Exists.intro _ (And.intro (c_allA 168 [dint m] (fun a => inB a 0 (m - 1)) (fun a => c_modular1 a m (h1of (by assumption))) _ l hl) ?_)); conv => whnf)
    | (apply Exists.intro; refine And.intro (c_allA 168 [dint m] (fun a => inB a 0 (m - 1)) (fun a => c_modular1 a m (h1of (by assumption))) _ l hl) ?_; conv => whnf)
    | (refine And.intro (fun h => ?_) (fun h => ?_) <;> (try simp only [cnt1, ints_length] at h) <;> conv => whnf)
    | (refine And.intro (show slotsOk _ = true by decide +kernel) ?_; conv => whnf)
    | (refine And.intro vOb ?_; conv => whnf)
    | fail
    | (apply Exists.intro; refine And.intro vObx ?_; conv => whnf)
    | fail
    | (refine Or.inl ?_; conv => whnf)
    | fail
  all_goals (refine congrArg dint ?_; simp_all [codeN, numsB])
theorem c_l01Code (o : Bool) (m : Int) (l : List Int) (hl : l.length ≤ 1048576) : PureCall Try.prog 119 [dint m, .list o 1 (ints l)] (dint (codeN m l)) := by
  refine pure_of_vc Try.tabOk mixOrd Try.func119 rfl rfl ?_
  conv => whnf
  repeat' first
    | (refine And.intro (Or.inl rfl) ?_; conv => whnf)
    | (refine Or.inl (Or.inl (Exists.intro _ (And.intro (c_l01Modulus _) ?_))); conv => whnf)
    | (refine Or.inl (Exists.intro _ (And.intro (c_l01Modulus _) ?_)); conv => whnf)
    | (apply Exists.intro; refine And.intro (c_l01Modulus _) ?_; conv => whnf)
    | (refine Or.inl (Or.inl (Exists.intro _ (And.intro (c_l01Numbers _ m l (h1of (by assumption)) (by omega)) ?_))); conv => whnf)
    | (refine Or.inl (Exists.intro _ (And.intro (c_l01Numbers _ m l (h1of (by assumption)) (by omega)) ?_)); conv => whnf)
    | (apply Exists.intro; refine And.intro (c_l01Numbers _ m l (h1of (by assumption)) (by omega)) ?_; conv => whnf)
    | (refine And.intro (fun h => ?_) (fun h => ?_) <;> (try simp only [cnt1, ints_length] at h) <;> conv => whnf)
    | (refine And.intro (show slotsOk _ = true by decide +kernel) ?_; conv => whnf)
    | (refine And.intro vOb ?_; conv => whnf)
    | fail
    | (apply Exists.intro; refine And.intro vObx ?_; conv => whnf)
    | fail
    | (refine Or.inl ?_; conv => whnf)
    | fail
  all_goals (refine congrArg dint ?_; simp_all [codeN])
theorem c_l01Pow (hm : Md m) (a : Int) (k : Nat) (hk : k ≤ 4611686018427387904) {K : Int} (hK : K = k) : PureCall Try.prog 123 [dint m, dint a, dint K] (dint (pw (Zm.mk m a) k).val) := by
  subst hK
  have hm1 := hm.1
  have hm2 := hm.2
  refine pure_of_vc Try.tabOk mixOrd Try.func123 rfl rfl ?_
  conv => whnf
  repeat' first
    | (refine And.intro (Or.inl rfl) ?_; conv => whnf)
    | (refine Or.inl (Or.inl (Exists.intro _ (And.intro (c_l01Mod _ _ hm.pos (by omega)) ?_))); conv => whnf)
    | (refine Or.inl (Exists.intro _ (And.intro (c_l01Mod _ _ hm.pos (by omega)) ?_)); conv => whnf)
    | (apply Exists.intro; refine And.intro (c_l01Mod _ _ hm.pos (by omega)) ?_; conv => whnf)
    | (refine And.intro (fun h => ?_) (fun h => ?_) <;> (try simp only [cnt1, ints_length] at h) <;> conv => whnf)
    | (refine And.intro (show slotsOk _ = true by decide +kernel) ?_; conv => whnf)
    | (refine And.intro vOb ?_; conv => whnf)
    | fail
    | (apply Exists.intro; refine And.intro vObx ?_; conv => whnf)
    | fail
    | (refine Or.inl ?_; conv => whnf)
    | fail
  refine loop_at Try.tabOk mixOrd (α := Zm m × Zm m × Nat) (fun x => [(7, dint x.1.val), (1, dint x.2.1.val), (2, dint x.2.2)]) (fun x => []) (fun x => x.1 * pw x.2.1 x.2.2 = pw (Zm.mk m a) k ∧ x.2.2 ≤ 4611686018427387904) (fun x => x.2.2) (1, Zm.mk m a, k) ?_ ?_ ?_
  · exact ⟨CR.one_mul _, hk⟩
  · conv => whnf
    first | refine WeakS.auto ?_ | refine Weak.auto ?_
    conv => whnf
    repeat' first
      | exact trivial
      | (refine And.intro rfl ?_; conv => whnf)
      | (refine And.intro (eqV_int vAr) ?_; conv => whnf)
      | (refine And.intro vOb ?_; conv => whnf)
      | (refine And.intro vRepl ?_; conv => whnf)
      | (refine And.intro vReplL ?_; conv => whnf)
      | (refine And.intro ?_ ?_ <;> try (conv => whnf))
    all_goals exact Zm.tmod_val (by omega) rfl
  intro ⟨x, y, q⟩ ⟨hx, hq⟩
  simp only at hx hq
  conv => whnf
  repeat' first
    | (refine And.intro (Or.inl rfl) ?_; conv => whnf)
    | (refine And.intro (fun h => ?_) (fun h => ?_) <;> (try simp only [cnt1, ints_length] at h) <;> conv => whnf)
    | (refine And.intro (show slotsOk _ = true by decide +kernel) ?_; conv => whnf)
    | (refine And.intro vOb ?_; conv => whnf)
    | fail
    | (apply Exists.intro; refine And.intro vObx ?_; conv => whnf)
    | fail
    | (refine Or.inl ?_; conv => whnf)
    | fail
  · refine Exists.intro (x * y, y * y, q / 2) (And.intro ⟨by simp only; rw [pw_odd x y (by rw [tmod2] at *; omega)]; exact hx, by simp only; omega⟩ (And.intro (by simp only; omega) ?_))
    first | refine WeakS.auto ?_ | refine Weak.auto ?_
    conv => whnf
    repeat' first
      | exact trivial
      | (refine And.intro rfl ?_; conv => whnf)
      | (refine And.intro (eqV_int vAr) ?_; conv => whnf)
      | (refine And.intro vOb ?_; conv => whnf)
      | (refine And.intro vRepl ?_; conv => whnf)
      | (refine And.intro vReplL ?_; conv => whnf)
      | (refine And.intro ?_ ?_ <;> try (conv => whnf))
    all_goals first | exact tm_mul hm _ _ | exact tdiv2 _
  · refine Exists.intro (x, y * y, q / 2) (And.intro ⟨by simp only; rw [pw_even x y (by rw [tmod2] at *; omega)]; exact hx, by simp only; omega⟩ (And.intro (by simp only; omega) ?_))
    first | refine WeakS.auto ?_ | refine Weak.auto ?_
    conv => whnf
    repeat' first
      | exact trivial
      | (refine And.intro rfl ?_; conv => whnf)
      | (refine And.intro (eqV_int vAr) ?_; conv => whnf)
      | (refine And.intro vOb ?_; conv => whnf)
      | (refine And.intro vRepl ?_; conv => whnf)
      | (refine And.intro vReplL ?_; conv => whnf)
      | (refine And.intro ?_ ?_ <;> try (conv => whnf))
    all_goals first | exact tm_mul hm _ _ | exact tdiv2 _
  · refine congrArg dint ?_
    rw [show q = 0 by omega, pw_zero, Go.Fg.mul_one] at hx
    rw [hx]
theorem sub_drop1 {n : Nat} {a : PS (Zm m)} {k : Nat} (h : k = n) : sub (ints (L (n + 1) a)) 1 1 k = ints (L n a.shl) := by
  subst h
  rw [sub_ints', L_drop_one, L_take _ (Nat.le_refl _)]
def charG (m : Int) (l : List Int) : PS (Zm m) := (rev (invN m ((intS (rd m l)).c 1).val) (intS (rd m l))).shl
def codeG (m : Int) (l : List Int) : Int := if codeN m l = 0 then (if inB l.length 2 10 && decide (l.getD 0 0 = 1) then (if unitsB m l.length then 0 else 5) else 2) else codeN m l
theorem serRes_no {n : Nat} {a : PS (Zm m)} {c c' : Int} (h : c' ≠ 0) (e : c' = c) : D.tup [zserD, dint c'] = serRes m n a c := by
  subst e; rw [serRes, if_neg h]
theorem serRes_yes {n : Nat} {a b : PS (Zm m)} {c : Int} (h : c = 0) (e : a = b) : D.tup [SerD m true n a, dint 0] = serRes m n b c := by
  subst h; subst e; rw [serRes, if_pos rfl]
theorem codeN_L {m : Int} {l : List Int} (h : codeN m l = 0) : L l.length (rd m l) = l := L_rd (numsB_iff.1 (codeN_0 h).2)
theorem c_implCharacteristicOfGenera (o : Bool) (m : Int) (l : List Int) (hl : l.length ≤ 1048576) : PureCall Try.prog 53 [dint m, .list o 1 (ints l)] (serRes m l.length (inv (invN m ((charG m l).c 0).val) (charG m l)) (codeG m l)) := by
  refine pure_of_vc Try.tabOk mixOrd Try.func53 rfl rfl ?_
  conv => whnf
  repeat' first
    | (refine And.intro (Or.inl rfl) ?_; conv => whnf)
    | (refine Or.inl (Or.inl (Exists.intro _ (And.intro (c_modular _ _ _ hl) ?_))); conv => whnf)
    | (refine Or.inl (Exists.intro _ (And.intro (c_modular _ _ _ hl) ?_)); conv => whnf)
    | (apply Exists.intro; refine And.intro (c_modular _ _ _ hl) ?_; conv => whnf)
    | (refine Or.inl (Or.inl (Exists.intro _ (And.intro (c_impl_in _ _ _) ?_))); conv => whnf)
    | (refine Or.inl (Exists.intro _ (And.intro (c_impl_in _ _ _) ?_)); conv => whnf)
    | (apply Exists.intro; refine And.intro (c_impl_in _ _ _) ?_; conv => whnf)
    | (refine And.intro (fun h => ?_) (fun h => ?_) <;> (try simp only [cnt1, ints_length] at h) <;> conv => whnf)
    | (refine And.intro (show slotsOk _ = true by decide +kernel) ?_; conv => whnf)
    | (refine And.intro vOb ?_; conv => whnf)
    | fail
    | (apply Exists.intro; refine And.intro vObx ?_; conv => whnf)
    | fail
    | (refine Or.inl ?_; conv => whnf)
    | fail
  · exact serRes_no h (by unfold codeG; rw [if_neg h])
  · have h0 : codeN m l = 0 := Classical.not_not.1 (by assumption)
    have hm := (codeN_0 h0).1
    have hm1 := hm.1
    have hm2 := hm.2
    have hb : inB (l.length : Int) 2 10 = true := by assumption
    have hlen : 2 ≤ l.length ∧ l.length ≤ 10 := by simp only [inB, decide_eq_true_eq] at hb; omega
    have key := c_integrated hm o l.length (by omega) (rd m l)
    rw [SerD, codeN_L h0] at key
    repeat' first
      | (refine And.intro (Or.inl rfl) ?_; conv => whnf)
      | (refine Or.inl (Or.inl (Exists.intro _ (And.intro (c_areUnits hm l.length vAr vAr) ?_))); conv => whnf)
      | (refine Or.inl (Exists.intro _ (And.intro (c_areUnits hm l.length vAr vAr) ?_)); conv => whnf)
      | (apply Exists.intro; refine And.intro (c_areUnits hm l.length vAr vAr) ?_; conv => whnf)
      | (refine Or.inl (Or.inl (Exists.intro _ (And.intro (key) ?_))); conv => whnf)
      | (refine Or.inl (Exists.intro _ (And.intro (key) ?_)); conv => whnf)
      | (apply Exists.intro; refine And.intro (key) ?_; conv => whnf)
      | (refine Or.inl (Or.inl (Exists.intro _ (And.intro (c_reverseU hm _ (l.length + 1) vAr (intS (rd m l))) ?_))); conv => whnf)
      | (refine Or.inl (Exists.intro _ (And.intro (c_reverseU hm _ (l.length + 1) vAr (intS (rd m l))) ?_)); conv => whnf)
      | (apply Exists.intro; refine And.intro (c_reverseU hm _ (l.length + 1) vAr (intS (rd m l))) ?_; conv => whnf)
      | (refine Or.inl (Or.inl (Exists.intro _ (And.intro (sub_drop1 vAr) ?_))); conv => whnf)
      | (refine Or.inl (Exists.intro _ (And.intro (sub_drop1 vAr) ?_)); conv => whnf)
      | (apply Exists.intro; refine And.intro (sub_drop1 vAr) ?_; conv => whnf)
      | (refine Or.inl (Or.inl (Exists.intro _ (And.intro (c_inverseU hm _ l.length vAr (charG m l)) ?_))); conv => whnf)
      | (refine Or.inl (Exists.intro _ (And.intro (c_inverseU hm _ l.length vAr (charG m l)) ?_)); conv => whnf)
      | (apply Exists.intro; refine And.intro (c_inverseU hm _ l.length vAr (charG m l)) ?_; conv => whnf)
      | (refine And.intro (fun h => ?_) (fun h => ?_) <;> (try simp only [cnt1, ints_length] at h) <;> conv => whnf)
      | (refine And.intro (show slotsOk _ = true by decide +kernel) ?_; conv => whnf)
      | (refine And.intro vOb ?_; conv => whnf)
      | fail
      | (apply Exists.intro; refine And.intro vObx ?_; conv => whnf)
      | fail
      | (refine Or.inl ?_; conv => whnf)
      | fail
    · exact serRes_no (by omega) (by unfold codeG; simp_all)
    · exact serRes_yes (by unfold codeG; simp_all) rfl
    · exact serRes_no (by omega) (by unfold codeG; simp_all)
  · exact serRes_no (by omega) (by unfold codeG; simp_all)
theorem c_specCharacteristicOfGenera (o : Bool) (m : Int) (l : List Int) (hl : l.length ≤ 1048576) : PureCall Try.prog 52 [dint m, .list o 1 (ints l)] (serRes m l.length (inv (invN m ((charG m l).c 0).val) (charG m l)) (codeG m l)) := by
  refine pure_of_vc Try.tabOk mixOrd Try.func52 rfl rfl ?_
  conv => whnf
  repeat' first
    | (refine And.intro (Or.inl rfl) ?_; conv => whnf)
    | (refine Or.inl (Or.inl (Exists.intro _ (And.intro (c_l01Code _ _ _ hl) ?_))); conv => whnf)
    | (refine Or.inl (Exists.intro _ (And.intro (c_l01Code _ _ _ hl) ?_)); conv => whnf)
    | (apply Exists.intro; refine And.intro (c_l01Code _ _ _ hl) ?_; conv => whnf)
    | (refine And.intro (fun h => ?_) (fun h => ?_) <;> (try simp only [cnt1, ints_length] at h) <;> conv => whnf)
    | (refine And.intro (show slotsOk _ = true by decide +kernel) ?_; conv => whnf)
    | (refine And.intro vOb ?_; conv => whnf)
    | fail
    | (apply Exists.intro; refine And.intro vObx ?_; conv => whnf)
    | fail
    | (refine Or.inl ?_; conv => whnf)
    | fail
  · exact serRes_no h (by unfold codeG; rw [if_neg h])
  · exact serRes_no (by omega) (by unfold codeG; simp_all [inB]; omega)
  · exact serRes_no (by omega) (by unfold codeG; simp_all [inB]; omega)
  · exact serRes_no (by omega) (by unfold codeG; simp_all [inB])
  · have h0 : codeN m l = 0 := Classical.not_not.1 (by assumption)
    have hm := (codeN_0 h0).1
    have hm1 := hm.1
    have hm2 := hm.2
    have hlen : 2 ≤ l.length ∧ l.length ≤ 10 := by omega
    have key := c_l02Integrate hm o l.length (by omega) (rd m l)
    rw [LD, codeN_L h0] at key
    repeat' first
      | (refine And.intro (Or.inl rfl) ?_; conv => whnf)
      | (refine Or.inl (Or.inl (Exists.intro _ (And.intro (c_l02Integers hm l.length vAr vAr) ?_))); conv => whnf)
      | (refine Or.inl (Exists.intro _ (And.intro (c_l02Integers hm l.length vAr vAr) ?_)); conv => whnf)
      | (apply Exists.intro; refine And.intro (c_l02Integers hm l.length vAr vAr) ?_; conv => whnf)
      | (refine Or.inl (Or.inl (Exists.intro _ (And.intro (key) ?_))); conv => whnf)
      | (refine Or.inl (Exists.intro _ (And.intro (key) ?_)); conv => whnf)
      | (apply Exists.intro; refine And.intro (key) ?_; conv => whnf)
      | (refine Or.inl (Or.inl (Exists.intro _ (And.intro (c_l02ReverseU hm _ (l.length + 1) (l.length + 1) vAr vAr vAr vAr (intS (rd m l))) ?_))); conv => whnf)
      | (refine Or.inl (Exists.intro _ (And.intro (c_l02ReverseU hm _ (l.length + 1) (l.length + 1) vAr vAr vAr vAr (intS (rd m l))) ?_)); conv => whnf)
      | (apply Exists.intro; refine And.intro (c_l02ReverseU hm _ (l.length + 1) (l.length + 1) vAr vAr vAr vAr (intS (rd m l))) ?_; conv => whnf)
      | (refine Or.inl (Or.inl (Exists.intro _ (And.intro (sub_drop1 vAr) ?_))); conv => whnf)
      | (refine Or.inl (Exists.intro _ (And.intro (sub_drop1 vAr) ?_)); conv => whnf)
      | (apply Exists.intro; refine And.intro (sub_drop1 vAr) ?_; conv => whnf)
      | (refine Or.inl (Or.inl (Exists.intro _ (And.intro (c_l02InverseU hm _ l.length l.length vAr vAr vAr vAr (charG m l)) ?_))); conv => whnf)
      | (refine Or.inl (Exists.intro _ (And.intro (c_l02InverseU hm _ l.length l.length vAr vAr vAr vAr (charG m l)) ?_)); conv => whnf)
      | (apply Exists.intro; refine And.intro (c_l02InverseU hm _ l.length l.length vAr vAr vAr vAr (charG m l)) ?_; conv => whnf)
      | (refine Or.inl (Or.inr (And.intro (mk_l02Make) ?_)); conv => whnf)
      | (refine Or.inr (And.intro (mk_l02Make) ?_); conv => whnf)
      | (refine And.intro (fun h => ?_) (fun h => ?_) <;> (try simp only [cnt1, ints_length] at h) <;> conv => whnf)
      | (refine And.intro (show slotsOk _ = true by decide +kernel) ?_; conv => whnf)
      | (refine And.intro vOb ?_; conv => whnf)
      | fail
      | (apply Exists.intro; refine And.intro vObx ?_; conv => whnf)
      | fail
      | (refine Or.inl ?_; conv => whnf)
      | fail
    · exact serRes_yes (by unfold codeG; simp_all [inB]) rfl
    · exact serRes_no (by omega) (by unfold codeG; simp_all [inB])
theorem c_variable (n : Nat) {d : Int} (hd : d + 1 = n) (hn : 2 ≤ n ∧ n ≤ 100) (hm : Md m) : PureCall Try.prog 114 [dint m, dint d] (SerD m true n (PS.X : PS (Zm m))) := by
  have hm1 := hm.1
  refine pure_of_vc Try.tabOk mixOrd Try.func114 rfl rfl ?_
  conv => whnf
  repeat' first
    | (refine And.intro (Or.inl rfl) ?_; conv => whnf)
    | (refine Or.inl (Or.inl (Exists.intro _ (And.intro (c_zero n hd vAr) ?_))); conv => whnf)
    | (refine Or.inl (Exists.intro _ (And.intro (c_zero n hd vAr) ?_)); conv => whnf)
    | (apply Exists.intro; refine And.intro (c_zero n hd vAr) ?_; conv => whnf)
    | (refine And.intro (fun h => ?_) (fun h => ?_) <;> (try simp only [cnt1, ints_length] at h) <;> conv => whnf)
    | (refine And.intro (show slotsOk _ = true by decide +kernel) ?_; conv => whnf)
    | (refine And.intro vOb ?_; conv => whnf)
    | fail
    | (apply Exists.intro; refine And.intro vObx ?_; conv => whnf)
    | fail
    | (refine Or.inl ?_; conv => whnf)
    | fail
  refine serD_congr (L_set_eq (1 : Zm m) (Zm.val_one (by omega)).symm (fun i hi => ?_))
  rw [upd_c, X_c]; split <;> rfl
def codeH (m d y : Int) : Int := if codeN m [y] = 0 then (if inB d 1 9 then (if unitsB m (d.toNat + 1) then 0 else 5) else 2) else codeN m [y]
def expoH (m : Int) : PS (Zm m) := ⟨fun k => ifactZ m (k + 1)⟩
def hirS (m : Int) (y : Int) : PS (Zm m) := strS (expoH m) (Zm.mk m (0 - (1 + y)))
def hirR (m : Int) (y : Int) : PS (Zm m) := inv (invN m ((hirS m y).c 0).val) (hirS m y) - PS.C (Zm.mk m y) * PS.X
theorem codeN_1 {m y : Int} (h : codeN m [y] = 0) : Md m ∧ 0 ≤ y ∧ y < m := by
  obtain ⟨h1, h2⟩ := codeN_0 h
  exact ⟨h1, numsB_iff.1 h2 y (by simp)⟩
theorem c_implHirzebruchSeries (m d y : Int) (_ : -9223372036854775808 ≤ m ∧ m ≤ 9223372036854775807) (_ : -9223372036854775808 ≤ d ∧ d ≤ 9223372036854775807) (_ : -9223372036854775808 ≤ y ∧ y ≤ 9223372036854775807) : PureCall Try.prog 51 [dint m, dint d, dint y] (serRes m (d.toNat + 1) (hirR m y) (codeH m d y)) := by
  refine pure_of_vc Try.tabOk mixOrd Try.func51 rfl rfl ?_
  conv => whnf
  repeat' first
    | (refine And.intro (Or.inl rfl) ?_; conv => whnf)
    | (refine Or.inl (Or.inl (Exists.intro _ (And.intro (c_modular false m [y] (by simp)) ?_))); conv => whnf)
    | (refine Or.inl (Exists.intro _ (And.intro (c_modular false m [y] (by simp)) ?_)); conv => whnf)
    | (apply Exists.intro; refine And.intro (c_modular false m [y] (by simp)) ?_; conv => whnf)
    | (refine Or.inl (Or.inl (Exists.intro _ (And.intro (c_impl_in _ _ _) ?_))); conv => whnf)
    | (refine Or.inl (Exists.intro _ (And.intro (c_impl_in _ _ _) ?_)); conv => whnf)
    | (apply Exists.intro; refine And.intro (c_impl_in _ _ _) ?_; conv => whnf)
    | (refine And.intro (fun h => ?_) (fun h => ?_) <;> (try simp only [cnt1, ints_length] at h) <;> conv => whnf)
    | (refine And.intro (show slotsOk _ = true by decide +kernel) ?_; conv => whnf)
    | (refine And.intro vOb ?_; conv => whnf)
    | fail
    | (apply Exists.intro; refine And.intro vObx ?_; conv => whnf)
    | fail
    | (refine Or.inl ?_; conv => whnf)
    | fail
  · exact serRes_no h (by unfold codeH; rw [if_neg h])
  · have h0 : codeN m [y] = 0 := Classical.not_not.1 (by assumption)
    obtain ⟨hm, hy1, hy2⟩ := codeN_1 h0
    have hm1 := hm.1
    have hm2 := hm.2
    have hb : inB d 1 9 = true := by assumption
    have hd : 1 ≤ d ∧ d ≤ 9 := by simp only [inB, decide_eq_true_eq] at hb; omega
    have hfk : ∀ (k : Nat), k ≤ 10 → inR .i64 ((factZ m k).val * ((k : Int) + 1)) ∧ ((factZ m k).val * ((k : Int) + 1)).tmod m = (factZ m (k + 1)).val := fun k hk => by
      have h1 := Zm.val_range hm.pos (factZ m k)
      have h2 : (factZ m k).val * ((k : Int) + 1) ≤ 10000 * ((k : Int) + 1) := Int.mul_le_mul_of_nonneg_right (by omega) (by omega)
      have h3 : 0 ≤ (factZ m k).val * ((k : Int) + 1) := Int.mul_nonneg h1.1 (by omega)
      exact ⟨inR64 (by omega) (by omega), Zm.tmod_val h3 (by rw [Zm.mk_mul, Zm.mk_val]; rfl)⟩
    repeat' first
      | (refine And.intro (Or.inl rfl) ?_; conv => whnf)
      | (refine Or.inl (Or.inl (Exists.intro _ (And.intro (c_areUnits hm (d.toNat + 1) vAr vAr) ?_))); conv => whnf)
      | (refine Or.inl (Exists.intro _ (And.intro (c_areUnits hm (d.toNat + 1) vAr vAr) ?_)); conv => whnf)
      | (apply Exists.intro; refine And.intro (c_areUnits hm (d.toNat + 1) vAr vAr) ?_; conv => whnf)
      | (refine Or.inl (Or.inl (Exists.intro _ (And.intro (c_zero (d.toNat + 1) vAr vAr) ?_))); conv => whnf)
      | (refine Or.inl (Exists.intro _ (And.intro (c_zero (d.toNat + 1) vAr vAr) ?_)); conv => whnf)
      | (apply Exists.intro; refine And.intro (c_zero (d.toNat + 1) vAr vAr) ?_; conv => whnf)
      | (refine And.intro (fun h => ?_) (fun h => ?_) <;> (try simp only [cnt1, ints_length] at h) <;> conv => whnf)
      | (refine And.intro (show slotsOk _ = true by decide +kernel) ?_; conv => whnf)
      | (refine And.intro vOb ?_; conv => whnf)
      | fail
      | (apply Exists.intro; refine And.intro vObx ?_; conv => whnf)
      | fail
      | (refine Or.inl ?_; conv => whnf)
      | fail
    · have hu : unitsB m (d.toNat + 1) = true := by assumption
      refine loop_at Try.tabOk mixOrd (α := Nat) (fun k => [(39, dint k), (10, dint (factZ m k).val)]) (fun k => [(6, some ⟨false, 1, ints (L (d.toNat + 1) (mix k (expoH m) 0))⟩)]) (fun k => k ≤ d.toNat + 1) (fun k => d.toNat + 1 - k) (0) ?_ ?_ ?_
      · omega
      · conv => whnf
        first | refine WeakS.auto ?_ | refine Weak.auto ?_
        conv => whnf
        repeat' first
          | exact trivial
          | (refine And.intro rfl ?_; conv => whnf)
          | (refine And.intro (eqV_int vAr) ?_; conv => whnf)
          | (refine And.intro vOb ?_; conv => whnf)
          | (refine And.intro vRepl ?_; conv => whnf)
          | (refine And.intro vReplL ?_; conv => whnf)
          | (refine And.intro ?_ ?_ <;> try (conv => whnf))
        all_goals first | exact (Zm.val_one (by omega)).symm | rw [mix_zero]
      intro k hk
      conv => whnf
      have hfk1 := (hfk k (by omega)).1
      have hfk2 := (hfk k (by omega)).2
      repeat' first
        | (refine And.intro (Or.inl rfl) ?_; conv => whnf)
        | (refine Or.inl (Or.inl (Exists.intro _ (And.intro (c_inverse hm _) ?_))); conv => whnf)
        | (refine Or.inl (Exists.intro _ (And.intro (c_inverse hm _) ?_)); conv => whnf)
        | (apply Exists.intro; refine And.intro (c_inverse hm _) ?_; conv => whnf)
        | (refine And.intro (fun h => ?_) (fun h => ?_) <;> (try simp only [cnt1, ints_length] at h) <;> conv => whnf)
        | (refine And.intro (show slotsOk _ = true by decide +kernel) ?_; conv => whnf)
        | (refine And.intro vOb ?_; conv => whnf)
        | fail
        | (apply Exists.intro; refine And.intro vObx ?_; conv => whnf)
        | fail
        | (refine Or.inl ?_; conv => whnf)
        | fail
      · refine Exists.intro (k + 1) (And.intro vAr (And.intro vAr ?_))
        first | refine WeakS.auto ?_ | refine Weak.auto ?_
        conv => whnf
        repeat' first
          | exact trivial
          | (refine And.intro rfl ?_; conv => whnf)
          | (refine And.intro (eqV_int vAr) ?_; conv => whnf)
          | (refine And.intro vOb ?_; conv => whnf)
          | (refine And.intro vRepl ?_; conv => whnf)
          | (refine And.intro vReplL ?_; conv => whnf)
          | (refine And.intro ?_ ?_ <;> try (conv => whnf))
        · refine ints_congr (L_set_eq ((expoH m).c k) ?_ (Ag.of_eq (mix_succ _ _ _).symm))
          rw [hfk2, invN_fact hm1 hu vAr]; rfl
      · rw [show L (d.toNat + 1) (mix k (expoH m) 0) = L (d.toNat + 1) (expoH m) from L_congr (fun i hi => by rw [mix_c, if_pos vAr])]
        repeat' first
          | (refine And.intro (Or.inl rfl) ?_; conv => whnf)
          | (refine Or.inl (Or.inl (Exists.intro _ (And.intro (c_stretched hm _ (d.toNat + 1) vAr _ _) ?_))); conv => whnf)
          | (refine Or.inl (Exists.intro _ (And.intro (c_stretched hm _ (d.toNat + 1) vAr _ _) ?_)); conv => whnf)
          | (apply Exists.intro; refine And.intro (c_stretched hm _ (d.toNat + 1) vAr _ _) ?_; conv => whnf)
          | (refine Or.inl (Or.inl (Exists.intro _ (And.intro (c_inverseU hm _ (d.toNat + 1) vAr _) ?_))); conv => whnf)
          | (refine Or.inl (Exists.intro _ (And.intro (c_inverseU hm _ (d.toNat + 1) vAr _) ?_)); conv => whnf)
          | (apply Exists.intro; refine And.intro (c_inverseU hm _ (d.toNat + 1) vAr _) ?_; conv => whnf)
          | (refine Or.inl (Or.inl (Exists.intro _ (And.intro (c_variable (d.toNat + 1) vAr vAr hm) ?_))); conv => whnf)
          | (refine Or.inl (Exists.intro _ (And.intro (c_variable (d.toNat + 1) vAr vAr hm) ?_)); conv => whnf)
          | (apply Exists.intro; refine And.intro (c_variable (d.toNat + 1) vAr vAr hm) ?_; conv => whnf)
          | (refine Or.inl (Or.inl (Exists.intro _ (And.intro (c_scaled hm _ (d.toNat + 1) vAr _ _) ?_))); conv => whnf)
          | (refine Or.inl (Exists.intro _ (And.intro (c_scaled hm _ (d.toNat + 1) vAr _ _) ?_)); conv => whnf)
          | (apply Exists.intro; refine And.intro (c_scaled hm _ (d.toNat + 1) vAr _ _) ?_; conv => whnf)
          | (refine Or.inl (Or.inl (Exists.intro _ (And.intro (c_minus hm _ _ (d.toNat + 1) vAr _ _) ?_))); conv => whnf)
          | (refine Or.inl (Exists.intro _ (And.intro (c_minus hm _ _ (d.toNat + 1) vAr _ _) ?_)); conv => whnf)
          | (apply Exists.intro; refine And.intro (c_minus hm _ _ (d.toNat + 1) vAr _ _) ?_; conv => whnf)
          | (refine And.intro (fun h => ?_) (fun h => ?_) <;> (try simp only [cnt1, ints_length] at h) <;> conv => whnf)
          | (refine And.intro (show slotsOk _ = true by decide +kernel) ?_; conv => whnf)
          | (refine And.intro vOb ?_; conv => whnf)
          | fail
          | (apply Exists.intro; refine And.intro vObx ?_; conv => whnf)
          | fail
          | (refine Or.inl ?_; conv => whnf)
          | fail
        exact serRes_yes (by unfold codeH; simp_all) rfl
    · exact serRes_no (by omega) (by unfold codeH; simp_all)
  · exact serRes_no (by omega) (by unfold codeH; simp_all)
theorem c_specHirzebruchSeries (m d y : Int) (_ : -9223372036854775808 ≤ m ∧ m ≤ 9223372036854775807) (_ : -9223372036854775808 ≤ d ∧ d ≤ 9223372036854775807) (_ : -9223372036854775808 ≤ y ∧ y ≤ 9223372036854775807) : PureCall Try.prog 50 [dint m, dint d, dint y] (serRes m (d.toNat + 1) (hirR m y) (codeH m d y)) := by
  refine pure_of_vc Try.tabOk mixOrd Try.func50 rfl rfl ?_
  conv => whnf
  repeat' first
    | (refine And.intro (Or.inl rfl) ?_; conv => whnf)
    | (refine Or.inl (Or.inl (Exists.intro _ (And.intro (c_l01Code false m [y] (by simp)) ?_))); conv => whnf)
    | (refine Or.inl (Exists.intro _ (And.intro (c_l01Code false m [y] (by simp)) ?_)); conv => whnf)
    | (apply Exists.intro; refine And.intro (c_l01Code false m [y] (by simp)) ?_; conv => whnf)
    | (refine Or.inl (Or.inl (Exists.intro _ (And.intro (c_l01In _ _ _) ?_))); conv => whnf)
    | (refine Or.inl (Exists.intro _ (And.intro (c_l01In _ _ _) ?_)); conv => whnf)
    | (apply Exists.intro; refine And.intro (c_l01In _ _ _) ?_; conv => whnf)
    | (refine And.intro (fun h => ?_) (fun h => ?_) <;> (try simp only [cnt1, ints_length] at h) <;> conv => whnf)
    | (refine And.intro (show slotsOk _ = true by decide +kernel) ?_; conv => whnf)
    | (refine And.intro vOb ?_; conv => whnf)
    | fail
    | (apply Exists.intro; refine And.intro vObx ?_; conv => whnf)
    | fail
    | (refine Or.inl ?_; conv => whnf)
    | fail
  · exact serRes_no h (by unfold codeH; rw [if_neg h])
  · have h0 : codeN m [y] = 0 := Classical.not_not.1 (by assumption)
    obtain ⟨hm, hy1, hy2⟩ := codeN_1 h0
    have hm1 := hm.1
    have hm2 := hm.2
    have hb : inB d 1 9 = true := by assumption
    have hd : 1 ≤ d ∧ d ≤ 9 := by simp only [inB, decide_eq_true_eq] at hb; omega
    repeat' first
      | (refine And.intro (Or.inl rfl) ?_; conv => whnf)
      | (refine Or.inl (Or.inl (Exists.intro _ (And.intro (c_l02Integers hm (d.toNat + 1) vAr vAr) ?_))); conv => whnf)
      | (refine Or.inl (Exists.intro _ (And.intro (c_l02Integers hm (d.toNat + 1) vAr vAr) ?_)); conv => whnf)
      | (apply Exists.intro; refine And.intro (c_l02Integers hm (d.toNat + 1) vAr vAr) ?_; conv => whnf)
      | (refine Or.inl (Or.inl (Exists.intro _ (And.intro (c_l01Mod _ _ hm.pos (by omega)) ?_))); conv => whnf)
      | (refine Or.inl (Exists.intro _ (And.intro (c_l01Mod _ _ hm.pos (by omega)) ?_)); conv => whnf)
      | (apply Exists.intro; refine And.intro (c_l01Mod _ _ hm.pos (by omega)) ?_; conv => whnf)
      | (refine And.intro (fun h => ?_) (fun h => ?_) <;> (try simp only [cnt1, ints_length] at h) <;> conv => whnf)
      | (refine And.intro (show slotsOk _ = true by decide +kernel) ?_; conv => whnf)
      | (refine And.intro vOb ?_; conv => whnf)
      | fail
      | (apply Exists.intro; refine And.intro vObx ?_; conv => whnf)
      | fail
      | (refine Or.inl ?_; conv => whnf)
      | fail
    · refine loop_at Try.tabOk mixOrd (α := Nat) (fun k => [(9, .ref 5 [] 1 0 k), (10, dint (ifactZ m k).val), (12, dint k), (35, .undef)]) (fun k => [(5, some ⟨false, 1, ints (L k (hirS m y))⟩)]) (fun k => k ≤ d.toNat + 1) (fun k => d.toNat + 1 - k) (0) ?_ ?_ ?_
      · omega
      · conv => whnf
        first | refine WeakS.auto ?_ | refine Weak.auto ?_
        conv => whnf
        repeat' first
          | exact trivial
          | (refine And.intro rfl ?_; conv => whnf)
          | (refine And.intro (eqV_int vAr) ?_; conv => whnf)
          | (refine And.intro vOb ?_; conv => whnf)
          | (refine And.intro vRepl ?_; conv => whnf)
          | (refine And.intro vReplL ?_; conv => whnf)
          | (refine And.intro ?_ ?_ <;> try (conv => whnf))
        all_goals exact (Zm.val_one (by omega)).symm
      intro k hk
      conv => whnf
      have hown : Zm.mk m ((-1 - y) % m) = Zm.mk m (0 - (1 + y)) := by rw [Zm.mk_mod]; congr 1; omega
      have hv1 := vMulV hm (ifactZ m k) (invN m ((k : Int) + 1))
      repeat' first
        | (refine And.intro (Or.inl rfl) ?_; conv => whnf)
        | (refine Or.inl (Or.inl (Exists.intro _ (And.intro (c_l01Inv hm _) ?_))); conv => whnf)
        | (refine Or.inl (Exists.intro _ (And.intro (c_l01Inv hm _) ?_)); conv => whnf)
        | (apply Exists.intro; refine And.intro (c_l01Inv hm _) ?_; conv => whnf)
        | (refine Or.inl (Or.inl (Exists.intro _ (And.intro (c_l01Pow hm _ k (by omega) rfl) ?_))); conv => whnf)
        | (refine Or.inl (Exists.intro _ (And.intro (c_l01Pow hm _ k (by omega) rfl) ?_)); conv => whnf)
        | (apply Exists.intro; refine And.intro (c_l01Pow hm _ k (by omega) rfl) ?_; conv => whnf)
        | (refine And.intro (fun h => ?_) (fun h => ?_) <;> (try simp only [cnt1, ints_length] at h) <;> conv => whnf)
        | (refine And.intro (show slotsOk _ = true by decide +kernel) ?_; conv => whnf)
        | (refine And.intro vOb ?_; conv => whnf)
        | fail
        | (apply Exists.intro; refine And.intro vObx ?_; conv => whnf)
        | fail
        | (refine Or.inl ?_; conv => whnf)
        | fail
      · rw [tm_mul hm, hown]
        repeat' first
          | (refine And.intro (Or.inl rfl) ?_; conv => whnf)
          | (refine And.intro (fun h => ?_) (fun h => ?_) <;> (try simp only [cnt1, ints_length] at h) <;> conv => whnf)
          | (refine And.intro (show slotsOk _ = true by decide +kernel) ?_; conv => whnf)
          | (refine And.intro vOb ?_; conv => whnf)
          | fail
          | (apply Exists.intro; refine And.intro vObx ?_; conv => whnf)
          | fail
          | (refine Or.inl ?_; conv => whnf)
          | fail
        refine Exists.intro (k + 1) (And.intro vAr (And.intro vAr ?_))
        first | refine WeakS.auto ?_ | refine Weak.auto ?_
        conv => whnf
        repeat' first
          | exact trivial
          | (refine And.intro rfl ?_; conv => whnf)
          | (refine And.intro (eqV_int vAr) ?_; conv => whnf)
          | (refine And.intro vOb ?_; conv => whnf)
          | (refine And.intro vRepl ?_; conv => whnf)
          | (refine And.intro vReplL ?_; conv => whnf)
          | (refine And.intro ?_ ?_ <;> try (conv => whnf))
        · refine ints_congr (L_push ?_)
          exact tm_mul hm _ _
      · have e : k = d.toNat + 1 := vAr
        subst e
        have hz := Zm.val_range hm.pos ((inv (invN m ((hirS m y).c 0).val) (hirS m y)).c 1)
        have hX : ∀ i, (PS.C (Zm.mk m y) * PS.X).c i = if i = 1 then Zm.mk m y else 0 := fun i => by
          rw [C_mul, X_c]; split
          · exact Go.Fg.mul_one _
          · exact Go.Fg.mul_zero _
        repeat' first
          | (refine And.intro (Or.inl rfl) ?_; conv => whnf)
          | (refine Or.inl (Or.inl (Exists.intro _ (And.intro (c_l02InverseU hm _ (d.toNat + 1) (d.toNat + 1) vAr vAr vAr vAr _) ?_))); conv => whnf)
          | (refine Or.inl (Exists.intro _ (And.intro (c_l02InverseU hm _ (d.toNat + 1) (d.toNat + 1) vAr vAr vAr vAr _) ?_)); conv => whnf)
          | (apply Exists.intro; refine And.intro (c_l02InverseU hm _ (d.toNat + 1) (d.toNat + 1) vAr vAr vAr vAr _) ?_; conv => whnf)
          | (refine Or.inl (Or.inl (Exists.intro _ (And.intro (c_l01Mod _ _ hm.pos (by omega)) ?_))); conv => whnf)
          | (refine Or.inl (Exists.intro _ (And.intro (c_l01Mod _ _ hm.pos (by omega)) ?_)); conv => whnf)
          | (apply Exists.intro; refine And.intro (c_l01Mod _ _ hm.pos (by omega)) ?_; conv => whnf)
          | (refine Or.inl (Or.inr (And.intro (mk_l02Make) ?_)); conv => whnf)
          | (refine Or.inr (And.intro (mk_l02Make) ?_); conv => whnf)
          | (refine And.intro (fun h => ?_) (fun h => ?_) <;> (try simp only [cnt1, ints_length] at h) <;> conv => whnf)
          | (refine And.intro (show slotsOk _ = true by decide +kernel) ?_; conv => whnf)
          | (refine And.intro vOb ?_; conv => whnf)
          | fail
          | (apply Exists.intro; refine And.intro vObx ?_; conv => whnf)
          | fail
          | (refine Or.inl ?_; conv => whnf)
          | fail
        rw [show D.agg [D.lit (.int .i64 m), D.list true 1 (ints ((L (d.toNat + 1) (inv (invN m ((hirS m y).c 0).val) (hirS m y))).set 1 ((((inv (invN m ((hirS m y).c 0).val) (hirS m y)).c 1).val - y) % m)))] = SerD m true (d.toNat + 1) (hirR m y) from serD_congr (L_set_eq (((inv (invN m ((hirS m y).c 0).val) (hirS m y)).c 1) - Zm.mk m y) (Zm.emod_val (by rw [Zm.mk_sub, Zm.mk_val])) (fun i hi => by
          unfold hirR
          rw [upd_c, sub_c, hX]
          by_cases e : i = 1
          · subst e; rw [if_pos rfl, if_pos rfl]
          · rw [if_neg e, if_neg e, Go.Fg.sub_def, Go.Fg.neg_zero, Go.Fg.add_zero]))]
        exact serRes_yes (by unfold codeH; simp_all) rfl
    · exact serRes_no (by omega) (by unfold codeH; simp_all)
  · exact serRes_no (by omega) (by unfold codeH; simp_all)
end Go.Proofs

