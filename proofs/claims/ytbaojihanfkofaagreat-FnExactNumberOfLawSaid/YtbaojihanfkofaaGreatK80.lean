/- Numbers for the elimination: exponents of a prime. -/
import Derived.Test.YtbaojihanfkofaaGreatKN
import Derived.Test.YtbaojihanfkofaaGreatAlg11
namespace Go.Proofs
open Go Go.Vm Go.Fg Go.Fg.PS
set_option maxRecDepth 100000
set_option maxHeartbeats 4000000
set_option linter.unusedSimpArgs false
set_option linter.unusedVariables false
variable {m : Int}
def valF : Nat → Nat → Nat → Nat
  | 0, _, _ => 0
  | f + 1, p, n => if n % p = 0 then valF f p (n / p) + 1 else 0
def valN (p n : Nat) : Nat := valF n p n
theorem valF_spec {p : Nat} (hp : 2 ≤ p) : ∀ (f n : Nat), 1 ≤ n → n ≤ f → p ^ valF f p n ∣ n ∧ ¬ p ∣ n / p ^ valF f p n := by
  intro f
  induction f with
  | zero => intro n h1 h2; omega
  | succ f ih =>
    intro n h1 h2
    unfold valF
    by_cases e : n % p = 0
    · rw [if_pos e]
      have hd : n / p < n := Nat.div_lt_self (by omega) (by omega)
      have hpos : 1 ≤ n / p := Nat.div_pos (Nat.le_of_dvd (by omega) (Nat.dvd_of_mod_eq_zero e)) (by omega)
      obtain ⟨k1, k2⟩ := ih (n / p) hpos (by omega)
      have hn : n = n / p * p := by have := Nat.div_add_mod n p; rw [e, Nat.add_zero, Nat.mul_comm] at this; exact this.symm
      refine ⟨?_, ?_⟩
      · rw [Nat.pow_succ]
        have := Nat.mul_dvd_mul_right k1 p
        rwa [← hn] at this
      · rw [Nat.pow_succ, Nat.mul_comm, ← Nat.div_div_eq_div_mul]
        exact k2
    · rw [if_neg e, Nat.pow_zero, Nat.div_one]
      exact ⟨Nat.one_dvd n, fun h => e (Nat.mod_eq_zero_of_dvd h)⟩
theorem valN_spec {p n : Nat} (hp : 2 ≤ p) (hn : 1 ≤ n) : p ^ valN p n ∣ n ∧ ¬ p ∣ n / p ^ valN p n := valF_spec hp n n hn (Nat.le_refl n)
theorem valN_eq {p n k : Nat} (hp : 2 ≤ p) (hn : 1 ≤ n) (h1 : p ^ k ∣ n) (h2 : ¬ p ∣ n / p ^ k) : valN p n = k := by
  obtain ⟨k1, k2⟩ := valN_spec hp hn
  have key : ∀ {a b : Nat}, p ^ b ∣ n → ¬ p ∣ n / p ^ a → b ≤ a := fun {a b} hb ha => by
    refine Nat.le_of_not_lt (fun h => ha ?_)
    obtain ⟨c, rfl⟩ := Nat.exists_eq_add_of_lt h
    obtain ⟨t, ht⟩ := hb
    refine ⟨p ^ c * t, ?_⟩
    rw [ht, show a + c + 1 = a + (1 + c) by omega, Nat.pow_add, Nat.pow_add, Nat.pow_one, Nat.mul_assoc, Nat.mul_div_cancel_left _ (Nat.pow_pos (by omega)), Nat.mul_assoc]
  exact Nat.le_antisymm (key k1 h2) (key h1 k2)
theorem inR_i64_nat {b : Nat} (h : b ≤ 4611686018427387904) : inR .i64 (b : Int) := by
  first | exact vOb | (constructor <;> simp [IntKind.min, IntKind.max] <;> omega)
theorem c_valuation (p n : Nat) (hp : 2 ≤ p ∧ p ≤ 1000000000) (hn : 1 ≤ n ∧ n ≤ 4611686018427387904) : PureCall Tryz.prog 94 [dint p, dint n] (dint (valN p n : Nat)) := by
  refine pure_of_vc Tryz.tabOk mixOrd Tryz.func94 rfl rfl ?_
  conv => whnf
  repeat' first | ((first | refine And.intro (Or.inl rfl) ?_ | (refine And.intro (fun h => ?_) (fun h => ?_) <;> (try simp only [cnt1, ints_length] at h)) | refine And.intro (show slotsOk _ = true by decide +kernel) ?_ | refine And.intro vOb ?_ | (apply Exists.intro; refine And.intro vObx ?_) | refine Or.inl ?_) <;> conv => whnf) | fail
  all_goals try (exfalso; omega)
  refine loop_at Tryz.tabOk mixOrd (α := Nat) (fun k => [(1, dint ((n / p ^ k : Nat) : Int)), (5, dint k)]) (fun k => []) (fun k => p ^ k ∣ n) (fun k => n / p ^ k) (0) ?_ ?_ ?_
  · exact ⟨n, by simp⟩
  · conv => whnf
    first | refine WeakS.auto ?_ | refine Weak.auto ?_
    conv => whnf
    repeat' ((first | exact trivial | refine And.intro rfl ?_ | refine And.intro (eqV_int vAr) ?_ | refine And.intro vOb ?_ | refine And.intro vRepl ?_ | refine And.intro vReplL ?_ | refine And.intro ?_ ?_) <;> try (conv => whnf))
    all_goals simp
  intro k hk
  have hpos : 1 ≤ n / p ^ k := Nat.div_pos (Nat.le_of_dvd (by omega) hk) (Nat.pow_pos (by omega))
  have hle : n / p ^ k ≤ n := Nat.div_le_self _ _
  have hkn : k < 64 := by
    refine Nat.lt_of_not_le (fun h => ?_)
    have h1 : p ^ k ≤ n := Nat.le_of_dvd (by omega) hk
    have h2 : 2 ^ 64 ≤ p ^ k := Nat.le_trans (Nat.pow_le_pow_right (by omega) h) (Nat.pow_le_pow_left hp.1 k)
    omega
  conv => whnf
  repeat' first | ((first | refine And.intro (Or.inl rfl) ?_ | (refine And.intro (fun h => ?_) (fun h => ?_) <;> (try simp only [cnt1, ints_length] at h)) | refine And.intro (show slotsOk _ = true by decide +kernel) ?_ | refine And.intro vOb ?_ | (apply Exists.intro; refine And.intro vObx ?_) | refine Or.inl ?_) <;> conv => whnf) | fail
  · have hlt : n / p ^ (k + 1) < n / p ^ k := by rw [Nat.pow_succ, ← Nat.div_div_eq_div_mul]; exact Nat.div_lt_self (by omega) (by omega)
    have e : ((n / p ^ k : Nat) : Int).tdiv (p : Int) = ((n / p ^ (k + 1) : Nat) : Int) := by
      rw [Int.tdiv_eq_ediv_of_nonneg (by omega), Nat.pow_succ, ← Nat.div_div_eq_div_mul]; rfl
    have hd : p ^ (k + 1) ∣ n := by
      rw [tmod_nat] at h
      obtain ⟨t, ht⟩ := Nat.dvd_of_mod_eq_zero (show n / p ^ k % p = 0 by omega)
      refine ⟨t, ?_⟩
      rw [Nat.pow_succ, Nat.mul_assoc, ← ht, Nat.mul_div_cancel' hk]
    rw [e]
    have hbb : n / p ^ (k + 1) ≤ 4611686018427387904 := Nat.le_trans (Nat.le_of_lt hlt) (Nat.le_trans hle hn.2)
    refine And.intro (inR_i64_nat hbb) ?_
    conv => whnf
    repeat' first | ((first | refine And.intro (Or.inl rfl) ?_ | (refine And.intro (fun h => ?_) (fun h => ?_) <;> (try simp only [cnt1, ints_length] at h)) | refine And.intro (show slotsOk _ = true by decide +kernel) ?_ | refine And.intro vOb ?_ | (apply Exists.intro; refine And.intro vObx ?_) | refine Or.inl ?_) <;> conv => whnf) | fail
    refine Exists.intro (k + 1) (And.intro hd (And.intro hlt ?_))
    first | refine WeakS.auto ?_ | refine Weak.auto ?_
    conv => whnf
    repeat' ((first | exact trivial | refine And.intro rfl ?_ | refine And.intro (eqV_int vAr) ?_ | refine And.intro vOb ?_ | refine And.intro vRepl ?_ | refine And.intro vReplL ?_ | refine And.intro ?_ ?_) <;> try (conv => whnf))
  · rw [tmod_nat] at h
    refine congrArg dint ?_
    rw [valN_eq hp.1 hn.1 hk (fun hd => h (by rw [Nat.mod_eq_zero_of_dvd hd]; rfl))]
theorem c_powerI (hm : Md m) (a : Zm m) (k : Nat) (hk : k ≤ 4611686018427387904) {A K : Int} (hA : A = a.val) (hK : K = k) : PureCall Tryz.prog 95 [dint m, dint A, dint K] (dint (pw a k).val) := by
  subst hK hA
  have hm1 := hm.1
  have hm2 := hm.2
  refine pure_of_vc Tryz.tabOk mixOrd Tryz.func95 rfl rfl ?_
  conv => whnf
  repeat' first | ((first | refine And.intro (Or.inl rfl) ?_ | (refine And.intro (fun h => ?_) (fun h => ?_) <;> (try simp only [cnt1, ints_length] at h)) | refine And.intro (show slotsOk _ = true by decide +kernel) ?_ | refine And.intro vOb ?_ | (apply Exists.intro; refine And.intro vObx ?_) | refine Or.inl ?_) <;> conv => whnf) | fail
  all_goals try (exfalso; omega)
  refine loop_at Tryz.tabOk mixOrd (α := Zm m × Zm m × Nat) (fun x => [(7, dint x.1.val), (1, dint x.2.1.val), (2, dint x.2.2)]) (fun x => []) (fun x => x.1 * pw x.2.1 x.2.2 = pw a k ∧ x.2.2 ≤ 4611686018427387904) (fun x => x.2.2) ((1, a, k)) ?_ ?_ ?_
  · exact ⟨CR.one_mul _, hk⟩
  · conv => whnf
    first | refine WeakS.auto ?_ | refine Weak.auto ?_
    conv => whnf
    repeat' ((first | exact trivial | refine And.intro rfl ?_ | refine And.intro (eqV_int vAr) ?_ | refine And.intro vOb ?_ | refine And.intro vRepl ?_ | refine And.intro vReplL ?_ | refine And.intro ?_ ?_) <;> try (conv => whnf))
    all_goals exact Zm.tmod_val (by omega) rfl
  intro ⟨x, y, q⟩ ⟨hx, hq⟩
  simp only at hx hq
  conv => whnf
  repeat' first | ((first | refine And.intro (Or.inl rfl) ?_ | (apply Exists.intro; refine And.intro (c_mul hm _ _) ?_) | (refine And.intro (fun h => ?_) (fun h => ?_) <;> (try simp only [cnt1, ints_length] at h)) | refine And.intro (show slotsOk _ = true by decide +kernel) ?_ | refine And.intro vOb ?_ | (apply Exists.intro; refine And.intro vObx ?_) | refine Or.inl ?_) <;> conv => whnf) | fail
  · refine Exists.intro (x * y, y * y, q / 2) (And.intro ⟨by simp only; rw [pw_odd x y (by rw [tmod2] at *; omega)]; exact hx, by simp only; omega⟩ (And.intro (by simp only; omega) ?_))
    first | refine WeakS.auto ?_ | refine Weak.auto ?_
    conv => whnf
    repeat' ((first | exact trivial | refine And.intro rfl ?_ | refine And.intro (eqV_int vAr) ?_ | refine And.intro vOb ?_ | refine And.intro vRepl ?_ | refine And.intro vReplL ?_ | refine And.intro ?_ ?_) <;> try (conv => whnf))
    all_goals exact tdiv2 _
  · refine Exists.intro (x, y * y, q / 2) (And.intro ⟨by simp only; rw [pw_even x y (by rw [tmod2] at *; omega)]; exact hx, by simp only; omega⟩ (And.intro (by simp only; omega) ?_))
    first | refine WeakS.auto ?_ | refine Weak.auto ?_
    conv => whnf
    repeat' ((first | exact trivial | refine And.intro rfl ?_ | refine And.intro (eqV_int vAr) ?_ | refine And.intro vOb ?_ | refine And.intro vRepl ?_ | refine And.intro vReplL ?_ | refine And.intro ?_ ?_) <;> try (conv => whnf))
    all_goals exact tdiv2 _
  · refine congrArg dint ?_
    rw [show q = 0 by omega, pw_zero, Go.Fg.mul_one] at hx
    rw [hx]
end Go.Proofs

