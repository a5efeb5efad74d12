/- The number of a law: the walks and the law. -/
-- tables
-- rec
import Derived.Test.YtbaojihanfkofaaGreatK108
import Derived.Test.YtbaojihanfkofaaGreatK30
import Derived.Test.YtbaojihanfkofaaGreatKT
namespace Go.Proofs
open Go Go.Vm Go.Fg Go.Fg.PS
set_option maxRecDepth 100000
set_option maxHeartbeats 4000000
set_option linter.unusedSimpArgs false
set_option linter.unusedVariables false
variable {m : Int}
/-- The number with some digits. -/
def numK (m : Int) (p : Nat → Int) : Nat → Int
  | 0 => 0
  | k + 1 => numK m p k * m + p k
theorem numK_b {m : Int} (hm : 2 ≤ m) {p : Nat → Int} : ∀ {k : Nat}, (∀ i, i < k → 0 ≤ p i ∧ p i < m) → 0 ≤ numK m p k ∧ numK m p k < ((m.toNat ^ k : Nat) : Int)
  | 0, _ => by simp [numK]
  | k + 1, h => by
    obtain ⟨h1, h2⟩ := numK_b hm (k := k) (fun i hi => h i (by omega))
    have h3 := h k (by omega)
    have e : ((m.toNat ^ (k + 1) : Nat) : Int) = ((m.toNat ^ k : Nat) : Int) * m := by rw [Nat.pow_succ, Int.natCast_mul, Int.toNat_of_nonneg (by omega)]
    have h4 : 0 ≤ numK m p k * m := Int.mul_nonneg h1 (by omega)
    have h5 : (numK m p k + 1) * m ≤ ((m.toNat ^ k : Nat) : Int) * m := Int.mul_le_mul_of_nonneg_right (by omega) (by omega)
    rw [Int.add_mul, Int.one_mul] at h5
    rw [e]
    show 0 ≤ numK m p k * m + p k ∧ numK m p k * m + p k < _
    omega
/-- M^k, or 301. -/
def cntM (m : Int) (k : Nat) : Int := if m.toNat ^ k ≤ 300 then ((m.toNat ^ k : Nat) : Int) else 301
theorem cntM_no {m : Int} (hm : 2 ≤ m) {k i : Nat} (hi : i ≤ k) (h : 300 < m.toNat ^ i) : cntM m k = 301 := by
  have : m.toNat ^ i ≤ m.toNat ^ k := Nat.pow_le_pow_right (by omega) hi
  unfold cntM
  rw [if_neg (by omega)]
theorem cntM_le {m : Int} (hm : 2 ≤ m) {k i : Nat} (hi : i ≤ k) (h : m.toNat ^ k ≤ 300) : m.toNat ^ i ≤ 300 := by
  have : m.toNat ^ i ≤ m.toNat ^ k := Nat.pow_le_pow_right (by omega) hi
  omega
theorem pow_int {m : Int} (hm : 2 ≤ m) (i : Nat) : ((m.toNat ^ (i + 1) : Nat) : Int) = ((m.toNat ^ i : Nat) : Int) * m := by
  rw [Nat.pow_succ, Int.natCast_mul, Int.toNat_of_nonneg (by omega)]
theorem c_countAtMost (hm : Md m) (k : Nat) {K : Int} (hK : K = k) (hk : k ≤ 100) : PureCall Tryz.prog 41 [dint m, dint K, dint 300] (dint (cntM m k)) := by
  subst hK
  have hm1 := hm.1
  have hm2 := hm.2
  have hd : (300 : Int).tdiv m = 300 / m := Int.tdiv_eq_ediv_of_nonneg (by omega)
  have hdr : inR .i64 ((300 : Int).tdiv m) := by
    rw [hd]
    have h1 := Int.ediv_le_self m (show (0 : Int) ≤ 300 by omega)
    have h2 := Int.ediv_nonneg (show (0 : Int) ≤ 300 by omega) (show 0 ≤ m by omega)
    exact inR64 (by omega) (by omega)
  refine pure_of_vcR Tryz.tabOk mixOrd Tryz.func41 rfl rfl ?_
  conv => whnf
  repeat' first | ((first | refine And.intro (Or.inl rfl) ?_ | (refine And.intro (fun h => ?_) (fun h => ?_) <;> (try simp only [cnt1, ints_length] at h)) | refine And.intro (show slotsOk _ = true by decide +kernel) ?_ | refine And.intro vOb ?_ | (apply Exists.intro; refine And.intro vObt ?_) | (apply Exists.intro; refine And.intro vObx ?_) | refine And.intro vArT ?_ | refine Or.inl ?_) <;> conv => whnf) | fail
  refine loop_atR Tryz.tabOk mixOrd (α := Nat) (fun i => [(9, dint i), (7, dint ((m.toNat ^ i : Nat) : Int))]) (fun i => []) (fun i => i ≤ k ∧ m.toNat ^ i ≤ 300) (fun i => k - i) (0) ?_ ?_ ?_
  · exact ⟨by omega, by simp⟩
  · conv => whnf
    first | refine WeakS.autoR ?_ | refine Weak.autoR ?_
    conv => whnf
    repeat' ((first | exact trivial | refine And.intro rfl ?_ | refine And.intro (eqV_int vAr) ?_ | refine And.intro vOb ?_ | refine And.intro vRepl ?_ | refine And.intro vReplL ?_ | refine And.intro ?_ ?_) <;> try (conv => whnf))
  intro i ⟨hi, hi3⟩
  conv => whnf
  have hp := pow_int hm1 i
  have hmul : inR .i64 (((m.toNat ^ i : Nat) : Int) * m) := by
    have h1 : 0 ≤ ((m.toNat ^ i : Nat) : Int) * m := Int.mul_nonneg (by omega) (by omega)
    have h2 : ((m.toNat ^ i : Nat) : Int) * m ≤ 300 * 10000 := Int.mul_le_mul (by omega) (by omega) (by omega) (by omega)
    exact inR64 (by omega) (by omega)
  have hle : ((m.toNat ^ i : Nat) : Int) > (300 : Int).tdiv m ↔ 300 < m.toNat ^ (i + 1) := by
    rw [hd]
    have h1 := Int.lt_ediv_add_one_mul_self 300 (show 0 < m by omega)
    have h2 := Int.ediv_mul_le 300 (show m ≠ 0 by omega)
    constructor
    · intro h
      have h3 : (300 / m + 1) * m ≤ ((m.toNat ^ i : Nat) : Int) * m := Int.mul_le_mul_of_nonneg_right (by omega) (by omega)
      omega
    · intro h
      refine Int.lt_of_not_ge (fun h4 => ?_)
      have h3 : ((m.toNat ^ i : Nat) : Int) * m ≤ 300 / m * m := Int.mul_le_mul_of_nonneg_right h4 (by omega)
      omega
  by_cases hik : i < k
  · by_cases h3 : 300 < m.toNat ^ (i + 1)
    · have h4 := hle.2 h3
      repeat' first | ((first | refine And.intro (Or.inl rfl) ?_ | (refine And.intro (fun h => ?_) (fun h => ?_) <;> (try simp only [cnt1, ints_length] at h) <;> first | (exfalso; omega) | skip) | refine And.intro (show slotsOk _ = true by decide +kernel) ?_ | refine And.intro vOb ?_ | (apply Exists.intro; refine And.intro vObt ?_) | (apply Exists.intro; refine And.intro vObx ?_) | refine And.intro vArT ?_ | refine And.intro (hdr) ?_ | refine And.intro (hmul) ?_ | refine Or.inl ?_) <;> conv => whnf) | fail
      all_goals exact congrArg dint (cntM_no hm1 (show i + 1 ≤ k by omega) h3).symm
    · have h4 : ¬ ((m.toNat ^ i : Nat) : Int) > (300 : Int).tdiv m := fun h => h3 (hle.1 h)
      repeat' first | ((first | refine And.intro (Or.inl rfl) ?_ | (refine And.intro (fun h => ?_) (fun h => ?_) <;> (try simp only [cnt1, ints_length] at h) <;> first | (exfalso; omega) | skip) | refine And.intro (show slotsOk _ = true by decide +kernel) ?_ | refine And.intro vOb ?_ | (apply Exists.intro; refine And.intro vObt ?_) | (apply Exists.intro; refine And.intro vObx ?_) | refine And.intro vArT ?_ | refine And.intro (hdr) ?_ | refine And.intro (hmul) ?_ | refine Or.inl ?_) <;> conv => whnf) | fail
      refine Exists.intro (i + 1) (And.intro ⟨by omega, by omega⟩ (And.intro (by omega) ?_))
      first | refine WeakS.autoR ?_ | refine Weak.autoR ?_
      conv => whnf
      repeat' ((first | exact trivial | refine And.intro rfl ?_ | refine And.intro (eqV_int vAr) ?_ | refine And.intro vOb ?_ | refine And.intro vRepl ?_ | refine And.intro vReplL ?_ | refine And.intro ?_ ?_) <;> try (conv => whnf))
      all_goals exact hp.symm
  · have hik2 : i = k := by omega
    subst hik2
    repeat' first | ((first | refine And.intro (Or.inl rfl) ?_ | (refine And.intro (fun h => ?_) (fun h => ?_) <;> (try simp only [cnt1, ints_length] at h) <;> first | (exfalso; omega) | skip) | refine And.intro (show slotsOk _ = true by decide +kernel) ?_ | refine And.intro vOb ?_ | (apply Exists.intro; refine And.intro vObt ?_) | (apply Exists.intro; refine And.intro vObx ?_) | refine And.intro vArT ?_ | refine Or.inl ?_) <;> conv => whnf) | fail
    all_goals (refine congrArg dint ?_; unfold cntM; rw [if_pos hi3])
theorem c_l11Count (hm : Md m) (k : Nat) {d : Int} (hd : d = (k : Int) + 1) (hk : k ≤ 100) : PureCall Tryz.prog 18 [dint m, dint d] (dint (cntM m k)) := by
  subst hd
  have hm1 := hm.1
  have hm2 := hm.2
  refine pure_of_vcR Tryz.tabOk mixOrd Tryz.func18 rfl rfl ?_
  conv => whnf
  repeat' first | ((first | refine And.intro (Or.inl rfl) ?_ | (refine And.intro (fun h => ?_) (fun h => ?_) <;> (try simp only [cnt1, ints_length] at h)) | refine And.intro (show slotsOk _ = true by decide +kernel) ?_ | refine And.intro vOb ?_ | (apply Exists.intro; refine And.intro vObt ?_) | (apply Exists.intro; refine And.intro vObx ?_) | refine And.intro vArT ?_ | refine Or.inl ?_) <;> conv => whnf) | fail
  refine loop_atR Tryz.tabOk mixOrd (α := Nat) (fun i => [(6, dint ((i : Int) + 1)), (5, dint ((m.toNat ^ i : Nat) : Int))]) (fun i => []) (fun i => i ≤ k ∧ m.toNat ^ i ≤ 300) (fun i => k - i) (0) ?_ ?_ ?_
  · exact ⟨by omega, by simp⟩
  · conv => whnf
    first | refine WeakS.autoR ?_ | refine Weak.autoR ?_
    conv => whnf
    repeat' ((first | exact trivial | refine And.intro rfl ?_ | refine And.intro (eqV_int vAr) ?_ | refine And.intro vOb ?_ | refine And.intro vRepl ?_ | refine And.intro vReplL ?_ | refine And.intro ?_ ?_) <;> try (conv => whnf))
  intro i ⟨hi, hi3⟩
  conv => whnf
  have hp := pow_int hm1 i
  have hmul : inR .i64 (((m.toNat ^ i : Nat) : Int) * m) := by
    have h1 : 0 ≤ ((m.toNat ^ i : Nat) : Int) * m := Int.mul_nonneg (by omega) (by omega)
    have h2 : ((m.toNat ^ i : Nat) : Int) * m ≤ 300 * 10000 := Int.mul_le_mul (by omega) (by omega) (by omega) (by omega)
    exact inR64 (by omega) (by omega)
  by_cases hik : i < k
  · by_cases h3 : 300 < m.toNat ^ (i + 1)
    · repeat' first | ((first | refine And.intro (Or.inl rfl) ?_ | (refine And.intro (fun h => ?_) (fun h => ?_) <;> (try simp only [cnt1, ints_length] at h) <;> first | (exfalso; omega) | skip) | refine And.intro (show slotsOk _ = true by decide +kernel) ?_ | refine And.intro vOb ?_ | (apply Exists.intro; refine And.intro vObt ?_) | (apply Exists.intro; refine And.intro vObx ?_) | refine And.intro vArT ?_ | refine And.intro (hmul) ?_ | refine Or.inl ?_) <;> conv => whnf) | fail
      all_goals exact congrArg dint (cntM_no hm1 (show i + 1 ≤ k by omega) h3).symm
    · repeat' first | ((first | refine And.intro (Or.inl rfl) ?_ | (refine And.intro (fun h => ?_) (fun h => ?_) <;> (try simp only [cnt1, ints_length] at h) <;> first | (exfalso; omega) | skip) | refine And.intro (show slotsOk _ = true by decide +kernel) ?_ | refine And.intro vOb ?_ | (apply Exists.intro; refine And.intro vObt ?_) | (apply Exists.intro; refine And.intro vObx ?_) | refine And.intro vArT ?_ | refine And.intro (hmul) ?_ | refine Or.inl ?_) <;> conv => whnf) | fail
      refine Exists.intro (i + 1) (And.intro ⟨by omega, by omega⟩ (And.intro (by omega) ?_))
      first | refine WeakS.autoR ?_ | refine Weak.autoR ?_
      conv => whnf
      repeat' ((first | exact trivial | refine And.intro rfl ?_ | refine And.intro (eqV_int vAr) ?_ | refine And.intro vOb ?_ | refine And.intro vRepl ?_ | refine And.intro vReplL ?_ | refine And.intro ?_ ?_) <;> try (conv => whnf))
      all_goals exact hp.symm
  · have hik2 : i = k := by omega
    subst hik2
    repeat' first | ((first | refine And.intro (Or.inl rfl) ?_ | (refine And.intro (fun h => ?_) (fun h => ?_) <;> (try simp only [cnt1, ints_length] at h) <;> first | (exfalso; omega) | skip) | refine And.intro (show slotsOk _ = true by decide +kernel) ?_ | refine And.intro vOb ?_ | (apply Exists.intro; refine And.intro vObt ?_) | (apply Exists.intro; refine And.intro vObx ?_) | refine And.intro vArT ?_ | refine Or.inl ?_) <;> conv => whnf) | fail
    all_goals (refine congrArg dint ?_; unfold cntM; rw [if_pos hi3])
theorem szT_leN {n : Int} {t : List (List Int)} (hn : 0 ≤ n) : szT n t ≤ n := by
  unfold szT; split <;> omega
theorem lawB_mdN {m : Int} {t : List (List Int)} (h : lawB m t = true) : plB m t = true ∧ LawP (rd2 m t) t.length := by
  simp only [lawB, trL, Bool.and_eq_true, decide_eq_true_eq] at h
  exact h
noncomputable def noCode (m : Int) (t : List (List Int)) : Int := if lawB m t = true then if t.length = 2 then 5 else if m.toNat ^ (t.length - 2) ≤ 300 then 0 else 3 else 1
noncomputable def noRes (m : Int) (t : List (List Int)) : D := if noCode m t = 0 then .tup [dint (numK m (fun i => (parN (rd2 m t) (i + 2) : Int)) (t.length - 2)), dint 0] else .tup [dint 0, dint (noCode m t)]
theorem noCode_0 {m : Int} {t : List (List Int)} (h : noCode m t = 0) : lawB m t = true ∧ t.length ≠ 2 ∧ m.toNat ^ (t.length - 2) ≤ 300 := by
  unfold noCode at h
  split at h
  · split at h
    · omega
    · split at h
      · exact ⟨by assumption, by assumption, by assumption⟩
      · omega
  · omega
theorem par_b (hm : 0 < m) {f : PS (PS (Zm m))} {N : Nat} (hN : N ≤ 11) (hL : LawP f N) (i : Nat) (hi : i < N - 2) : 0 ≤ (parN f (i + 2) : Int) ∧ (parN f (i + 2) : Int) < m := by
  have h := (parN_ok hm (n := i + 2) ⟨by omega, by omega⟩ (lawP_le (n := i + 2 + 1) (by omega) (by omega) hL)).1
  omega
theorem numK_300 (hm : Md m) {f : PS (PS (Zm m))} {N : Nat} (hN : N ≤ 11) (hL : LawP f N) (h3 : m.toNat ^ (N - 2) ≤ 300) {k : Nat} (hk : k ≤ N - 2) : 0 ≤ numK m (fun i => (parN f (i + 2) : Int)) k ∧ numK m (fun i => (parN f (i + 2) : Int)) k < 300 := by
  have h1 := numK_b hm.1 (p := fun i => (parN f (i + 2) : Int)) (k := k) (fun i hi => par_b hm.pos hN hL i (by omega))
  have h2 := cntM_le hm.1 hk h3
  omega
theorem c_classable (hm : Md m) (k : Nat) {d : Int} (hd : d = (k : Int) + 1) (hk : 1 ≤ k ∧ k ≤ 9) : PureCall Tryz.prog 24 [dint m, dint d] (dint (if m.toNat ^ k ≤ 300 then 0 else 3)) := by
  have hm1 := hm.1
  have hm2 := hm.2
  have hmod := c_IsModulus m
  have hin := c_impl_in d 2 10
  rw [show inB m 2 10000 = true by simp only [inB, decide_eq_true_eq]; omega] at hmod
  rw [show inB d 2 10 = true by simp only [inB, decide_eq_true_eq]; omega] at hin
  have hcnt := fun (K : Int) (hK : K = (k : Int)) => c_countAtMost hm k hK (by omega)
  by_cases h3 : m.toNat ^ k ≤ 300
  · rw [if_pos h3]
    have e : cntM m k = ((m.toNat ^ k : Nat) : Int) := if_pos h3
    rw [e] at hcnt
    refine pure_of_vcR Tryz.tabOk mixOrd Tryz.func24 rfl rfl ?_
    conv => whnf
    repeat' first | ((first | refine And.intro (Or.inl rfl) ?_ | (apply Exists.intro; refine And.intro (hmod) ?_) | (apply Exists.intro; refine And.intro (hin) ?_) | (apply Exists.intro; refine And.intro (hcnt _ (by omega)) ?_) | (refine And.intro (fun h => ?_) (fun h => ?_) <;> (try simp only [cnt1, ints_length] at h) <;> first | (exfalso; omega) | skip) | refine And.intro (show slotsOk _ = true by decide +kernel) ?_ | refine And.intro vOb ?_ | (apply Exists.intro; refine And.intro vObt ?_) | (apply Exists.intro; refine And.intro vObx ?_) | refine And.intro vArT ?_ | refine Or.inl ?_) <;> conv => whnf) | fail
    all_goals first | rfl | (exfalso; omega) | (exfalso; simp_all; done) | (exfalso; simp_all; omega)
  · rw [if_neg h3]
    have e : cntM m k = 301 := if_neg h3
    rw [e] at hcnt
    refine pure_of_vcR Tryz.tabOk mixOrd Tryz.func24 rfl rfl ?_
    conv => whnf
    repeat' first | ((first | refine And.intro (Or.inl rfl) ?_ | (apply Exists.intro; refine And.intro (hmod) ?_) | (apply Exists.intro; refine And.intro (hin) ?_) | (apply Exists.intro; refine And.intro (hcnt _ (by omega)) ?_) | (refine And.intro (fun h => ?_) (fun h => ?_) <;> (try simp only [cnt1, ints_length] at h) <;> first | (exfalso; omega) | skip) | refine And.intro (show slotsOk _ = true by decide +kernel) ?_ | refine And.intro vOb ?_ | (apply Exists.intro; refine And.intro vObt ?_) | (apply Exists.intro; refine And.intro vObx ?_) | refine And.intro vArT ?_ | refine Or.inl ?_) <;> conv => whnf) | fail
    all_goals first | rfl | (exfalso; omega) | (exfalso; simp_all; done) | (exfalso; simp_all; omega)
theorem c_implNumberOfLaw (o p : Bool) (m : Int) (t : List (List Int)) (hl : t.length ≤ 1048576) (hr : lensOk t) : PureCall Tryz.prog 7 [.agg [dint m, .list o 1 (rows p t)]] (noRes m t) := by
  have h0 := c_IsLaw o p m t hl hr
  cases hc : lawB m t with
  | false =>
    rw [hc] at h0
    have e : noCode m t = 1 := by unfold noCode; rw [if_neg (by simp [hc])]
    rw [noRes, if_neg (by omega), e]
    refine pure_of_vcR Tryz.tabOk mixOrd Tryz.func7 rfl rfl ?_
    conv => whnf
    repeat' first | ((first | refine And.intro (Or.inl rfl) ?_ | (apply Exists.intro; refine And.intro (h0) ?_) | refine Or.inr (inl_ofR Tryz.tabOk mixOrd _ Tryz.func13 rfl rfl ?_) | (refine And.intro (fun h => ?_) (fun h => ?_) <;> (try simp only [cnt1, ints_length] at h) <;> first | (exfalso; omega) | skip) | refine And.intro (show slotsOk _ = true by decide +kernel) ?_ | refine And.intro vOb ?_ | (apply Exists.intro; refine And.intro vObt ?_) | (apply Exists.intro; refine And.intro vObx ?_) | refine And.intro vArT ?_ | refine Or.inl ?_) <;> conv => whnf) | fail
    all_goals first | rfl | (exfalso; simp_all)
  | true =>
    rw [hc] at h0
    obtain ⟨hp, hL⟩ := lawB_mdN hc
    obtain ⟨hm, h3, h4, _⟩ := plB_md hp
    have hm1 := hm.1
    have hm2 := hm.2
    have hdeg := c_degreeP o p t.length (by omega) (rd2 m t)
    simp only [PlD, plB_T hp] at hdeg
    by_cases h11 : t.length = 2
    · have e : noCode m t = 5 := by unfold noCode; rw [if_pos hc, if_pos h11]
      rw [noRes, if_neg (by omega), e]
      refine pure_of_vcR Tryz.tabOk mixOrd Tryz.func7 rfl rfl ?_
      conv => whnf
      repeat' first | ((first | refine And.intro (Or.inl rfl) ?_ | (apply Exists.intro; refine And.intro (h0) ?_) | refine Or.inr (inl_ofR Tryz.tabOk mixOrd _ Tryz.func13 rfl rfl ?_) | (apply Exists.intro; refine And.intro (hdeg) ?_) | (refine And.intro (fun h => ?_) (fun h => ?_) <;> (try simp only [cnt1, ints_length] at h) <;> first | (exfalso; omega) | skip) | refine And.intro (show slotsOk _ = true by decide +kernel) ?_ | refine And.intro vOb ?_ | (apply Exists.intro; refine And.intro vObt ?_) | (apply Exists.intro; refine And.intro vObx ?_) | refine And.intro vArT ?_ | refine Or.inl ?_) <;> conv => whnf) | fail
      all_goals first | rfl | (exfalso; simp_all; done) | (exfalso; omega) | (exfalso; simp only [cnt1, rows_length] at *; omega) | (exfalso; simp_all; omega)
    · have hcl := fun (d : Int) (hd : d = ((t.length - 2 : Nat) : Int) + 1) => c_classable hm (t.length - 2) hd (by omega)
      have hpl : (parL (rd2 m t) (t.length - 2)).length = t.length - 2 := by simp [parL]
      by_cases h3b : m.toNat ^ (t.length - 2) ≤ 300
      · have e : noCode m t = 0 := by unfold noCode; rw [if_pos hc, if_neg h11, if_pos h3b]
        rw [noRes, if_pos e]
        rw [if_pos h3b] at hcl
        have key := c_parameters hm o p t.length ⟨by omega, by omega⟩ (rd2 m t) hL
        rw [show PlD m o p t.length (rd2 m t) = .agg [dint m, .list o 1 (rows p t)] by simp only [PlD, plB_T hp]] at key
        refine pure_of_vcR Tryz.tabOk mixOrd Tryz.func7 rfl rfl ?_
        conv => whnf
        repeat' first | ((first | refine And.intro (Or.inl rfl) ?_ | (apply Exists.intro; refine And.intro (h0) ?_) | refine Or.inr (inl_ofR Tryz.tabOk mixOrd _ Tryz.func13 rfl rfl ?_) | (apply Exists.intro; refine And.intro (hdeg) ?_) | (apply Exists.intro; refine And.intro (hcl _ (by omega)) ?_) | (apply Exists.intro; refine And.intro (key) ?_) | (refine And.intro (fun h => ?_) (fun h => ?_) <;> (try simp only [cnt1, ints_length] at h) <;> first | (exfalso; omega) | skip) | refine And.intro (show slotsOk _ = true by decide +kernel) ?_ | refine And.intro vOb ?_ | (apply Exists.intro; refine And.intro vObt ?_) | (apply Exists.intro; refine And.intro vObx ?_) | refine And.intro vArT ?_ | refine Or.inl ?_) <;> conv => whnf) | fail
        all_goals try (exfalso; first | omega | (simp_all; done) | (simp only [cnt1, rows_length] at *; omega) | (simp_all; omega))
        refine loop_atR Tryz.tabOk mixOrd (α := Nat) (fun k => [(16, dint k), (5, dint (numK m (fun i => (parN (rd2 m t) (i + 2) : Int)) k))]) (fun k => []) (fun k => k ≤ t.length - 2) (fun k => t.length - 2 - k) (0) ?_ ?_ ?_
        · omega
        · conv => whnf
          first | refine WeakS.autoR ?_ | refine Weak.autoR ?_
          conv => whnf
          repeat' ((first | exact trivial | refine And.intro rfl ?_ | refine And.intro (eqV_int vAr) ?_ | refine And.intro vOb ?_ | refine And.intro vRepl ?_ | refine And.intro vReplL ?_ | refine And.intro ?_ ?_) <;> try (conv => whnf))
        intro k hk
        conv => whnf
        have hnk := numK_300 hm h4 hL h3b hk
        by_cases hkN : k < t.length - 2
        · have hpk := par_b hm.pos h4 hL k hkN
          have hmk1 : 0 ≤ numK m (fun i => (parN (rd2 m t) (i + 2) : Int)) k * m := Int.mul_nonneg hnk.1 (by omega)
          have hmk2 : numK m (fun i => (parN (rd2 m t) (i + 2) : Int)) k * m ≤ 300 * 10000 := Int.mul_le_mul (by omega) (by omega) (by omega) (by omega)
          repeat' first | ((first | refine And.intro (Or.inl rfl) ?_ | (apply Exists.intro; refine And.intro (vLoadN (w := t.length - 2) (r := fun i => (parN (rd2 m t) (i + 2) : Int)) k vIx hkN) ?_) | (refine And.intro (fun h => ?_) (fun h => ?_) <;> (try simp only [cnt1, ints_length, rows_length, Tb_length, lM_length, tM_length] at h) <;> first | (exfalso; omega) | skip) | refine And.intro (show slotsOk _ = true by decide +kernel) ?_ | refine And.intro vOb ?_ | (apply Exists.intro; refine And.intro vObt ?_) | (apply Exists.intro; refine And.intro vObx ?_) | refine And.intro vArT ?_ | refine And.intro (vMn) ?_ | refine Or.inl ?_) <;> conv => whnf) | fail
          refine Exists.intro (k + 1) (And.intro (by omega) (And.intro (by omega) ?_))
          first | refine WeakS.autoR ?_ | refine Weak.autoR ?_
          conv => whnf
          repeat' ((first | exact trivial | refine And.intro rfl ?_ | refine And.intro (eqV_int vAr) ?_ | refine And.intro vOb ?_ | refine And.intro vRepl ?_ | refine And.intro vReplL ?_ | refine And.intro ?_ ?_) <;> try (conv => whnf))
        · have hkN2 : k = t.length - 2 := by omega
          rw [hkN2]
          repeat' first | ((first | refine And.intro (Or.inl rfl) ?_ | (refine And.intro (fun h => ?_) (fun h => ?_) <;> (try simp only [cnt1, ints_length, rows_length, Tb_length, lM_length, tM_length] at h) <;> first | (exfalso; omega) | skip) | refine And.intro (show slotsOk _ = true by decide +kernel) ?_ | refine And.intro vOb ?_ | (apply Exists.intro; refine And.intro vObt ?_) | (apply Exists.intro; refine And.intro vObx ?_) | refine And.intro vArT ?_ | refine And.intro (vMn) ?_ | refine Or.inl ?_) <;> conv => whnf) | fail
      · have e : noCode m t = 3 := by unfold noCode; rw [if_pos hc, if_neg h11, if_neg h3b]
        rw [noRes, if_neg (by omega), e]
        rw [if_neg h3b] at hcl
        refine pure_of_vcR Tryz.tabOk mixOrd Tryz.func7 rfl rfl ?_
        conv => whnf
        repeat' first | ((first | refine And.intro (Or.inl rfl) ?_ | (apply Exists.intro; refine And.intro (h0) ?_) | refine Or.inr (inl_ofR Tryz.tabOk mixOrd _ Tryz.func13 rfl rfl ?_) | (apply Exists.intro; refine And.intro (hdeg) ?_) | (apply Exists.intro; refine And.intro (hcl _ (by omega)) ?_) | (refine And.intro (fun h => ?_) (fun h => ?_) <;> (try simp only [cnt1, ints_length] at h) <;> first | (exfalso; omega) | skip) | refine And.intro (show slotsOk _ = true by decide +kernel) ?_ | refine And.intro vOb ?_ | (apply Exists.intro; refine And.intro vObt ?_) | (apply Exists.intro; refine And.intro vObx ?_) | refine And.intro vArT ?_ | refine Or.inl ?_) <;> conv => whnf) | fail
        all_goals first | rfl | (exfalso; simp_all; done) | (exfalso; omega) | (exfalso; simp only [cnt1, rows_length] at *; omega) | (exfalso; simp_all; omega)
theorem c_l11Number (hm : Md m) (o p : Bool) (N : Nat) (hN : 3 ≤ N ∧ N ≤ 11) (f : PS (PS (Zm m))) (hL : LawP f N) (h3 : m.toNat ^ (N - 2) ≤ 300) : PureCall Tryz.prog 11 [dint m, TbD o p N f] (dint (numK m (fun i => (parN f (i + 2) : Int)) (N - 2))) := by
  have hm1 := hm.1
  have hm2 := hm.2
  have hpl : (parL f (N - 2)).length = N - 2 := by simp [parL]
  refine pure_of_vcR Tryz.tabOk mixOrd Tryz.func11 rfl rfl ?_
  conv => whnf
  repeat' first | ((first | refine And.intro (Or.inl rfl) ?_ | (apply Exists.intro; refine And.intro (c_l07Parameters hm _ _ N hN f hL) ?_) | (refine And.intro (fun h => ?_) (fun h => ?_) <;> (try simp only [cnt1, ints_length] at h)) | refine And.intro (show slotsOk _ = true by decide +kernel) ?_ | refine And.intro vOb ?_ | (apply Exists.intro; refine And.intro vObt ?_) | (apply Exists.intro; refine And.intro vObx ?_) | refine And.intro vArT ?_ | refine Or.inl ?_) <;> conv => whnf) | fail
  refine loop_atR Tryz.tabOk mixOrd (α := Nat) (fun k => [(7, dint k), (6, dint (numK m (fun i => (parN f (i + 2) : Int)) k))]) (fun k => []) (fun k => k ≤ N - 2) (fun k => N - 2 - k) (0) ?_ ?_ ?_
  · omega
  · conv => whnf
    first | refine WeakS.autoR ?_ | refine Weak.autoR ?_
    conv => whnf
    repeat' ((first | exact trivial | refine And.intro rfl ?_ | refine And.intro (eqV_int vAr) ?_ | refine And.intro vOb ?_ | refine And.intro vRepl ?_ | refine And.intro vReplL ?_ | refine And.intro ?_ ?_) <;> try (conv => whnf))
  intro k hk
  conv => whnf
  have hnk := numK_300 hm hN.2 hL h3 hk
  by_cases hkN : k < N - 2
  · have hpk := par_b hm.pos hN.2 hL k hkN
    have hmk1 : 0 ≤ numK m (fun i => (parN f (i + 2) : Int)) k * m := Int.mul_nonneg hnk.1 (by omega)
    have hmk2 : numK m (fun i => (parN f (i + 2) : Int)) k * m ≤ 300 * 10000 := Int.mul_le_mul (by omega) (by omega) (by omega) (by omega)
    repeat' first | ((first | refine And.intro (Or.inl rfl) ?_ | (apply Exists.intro; refine And.intro (vLoadN (w := N - 2) (r := fun i => (parN f (i + 2) : Int)) k vIx hkN) ?_) | (refine And.intro (fun h => ?_) (fun h => ?_) <;> (try simp only [cnt1, ints_length, rows_length, Tb_length, lM_length, tM_length] at h) <;> first | (exfalso; omega) | skip) | refine And.intro (show slotsOk _ = true by decide +kernel) ?_ | refine And.intro vOb ?_ | (apply Exists.intro; refine And.intro vObt ?_) | (apply Exists.intro; refine And.intro vObx ?_) | refine And.intro vArT ?_ | refine And.intro (vMn) ?_ | refine Or.inl ?_) <;> conv => whnf) | fail
    refine Exists.intro (k + 1) (And.intro (by omega) (And.intro (by omega) ?_))
    first | refine WeakS.autoR ?_ | refine Weak.autoR ?_
    conv => whnf
    repeat' ((first | exact trivial | refine And.intro rfl ?_ | refine And.intro (eqV_int vAr) ?_ | refine And.intro vOb ?_ | refine And.intro vRepl ?_ | refine And.intro vReplL ?_ | refine And.intro ?_ ?_) <;> try (conv => whnf))
  · have hkN2 : k = N - 2 := by omega
    subst hkN2
    repeat' first | ((first | refine And.intro (Or.inl rfl) ?_ | (refine And.intro (fun h => ?_) (fun h => ?_) <;> (try simp only [cnt1, ints_length, rows_length, Tb_length, lM_length, tM_length] at h) <;> first | (exfalso; omega) | skip) | refine And.intro (show slotsOk _ = true by decide +kernel) ?_ | refine And.intro vOb ?_ | (apply Exists.intro; refine And.intro vObt ?_) | (apply Exists.intro; refine And.intro vObx ?_) | refine And.intro vArT ?_ | refine And.intro (vMn) ?_ | refine Or.inl ?_) <;> conv => whnf) | fail
theorem c_degN (o p : Bool) (m : Int) (t : List (List Int)) (hl : t.length ≤ 1048576) : PureCall Tryz.prog 19 [.agg [dint m, .list o 1 (rows p t)]] (dint ((t.length : Int) - 1)) := by
  refine pure_of_vcR Tryz.tabOk mixOrd Tryz.func19 rfl rfl ?_
  conv => whnf
  repeat' first | ((first | refine And.intro (Or.inl rfl) ?_ | (refine And.intro (fun h => ?_) (fun h => ?_) <;> (try simp only [cnt1, ints_length] at h)) | refine And.intro (show slotsOk _ = true by decide +kernel) ?_ | refine And.intro vOb ?_ | (apply Exists.intro; refine And.intro vObt ?_) | (apply Exists.intro; refine And.intro vObx ?_) | refine And.intro vArT ?_ | refine Or.inl ?_) <;> conv => whnf) | fail
  all_goals simp [cnt1]
theorem c_specNumberOfLaw (o p : Bool) (m : Int) (t : List (List Int)) (hl : t.length ≤ 1048576) (hr : lensOk t) : PureCall Tryz.prog 5 [.agg [dint m, .list o 1 (rows p t)]] (noRes m t) := by
  have h0 := c_l04Is o p m t hl hr
  cases hc : lawB m t with
  | false =>
    rw [hc] at h0
    have e : noCode m t = 1 := by unfold noCode; rw [if_neg (by simp [hc])]
    rw [noRes, if_neg (by omega), e]
    refine pure_of_vcR Tryz.tabOk mixOrd Tryz.func5 rfl rfl ?_
    conv => whnf
    repeat' first | ((first | refine And.intro (Or.inl rfl) ?_ | (apply Exists.intro; refine And.intro (h0) ?_) | refine Or.inr (inl_ofR Tryz.tabOk mixOrd _ Tryz.func10 rfl rfl ?_) | (refine And.intro (fun h => ?_) (fun h => ?_) <;> (try simp only [cnt1, ints_length] at h) <;> first | (exfalso; omega) | skip) | refine And.intro (show slotsOk _ = true by decide +kernel) ?_ | refine And.intro vOb ?_ | (apply Exists.intro; refine And.intro vObt ?_) | (apply Exists.intro; refine And.intro vObx ?_) | refine And.intro vArT ?_ | refine Or.inl ?_) <;> conv => whnf) | fail
    all_goals first | rfl | (exfalso; simp_all)
  | true =>
    rw [hc] at h0
    obtain ⟨hp, hL⟩ := lawB_mdN hc
    obtain ⟨hm, h3, h4, _⟩ := plB_md hp
    have hm1 := hm.1
    have hm2 := hm.2
    by_cases h11 : t.length = 2
    · have e : noCode m t = 5 := by unfold noCode; rw [if_pos hc, if_pos h11]
      rw [noRes, if_neg (by omega), e]
      refine pure_of_vcR Tryz.tabOk mixOrd Tryz.func5 rfl rfl ?_
      conv => whnf
      repeat' first | ((first | refine And.intro (Or.inl rfl) ?_ | (apply Exists.intro; refine And.intro (h0) ?_) | refine Or.inr (inl_ofR Tryz.tabOk mixOrd _ Tryz.func10 rfl rfl ?_) | (refine And.intro (fun h => ?_) (fun h => ?_) <;> (try simp only [cnt1, ints_length] at h) <;> first | (exfalso; omega) | skip) | refine And.intro (show slotsOk _ = true by decide +kernel) ?_ | refine And.intro vOb ?_ | (apply Exists.intro; refine And.intro vObt ?_) | (apply Exists.intro; refine And.intro vObx ?_) | refine And.intro vArT ?_ | refine Or.inl ?_) <;> conv => whnf) | fail
      all_goals first | rfl | (exfalso; simp_all; done) | (exfalso; omega) | (exfalso; simp only [cnt1, rows_length] at *; omega) | (exfalso; simp_all; omega)
    · by_cases h3b : m.toNat ^ (t.length - 2) ≤ 300
      · have e : noCode m t = 0 := by unfold noCode; rw [if_pos hc, if_neg h11, if_pos h3b]
        rw [noRes, if_pos e]
        have hcnt : ∀ d : Int, d = ((t.length - 2 : Nat) : Int) + 1 → PureCall Tryz.prog 18 [dint m, dint d] (dint ((m.toNat ^ (t.length - 2) : Nat) : Int)) := fun d hd => by
          have := c_l11Count hm (t.length - 2) hd (by omega)
          unfold cntM at this
          rwa [if_pos h3b] at this
        have key := c_l11Number hm o p t.length ⟨by omega, by omega⟩ (rd2 m t) hL h3b
        rw [show TbD o p t.length (rd2 m t) = .list o 1 (rows p t) by simp only [TbD, plB_T hp]] at key
        refine pure_of_vcR Tryz.tabOk mixOrd Tryz.func5 rfl rfl ?_
        conv => whnf
        repeat' first | ((first | refine And.intro (Or.inl rfl) ?_ | (apply Exists.intro; refine And.intro (h0) ?_) | refine Or.inr (inl_ofR Tryz.tabOk mixOrd _ Tryz.func10 rfl rfl ?_) | (apply Exists.intro; refine And.intro (c_degN _ _ m t hl) ?_) | (apply Exists.intro; refine And.intro (hcnt _ (by first | omega | (simp only [cnt1, rows_length]; omega))) ?_) | (apply Exists.intro; refine And.intro (key) ?_) | (refine And.intro (fun h => ?_) (fun h => ?_) <;> (try simp only [cnt1, ints_length] at h) <;> first | (exfalso; omega) | skip) | refine And.intro (show slotsOk _ = true by decide +kernel) ?_ | refine And.intro vOb ?_ | (apply Exists.intro; refine And.intro vObt ?_) | (apply Exists.intro; refine And.intro vObx ?_) | refine And.intro vArT ?_ | refine Or.inl ?_) <;> conv => whnf) | fail
        all_goals first | rfl | (exfalso; simp_all; done) | (exfalso; omega) | (exfalso; simp only [cnt1, rows_length] at *; omega) | (exfalso; simp_all; omega)
      · have e : noCode m t = 3 := by unfold noCode; rw [if_pos hc, if_neg h11, if_neg h3b]
        rw [noRes, if_neg (by omega), e]
        have hcnt : ∀ d : Int, d = ((t.length - 2 : Nat) : Int) + 1 → PureCall Tryz.prog 18 [dint m, dint d] (dint 301) := fun d hd => by
          have := c_l11Count hm (t.length - 2) hd (by omega)
          unfold cntM at this
          rwa [if_neg h3b] at this
        refine pure_of_vcR Tryz.tabOk mixOrd Tryz.func5 rfl rfl ?_
        conv => whnf
        repeat' first | ((first | refine And.intro (Or.inl rfl) ?_ | (apply Exists.intro; refine And.intro (h0) ?_) | refine Or.inr (inl_ofR Tryz.tabOk mixOrd _ Tryz.func10 rfl rfl ?_) | (apply Exists.intro; refine And.intro (c_degN _ _ m t hl) ?_) | (apply Exists.intro; refine And.intro (hcnt _ (by first | omega | (simp only [cnt1, rows_length]; omega))) ?_) | (refine And.intro (fun h => ?_) (fun h => ?_) <;> (try simp only [cnt1, ints_length] at h) <;> first | (exfalso; omega) | skip) | refine And.intro (show slotsOk _ = true by decide +kernel) ?_ | refine And.intro vOb ?_ | (apply Exists.intro; refine And.intro vObt ?_) | (apply Exists.intro; refine And.intro vObx ?_) | refine And.intro vArT ?_ | refine Or.inl ?_) <;> conv => whnf) | fail
        all_goals first | rfl | (exfalso; simp_all; done) | (exfalso; omega) | (exfalso; simp only [cnt1, rows_length] at *; omega) | (exfalso; simp_all; omega)
theorem c_FnExactNumberOfLaw (m : Int) (t : List (List Int)) (_ : -9223372036854775808 ≤ m ∧ m ≤ 9223372036854775807) (g : (∀ k, k < t.length → (t.getD k []).length ≤ 9223372036854775807) ∧ t.length ≤ 9223372036854775807) : PureCall Tryz.prog 3 [.agg [dint m, .list false 1 (rows false t)]] (dbool true) := by
  have hT := szT_leN (n := 1048576) (t := t) (by omega)
  refine pure_of_vcR Tryz.tabOk mixOrd Tryz.func3 rfl rfl ?_
  conv => whnf
  repeat' first | ((first | refine And.intro (Or.inl rfl) ?_ | (apply Exists.intro; refine And.intro (c_szPlane _ _ _ t _ (by omega) g.2 g.1) ?_) | (refine And.intro (fun h => ?_) (fun h => ?_) <;> (try simp only [cnt1, ints_length] at h) <;> first | (exfalso; omega) | skip) | refine And.intro (show slotsOk _ = true by decide +kernel) ?_ | refine And.intro vOb ?_ | (apply Exists.intro; refine And.intro vObt ?_) | (apply Exists.intro; refine And.intro vObx ?_) | refine And.intro vArT ?_ | refine Or.inl ?_) <;> conv => whnf) | fail
  have hA : ¬ szT 1048576 t < 0 := by assumption
  obtain ⟨hl, hr⟩ := szT_ok (by omega) hA
  have e1 := c_specNumberOfLaw false true m t hl hr
  have e3 := c_implNumberOfLaw false true m t hl hr
  by_cases hc : noCode m t = 0
  · rw [noRes, if_pos hc] at e1 e3
    generalize numK m (fun i => (parN (rd2 m t) (i + 2) : Int)) (t.length - 2) = v at e1 e3
    repeat' first | ((first | refine And.intro (Or.inl rfl) ?_ | (apply Exists.intro; refine And.intro (c_toPlane _ _ _ _ hl hr) ?_) | (apply Exists.intro; refine And.intro (e1) ?_) | (apply Exists.intro; refine And.intro (e3) ?_) | (apply Exists.intro; refine And.intro (c_eqPlane _ _ _ _ _ _ _ _ hl hr) ?_) | (refine And.intro (fun h => ?_) (fun h => ?_) <;> (try simp only [cnt1, ints_length] at h)) | refine And.intro (show slotsOk _ = true by decide +kernel) ?_ | refine And.intro vOb ?_ | (apply Exists.intro; refine And.intro vObt ?_) | (apply Exists.intro; refine And.intro vObx ?_) | refine And.intro vArT ?_ | refine Or.inl ?_) <;> conv => whnf) | fail
    all_goals (exfalso; first | omega | (simp_all; done) | (simp_all; omega))
  · rw [noRes, if_neg hc] at e1 e3
    repeat' first | ((first | refine And.intro (Or.inl rfl) ?_ | (apply Exists.intro; refine And.intro (c_toPlane _ _ _ _ hl hr) ?_) | (apply Exists.intro; refine And.intro (e1) ?_) | (apply Exists.intro; refine And.intro (e3) ?_) | (apply Exists.intro; refine And.intro (c_eqPlane _ _ _ _ _ _ _ _ hl hr) ?_) | (refine And.intro (fun h => ?_) (fun h => ?_) <;> (try simp only [cnt1, ints_length] at h)) | refine And.intro (show slotsOk _ = true by decide +kernel) ?_ | refine And.intro vOb ?_ | (apply Exists.intro; refine And.intro vObt ?_) | (apply Exists.intro; refine And.intro vObx ?_) | refine And.intro vArT ?_ | refine Or.inl ?_) <;> conv => whnf) | fail
    all_goals (exfalso; first | omega | (simp_all; done) | (simp_all; omega))
end Go.Proofs

