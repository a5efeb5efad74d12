/- One step of the elimination. -/
import Derived.Test.YtbaojihanfkofaaGreatK80
import Derived.Test.YtbaojihanfkofaaGreatK79
import Derived.Test.YtbaojihanfkofaaGreatK7
namespace Go.Proofs
open Go Go.Vm Go.Fg Go.Fg.PS
set_option maxRecDepth 100000
set_option maxHeartbeats 4000000
set_option linter.unusedSimpArgs false
set_option linter.unusedVariables false
variable {q : Int}
def stepM (q d U : Int) (s : Nat) (M : Nat → Nat → Int) : Nat → Nat → Int := fun r j => if r = s then (M s j * U) % q else if s < r then (M r j - M r s / d * ((M s j * U) % q)) % q else M r j
theorem elim_step {N u s : Nat} {M : Nat → Nat → Int} {o : Nat → Nat} (E : Elim q N u s M o) (hq : 0 < q) (hN : s < N) (hu : s < u) {d h U : Int} (hp : M s s = d * h) (hd : 0 < d ∧ d < q) (hdq : d ∣ q) (hU : q ∣ h * U - 1)
    (hdv : ∀ r j, s ≤ r → r < N → s ≤ j → j < u → d ∣ M r j) (hM : ∀ i j, i < N → j ≤ u → 0 ≤ M i j ∧ M i j < q) :
    Elim q N u (s + 1) (stepM q d U s M) o ∧ (∀ i j, i < N → j ≤ u → 0 ≤ stepM q d U s M i j ∧ stepM q d U s M i j < q) ∧ ∀ z, SolE q N u (stepM q d U s M) o z ↔ SolE q N u M o z := by
  have hs : ∀ j, stepM q d U s M s j = (M s j * U) % q := fun j => if_pos rfl
  have hlt : ∀ r j, s < r → stepM q d U s M r j = (M r j - M r s / d * ((M s j * U) % q)) % q := fun r j hr => by
    unfold stepM; rw [if_neg (by omega), if_pos hr]
  have hlo : ∀ r j, r < s → stepM q d U s M r j = M r j := fun r j hr => by
    unfold stepM; rw [if_neg (by omega), if_neg (by omega)]
  have hss : (M s s * U) % q = d := by
    have h1 : q ∣ M s s * U - d := by
      rw [hp]
      have := Int.dvd_trans hU (Int.dvd_mul_left d _)
      rwa [Int.mul_sub, Int.mul_one, ← Int.mul_assoc] at this
    rw [Int.emod_eq_emod_iff_emod_sub_eq_zero.2 (Int.emod_eq_zero_of_dvd h1), Int.emod_eq_of_lt (by omega) hd.2]
  have hmodd : ∀ x, d ∣ x → d ∣ x % q := fun x hx => by
    have h1 := Int.dvd_trans hdq (dvd_emod_sub q x)
    have := Int.dvd_sub hx h1
    rwa [show x - (x - x % q) = x % q by omega] at this
  refine ⟨E.next hN hu ⟨hd.1, hdq⟩ (by rw [hs, hss]) (fun j h1 h2 => ?_) (fun k hk => ?_) (fun i j hi => hlo i j hi) (fun i k h1 h2 h3 => ?_), fun i j h1 h2 => ?_, fun z => ?_⟩
  · rw [hs]
    exact hmodd _ (Int.dvd_trans (hdv s j (Nat.le_refl s) hN h1 h2) (Int.dvd_mul_right _ _))
  · rw [hs, E.zr s k hk hk hN, Int.zero_mul]; rfl
  · rw [hlt i k h1]
    by_cases e : k = s
    · subst e
      rw [hss, Int.ediv_mul_cancel (hdv i k (by omega) h2 (Nat.le_refl k) hu), Int.sub_self]; rfl
    · rw [E.zr i k (by omega) (by omega) h2, E.zr s k (by omega) (by omega) hN, Int.zero_mul]
      simp
  · by_cases e : i = s
    · rw [e, hs]; exact ⟨Int.emod_nonneg _ (by omega), Int.emod_lt_of_pos _ hq⟩
    · by_cases e2 : s < i
      · rw [hlt i j e2]; exact ⟨Int.emod_nonneg _ (by omega), Int.emod_lt_of_pos _ hq⟩
      · rw [hlo i j (by omega)]; exact hM i j h1 h2
  · have hneg : ∀ x : Int, q ∣ x % q - x := fun x => by
      have := (Int.dvd_neg).2 (dvd_emod_sub q x)
      rwa [Int.neg_sub] at this
    refine SolE.step (c := U) (d := h) (fun r => if s < r then M r s / d else 0) hN (by rw [Int.mul_comm]; exact hU) (fun j _ => by rw [hs, Int.mul_comm U]; exact hneg _) (fun i j h1 h2 h3 => ?_)
    by_cases e2 : s < i
    · simp only [if_pos e2]
      rw [hlt i j e2, hs]; exact hneg _
    · simp only [if_neg e2]
      rw [hlo i j (by omega), Int.zero_mul, Int.sub_zero, Int.sub_self]; exact Int.dvd_zero _
theorem mk_pow {q : Int} (p k : Nat) : pw (Zm.mk q (p : Int)) k = Zm.mk q ((p ^ k : Nat) : Int) := by
  induction k with
  | zero => rw [pw_zero]; rfl
  | succ k ih => rw [pw_succ, ih, Nat.pow_succ, Int.natCast_mul, Zm.mk_mul]
theorem c_power0 {q : Int} (hq : Md q) (A : Int) : PureCall Tryz.prog 95 [dint q, dint A, dint 0] (dint 1) := by
  have hm1 := hq.1
  have hm2 := hq.2
  have e : (1 : Int).tmod q = 1 := Int.tmod_eq_of_lt (by omega) (by omega)
  refine pure_of_vc Tryz.tabOk mixOrd Tryz.func95 rfl rfl ?_
  conv => whnf
  repeat' first | ((first | refine And.intro (Or.inl rfl) ?_ | (refine And.intro (fun h => ?_) (fun h => ?_) <;> (try simp only [cnt1, ints_length] at h)) | refine And.intro (show slotsOk _ = true by decide +kernel) ?_ | refine And.intro vOb ?_ | (apply Exists.intro; refine And.intro vObx ?_) | refine Or.inl ?_) <;> conv => whnf) | fail
  all_goals try (exfalso; omega)
  refine loop_at Tryz.tabOk mixOrd (α := Nat) (fun x => [(7, dint 1), (1, dint A), (2, dint 0)]) (fun x => []) (fun x => True) (fun x => x) (0) ?_ ?_ ?_
  · trivial
  · conv => whnf
    first | refine WeakS.auto ?_ | refine Weak.auto ?_
    conv => whnf
    repeat' ((first | exact trivial | refine And.intro rfl ?_ | refine And.intro (eqV_int vAr) ?_ | refine And.intro vOb ?_ | refine And.intro vRepl ?_ | refine And.intro vReplL ?_ | refine And.intro ?_ ?_) <;> try (conv => whnf))
    all_goals exact e
  intro x _
  conv => whnf
  repeat' first | ((first | refine And.intro (Or.inl rfl) ?_ | (refine And.intro (fun h => ?_) (fun h => ?_) <;> (try simp only [cnt1, ints_length] at h) <;> first | (exfalso; omega) | skip) | refine And.intro (show slotsOk _ = true by decide +kernel) ?_ | refine And.intro vOb ?_ | (apply Exists.intro; refine And.intro vObx ?_) | refine Or.inl ?_) <;> conv => whnf) | fail
theorem c_scale {q : Int} (hq : Md q) (p e v : Nat) (hp : 2 ≤ p) (hqe : q = (p ^ e : Nat)) (hv : v < e) {V : Int} (hV : V = v) : PureCall Tryz.prog 95 [dint q, dint p, dint V] (dint ((p ^ v : Nat) : Int)) := by
  subst hV
  have hlt : p ^ v < p ^ e := Nat.pow_lt_pow_right (by omega) hv
  by_cases h0 : v = 0
  · subst h0; exact c_power0 hq p
  · have hpq : (p : Int) < q := by
      rw [hqe]
      have : p ^ 1 < p ^ e := Nat.pow_lt_pow_right (by omega) (by omega)
      rw [Nat.pow_one] at this
      omega
    have hm2 := hq.2
    have hve : v ≤ 4611686018427387904 := by
      have h1 : v < 2 ^ v := Nat.lt_two_pow_self
      have h2 : 2 ^ v ≤ p ^ v := Nat.pow_le_pow_left hp v
      omega
    have := c_powerI hq (Zm.mk q p) v hve (A := (p : Int)) (K := (v : Int)) (Zm.val_of_range ⟨by omega, hpq⟩).symm rfl
    rw [mk_pow, Zm.val_of_range (by rw [hqe]; omega)] at this
    exact this
theorem best_dvd {p : Nat} (hp : 2 ≤ p) {q : Int} {M : Nat → Nat → Int} {s u N : Nat} {x : Nat × Nat} (hM : ∀ i j, i < N → j ≤ u → 0 ≤ M i j ∧ M i j < q) (h : ∀ i j, s ≤ i → i < N → s ≤ j → j < u → M i j ≠ 0 → valN p (M x.1 x.2).toNat ≤ valN p (M i j).toNat) :
    ∀ i j, s ≤ i → i < N → s ≤ j → j < u → ((p ^ valN p (M x.1 x.2).toNat : Nat) : Int) ∣ M i j := by
  intro i j h1 h2 h3 h4
  by_cases e : M i j = 0
  · rw [e]; exact Int.dvd_zero _
  · have hr := hM i j h2 (by omega)
    have h5 := (valN_spec hp (show 1 ≤ (M i j).toNat by omega)).1
    have h6 := Nat.dvd_trans (Nat.pow_dvd_pow p (h i j h1 h2 h3 h4 e)) h5
    have := Int.natCast_dvd_natCast.2 h6
    rwa [Int.toNat_of_nonneg hr.1] at this
def swapM (u s a c : Nat) (M : Nat → Nat → Int) : Nat → Nat → Int := fun r j => if j < u then M (swp s a r) (swp s c j) else M (swp s a r) j
theorem pivot_step {p e : Nat} (hp : 2 ≤ p) (hpr : ∀ d, d ∣ p → d = 1 ∨ d = p) {q : Int} (hqe : q = (p ^ e : Nat)) (hq2 : 2 ≤ q) {N u s : Nat} {M : Nat → Nat → Int} {o : Nat → Nat} (E : Elim q N u s M o)
    (hM : ∀ i j, i < N → j ≤ u → 0 ≤ M i j ∧ M i j < q) {a c : Nat} (hsa : s ≤ a ∧ a < N) (hsc : s ≤ c ∧ c < u) (hne : M a c ≠ 0)
    (hbest : ∀ i j, s ≤ i → i < N → s ≤ j → j < u → M i j ≠ 0 → valN p (M a c).toNat ≤ valN p (M i j).toNat) :
    ∃ (v : Nat) (h : Int), v = valN p (M a c).toNat ∧ v < e ∧ (M a c).tdiv (p ^ v : Nat) = h ∧ swapM u s a c M s s = M a c ∧ (∀ i j, i < N → j ≤ u → 0 ≤ swapM u s a c M i j ∧ swapM u s a c M i j < q) ∧ (∀ r, s ≤ r → r < N → ((p ^ v : Nat) : Int) ∣ swapM u s a c M r s) ∧
      Elim q N u (s + 1) (stepM q (p ^ v : Nat) (invN q h).val s (swapM u s a c M)) (fun j => o (swp s c j)) ∧ (∀ i j, i < N → j ≤ u → 0 ≤ stepM q (p ^ v : Nat) (invN q h).val s (swapM u s a c M) i j ∧ stepM q (p ^ v : Nat) (invN q h).val s (swapM u s a c M) i j < q) ∧
      ∀ z, SolE q N u (stepM q (p ^ v : Nat) (invN q h).val s (swapM u s a c M)) (fun j => o (swp s c j)) z ↔ SolE q N u M o z := by
  have hMac := hM a c hsa.2 (by omega)
  have hvs := valN_spec hp (show 1 ≤ (M a c).toNat by omega)
  have hdvM := best_dvd (x := (a, c)) hp hM hbest
  simp only at hdvM
  generalize hv : valN p (M a c).toNat = v at *
  have hpos : 0 < p ^ v := Nat.pow_pos (by omega)
  have hve : v < e := by
    refine Nat.lt_of_not_le (fun hle => ?_)
    have h1 : p ^ v ≤ (M a c).toNat := Nat.le_of_dvd (by omega) hvs.1
    have h2 : p ^ e ≤ p ^ v := Nat.pow_le_pow_right (by omega) hle
    omega
  have hlt : p ^ v < p ^ e := Nat.pow_lt_pow_right (by omega) hve
  have hd : (M a c) / ((p ^ v : Nat) : Int) = (((M a c).toNat / p ^ v : Nat) : Int) := by
    have := Int.natCast_ediv (M a c).toNat (p ^ v)
    rw [this, Int.toNat_of_nonneg hMac.1]
  have hmul : M a c = ((p ^ v : Nat) : Int) * (((M a c).toNat / p ^ v : Nat) : Int) := by
    rw [← hd]; exact (Int.mul_ediv_cancel' (hdvM a c hsa.1 hsa.2 hsc.1 hsc.2)).symm
  have hcop : Nat.gcd ((M a c).toNat / p ^ v) (p ^ e) = 1 := by
    refine Nat.Coprime.pow_right e ?_
    rcases hpr _ (Nat.gcd_dvd_right ((M a c).toNat / p ^ v) p) with h1 | h1
    · exact h1
    · have h2 := Nat.gcd_dvd_left ((M a c).toNat / p ^ v) p
      rw [h1] at h2
      exact absurd h2 hvs.2
  have hinv := invN_mul (m := q) (a := (((M a c).toNat / p ^ v : Nat) : Int)) hq2 (Int.natCast_nonneg _) (by rw [Int.toNat_natCast, hqe, Int.toNat_natCast]; exact hcop)
  have hU : q ∣ (((M a c).toNat / p ^ v : Nat) : Int) * (invN q (((M a c).toNat / p ^ v : Nat) : Int)).val - 1 := by
    refine mk_eq_iff.1 ?_
    rw [Zm.mk_mul, Zm.mk_val, hinv]; rfl
  have hr2 : ∀ i j, i < N → j ≤ u → 0 ≤ swapM u s a c M i j ∧ swapM u s a c M i j < q := fun i j h1 h2 => by
    unfold swapM
    have h3 := swp_lt (a := s) (b := a) (by omega) hsa.2 h1
    split
    · have h4 : swp s c j < u := swp_lt (by omega) hsc.2 (by assumption)
      exact hM _ _ h3 (by omega)
    · exact hM _ _ h3 h2
  have hge : ∀ {x y i : Nat}, s ≤ x → s ≤ y → s ≤ i → s ≤ swp x y i := fun {x y i} h1 h2 h3 => by unfold swp; split; exact h2; split; exact h1; exact h3
  have hdv2 : ∀ r j, s ≤ r → r < N → s ≤ j → j < u → ((p ^ v : Nat) : Int) ∣ swapM u s a c M r j := fun r j h1 h2 h3 h4 => by
    unfold swapM
    rw [if_pos h4]
    exact hdvM _ _ (hge (Nat.le_refl s) hsa.1 h1) (swp_lt (by omega) hsa.2 h2) (hge (Nat.le_refl s) hsc.1 h3) (swp_lt (by omega) hsc.2 h4)
  have hss : swapM u s a c M s s = M a c := by
    unfold swapM
    rw [if_pos (by omega)]
    have e1 : ∀ x y, swp x y x = y := fun x y => if_pos rfl
    rw [e1, e1]
  have E2 : Elim q N u s (swapM u s a c M) (fun j => o (swp s c j)) := (E.swapR (a := s) (b := a) ⟨Nat.le_refl s, by omega⟩ hsa).swapC (a := s) (b := c) ⟨Nat.le_refl s, by omega⟩ hsc
  obtain ⟨g1, g2, g3⟩ := elim_step E2 (by omega) (by omega) (by omega) (hss.trans hmul) ⟨by omega, by rw [hqe]; omega⟩ (by rw [hqe]; exact Int.natCast_dvd_natCast.2 (Nat.pow_dvd_pow p (by omega))) hU hdv2 hr2
  refine ⟨v, (((M a c).toNat / p ^ v : Nat) : Int), rfl, hve, ?_, hss, hr2, fun r h1 h2 => hdv2 r s h1 h2 (Nat.le_refl s) (by omega), g1, g2, fun z => (g3 z).trans ?_⟩
  · rw [Int.tdiv_eq_ediv_of_nonneg hMac.1, hd]
  · exact (SolE.swapC (M := fun i => M (swp s a i)) (a := s) (b := c) (by omega) hsc.2).trans (SolE.swapR (a := s) (b := a) (by omega) hsa.2)
end Go.Proofs

