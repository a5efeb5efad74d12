/- Numbers modulo a product from those modulo powers of primes. -/
-- tables
-- rec
import Derived.Test.YtbaojihanfkofaaGreatK80
import Derived.Test.YtbaojihanfkofaaGreatK86
import Derived.Test.YtbaojihanfkofaaGreatK89
namespace Go.Proofs
open Go Go.Vm Go.Fg Go.Fg.PS
set_option maxRecDepth 100000
set_option maxHeartbeats 4000000
set_option linter.unusedSimpArgs false
set_option linter.unusedVariables false
variable {m : Int}
def facP : List (Nat × Nat) → Nat
  | [] => 1
  | x :: l => x.1 ^ x.2 * facP l
theorem facP_append (l r : List (Nat × Nat)) : facP (l ++ r) = facP l * facP r := by
  induction l with
  | nil => simp [facP]
  | cons x l ih => rw [List.cons_append, facP, facP, ih, Nat.mul_assoc]
def PrimeN (p : Nat) : Prop := 2 ≤ p ∧ ∀ d, d ∣ p → d = 1 ∨ d = p
structure Fac (m : Nat) (d n : Nat) (l : List (Nat × Nat)) : Prop where
  prod : facP l * n = m
  good : ∀ x ∈ l, PrimeN x.1 ∧ 1 ≤ x.2 ∧ x.1 < d
  inc : l.Pairwise (fun x y => x.1 < y.1)
  rest : ∀ t, 2 ≤ t → t ∣ n → d ≤ t
theorem Fac.init {m : Nat} : Fac m 2 m [] := ⟨by simp [facP], by simp, List.Pairwise.nil, fun t h _ => h⟩
theorem Fac.prime {m d n : Nat} {l : List (Nat × Nat)} (F : Fac m d n l) (hd : 2 ≤ d) (h : d ∣ n) : PrimeN d := by
  refine ⟨hd, fun t ht => ?_⟩
  by_cases h1 : t = 1
  · exact Or.inl h1
  · have hp : 0 < t := Nat.pos_of_dvd_of_pos ht (by omega)
    have h2 := F.rest t (by omega) (Nat.dvd_trans ht h)
    exact Or.inr (Nat.le_antisymm (Nat.le_of_dvd (by omega) ht) h2)
theorem Fac.jump {m d n : Nat} {l : List (Nat × Nat)} (F : Fac m d n l) (hd : 2 ≤ d) (hn : 1 < n) (h : n < d * d) : Fac m n n l := by
  have hdn : d ≤ n := F.rest n (by omega) (Nat.dvd_refl n)
  refine ⟨F.prod, fun x hx => ⟨(F.good x hx).1, (F.good x hx).2.1, Nat.lt_of_lt_of_le (F.good x hx).2.2 hdn⟩, F.inc, fun t ht hdv => ?_⟩
  have h1 := F.rest t ht hdv
  obtain ⟨c, rfl⟩ := hdv
  by_cases hc : c ≤ 1
  · have h0 : c ≠ 0 := fun e => by rw [e, Nat.mul_zero] at hn; omega
    have : c = 1 := by omega
    rw [this, Nat.mul_one]; exact Nat.le_refl t
  · have h2 := F.rest c (by omega) (Nat.dvd_mul_left c t)
    exact absurd (Nat.mul_le_mul h1 h2) (by omega)
theorem Fac.skip {m d n : Nat} {l : List (Nat × Nat)} (F : Fac m d n l) (h : ¬ d ∣ n) : Fac m (d + 1) n l := by
  refine ⟨F.prod, fun x hx => ⟨(F.good x hx).1, (F.good x hx).2.1, Nat.lt_succ_of_lt (F.good x hx).2.2⟩, F.inc, fun t ht hdv => ?_⟩
  have h1 := F.rest t ht hdv
  have : t ≠ d := fun e => h (e ▸ hdv)
  omega
theorem Fac.put {m d n k : Nat} {l : List (Nat × Nat)} (F : Fac m d n l) (hd : 2 ≤ d) (hk : 1 ≤ k) (h1 : d ^ k ∣ n) (h2 : ¬ d ∣ n / d ^ k) : Fac m (d + 1) (n / d ^ k) (l ++ [(d, k)]) := by
  have hdn : d ∣ n := Nat.dvd_trans (by obtain ⟨c, rfl⟩ := Nat.exists_eq_add_of_le hk; rw [Nat.pow_add, Nat.pow_one]; exact Nat.dvd_mul_right _ _) h1
  refine ⟨?_, fun x hx => ?_, ?_, fun t ht hdv => ?_⟩
  · rw [facP_append, facP, facP, Nat.mul_one, Nat.mul_assoc, Nat.mul_div_cancel' h1]
    exact F.prod
  · rcases List.mem_append.1 hx with h | h
    · exact ⟨(F.good x h).1, (F.good x h).2.1, Nat.lt_succ_of_lt (F.good x h).2.2⟩
    · rw [List.mem_singleton.1 h]
      exact ⟨F.prime hd hdn, hk, Nat.lt_succ_self d⟩
  · refine List.pairwise_append.2 ⟨F.inc, List.pairwise_singleton _ _, fun x hx y hy => ?_⟩
    rw [List.mem_singleton.1 hy]
    exact (F.good x hx).2.2
  · have h3 := F.rest t ht (Nat.dvd_trans hdv (Nat.div_dvd_of_dvd h1))
    have : t ≠ d := fun e => h2 (e ▸ hdv)
    omega
theorem Fac.len {m d n : Nat} {l : List (Nat × Nat)} (F : Fac m d n l) (hm : 1 ≤ m) : 2 ^ l.length ≤ m := by
  have key : ∀ l : List (Nat × Nat), (∀ x ∈ l, PrimeN x.1 ∧ 1 ≤ x.2) → 2 ^ l.length ≤ facP l := by
    intro l
    induction l with
    | nil => intro _; simp [facP]
    | cons x l ih =>
      intro h
      have h1 := ih (fun y hy => h y (List.mem_cons_of_mem _ hy))
      obtain ⟨h2, h3⟩ := h x (List.mem_cons_self ..)
      have h4 : 2 ≤ x.1 ^ x.2 := by
        have : x.1 ^ 1 ≤ x.1 ^ x.2 := Nat.pow_le_pow_right (by have := h2.1; omega) h3
        rw [Nat.pow_one] at this
        have := h2.1
        omega
      rw [List.length_cons, Nat.pow_succ, facP, Nat.mul_comm]
      exact Nat.mul_le_mul h4 h1
  have h1 := key l (fun x hx => ⟨(F.good x hx).1, (F.good x hx).2.1⟩)
  have h2 : facP l ≤ m := Nat.le_of_dvd hm ⟨n, F.prod.symm⟩
  omega
def facL (l : List (Nat × Nat)) : List (List Int) := l.map fun x => [(x.1 : Int), (x.2 : Int)]
theorem c_factors (n : Nat) (hn : 1 ≤ n ∧ n ≤ 1000000000) : CallsTo Tryz.prog 91 1 [dint n] [none]
    (fun d rt => ∃ l : List (Nat × Nat), facP l = n ∧ (∀ x ∈ l, PrimeN x.1 ∧ 1 ≤ x.2) ∧ l.Pairwise (fun x y => x.1 < y.1) ∧ l.length ≤ 64 ∧ d = .ref 1 [] 1 0 l.length ∧ rt = [none, some ⟨false, 1, rows true (facL l)⟩]) := by
  refine callsTo_of Tryz.tabOk mixOrd 1 _ Tryz.func91 rfl rfl ?_
  conv => whnf
  repeat' first | ((first | refine And.intro (Or.inl rfl) ?_ | (refine And.intro (fun h => ?_) (fun h => ?_) <;> (try simp only [cnt1, ints_length] at h)) | refine And.intro (show slotsOk _ = true by decide +kernel) ?_ | refine And.intro vOb ?_ | (apply Exists.intro; refine And.intro vObt ?_) | (apply Exists.intro; refine And.intro vObx ?_) | refine And.intro vArT ?_ | refine Or.inl ?_) <;> conv => whnf) | fail
  refine loop_atR Tryz.tabOk mixOrd (α := List (Nat × Nat) × Nat × Nat) (fun u => [(0, dint u.2.2), (3, .ref 1 [] 1 0 u.1.length), (4, dint u.2.1), (5, .undef), (6, .undef)]) (fun u => [(1, some ⟨false, 1, rows true (facL u.1)⟩)]) (fun u => Fac n u.2.1 u.2.2 u.1 ∧ 2 ≤ u.2.1 ∧ 1 ≤ u.2.2 ∧ u.2.1 ≤ n + 1) (fun u => n + 2 - u.2.1) (([], 2, n)) ?_ ?_ ?_
  · exact ⟨Fac.init, by simp, hn.1, by simp only; omega⟩
  · conv => whnf
    first | refine WeakS.autoR ?_ | refine Weak.autoR ?_
    conv => whnf
    repeat' ((first | exact trivial | refine And.intro rfl ?_ | refine And.intro (eqV_int vAr) ?_ | refine And.intro vOb ?_ | refine And.intro vRepl ?_ | refine And.intro vReplL ?_ | refine And.intro ?_ ?_) <;> try (conv => whnf))
  intro ⟨l, d, t⟩ ⟨F, hd, ht, hdn⟩
  simp only at F hd ht hdn
  have htn : t ≤ n := Nat.le_of_dvd (by omega) ⟨facP l, by rw [Nat.mul_comm]; exact F.prod.symm⟩
  have hdd : inR .i64 ((d : Int) * (d : Int)) := by
    rw [← Int.natCast_mul]
    refine inR_i64_nat ?_
    have := Nat.mul_le_mul (show d ≤ 1000000001 by omega) (show d ≤ 1000000001 by omega)
    omega
  conv => whnf
  repeat' first | ((first | refine And.intro (Or.inl rfl) ?_ | (refine And.intro (fun h => ?_) (fun h => ?_) <;> (try simp only [cnt1, ints_length] at h)) | refine And.intro (show slotsOk _ = true by decide +kernel) ?_ | refine And.intro vOb ?_ | (apply Exists.intro; refine And.intro vObt ?_) | (apply Exists.intro; refine And.intro vObx ?_) | refine And.intro vArT ?_ | refine Or.inl ?_) <;> conv => whnf) | fail
  · have F2 := F.jump hd (by omega) (by omega)
    have hdt : d ≤ t := F.rest t (by omega) (Nat.dvd_refl t)
    have hpos : ∀ k, t ^ k ∣ t → 1 ≤ t / t ^ k := fun k hk => Nat.div_pos (Nat.le_of_dvd (by omega) hk) (Nat.pow_pos (by omega))
    refine loop_atR Tryz.tabOk mixOrd (α := Nat) (fun k => [(0, dint ((t / t ^ k : Nat) : Int)), (5, dint k)]) (fun k => []) (fun k => t ^ k ∣ t) (fun k => t / t ^ k) (0) ?_ ?_ ?_
    · exact ⟨t, by simp⟩
    · conv => whnf
      first | refine WeakS.autoR ?_ | refine Weak.autoR ?_
      conv => whnf
      repeat' ((first | exact trivial | refine And.intro rfl ?_ | refine And.intro (eqV_int vAr) ?_ | refine And.intro vOb ?_ | refine And.intro vRepl ?_ | refine And.intro vReplL ?_ | refine And.intro ?_ ?_) <;> try (conv => whnf))
      all_goals simp
    intro k hk
    have hpk := hpos k hk
    have hle : t / t ^ k ≤ t := Nat.div_le_self _ _
    have hkn : k < 64 := by
      refine Nat.lt_of_not_le (fun h => ?_)
      have h1 : t ^ k ≤ t := Nat.le_of_dvd (by omega) hk
      have h2 : 2 ^ 64 ≤ t ^ k := Nat.le_trans (Nat.pow_le_pow_right (by omega) h) (Nat.pow_le_pow_left (by omega) k)
      omega
    conv => whnf
    repeat' first | ((first | refine And.intro (Or.inl rfl) ?_ | (refine And.intro (fun h => ?_) (fun h => ?_) <;> (try simp only [cnt1, ints_length] at h)) | refine And.intro (show slotsOk _ = true by decide +kernel) ?_ | refine And.intro vOb ?_ | (apply Exists.intro; refine And.intro vObt ?_) | (apply Exists.intro; refine And.intro vObx ?_) | refine And.intro vArT ?_ | refine Or.inl ?_) <;> conv => whnf) | fail
    · skip
      have hz2 : t / t ^ k % t = 0 := by rw [tmod_nat] at h; omega
      have hlt : t / t ^ (k + 1) < t / t ^ k := by rw [Nat.pow_succ, ← Nat.div_div_eq_div_mul]; exact Nat.div_lt_self (by omega) (by omega)
      have e : ((t / t ^ k : Nat) : Int).tdiv (t : Int) = ((t / t ^ (k + 1) : Nat) : Int) := by
        rw [Int.tdiv_eq_ediv_of_nonneg (by omega), Nat.pow_succ, ← Nat.div_div_eq_div_mul]; rfl
      have hd1 : t ^ (k + 1) ∣ t := by
        obtain ⟨c, hc⟩ := Nat.dvd_of_mod_eq_zero hz2
        refine ⟨c, ?_⟩
        rw [Nat.pow_succ, Nat.mul_assoc, ← hc, Nat.mul_div_cancel' hk]
      rw [e]
      refine And.intro (inR_i64_nat (by omega)) ?_
      conv => whnf
      repeat' first | ((first | refine And.intro (Or.inl rfl) ?_ | (refine And.intro (fun h => ?_) (fun h => ?_) <;> (try simp only [cnt1, ints_length] at h)) | refine And.intro (show slotsOk _ = true by decide +kernel) ?_ | refine And.intro vOb ?_ | (apply Exists.intro; refine And.intro vObt ?_) | (apply Exists.intro; refine And.intro vObx ?_) | refine And.intro vArT ?_ | refine Or.inl ?_) <;> conv => whnf) | fail
      refine Exists.intro (k + 1) (And.intro hd1 (And.intro hlt ?_))
      first | refine WeakS.autoR ?_ | refine Weak.autoR ?_
      conv => whnf
      repeat' ((first | exact trivial | refine And.intro rfl ?_ | refine And.intro (eqV_int vAr) ?_ | refine And.intro vOb ?_ | refine And.intro vRepl ?_ | refine And.intro vReplL ?_ | refine And.intro ?_ ?_) <;> try (conv => whnf))
    · rename_i hz
      have hk1 : 1 ≤ k := by omega
      have hnd : ¬ t ∣ t / t ^ k := fun hd => hz (by rw [tmod_nat, Nat.mod_eq_zero_of_dvd hd]; rfl)
      have F3 := F2.put (by omega) hk1 hk hnd
      have hl64 := F2.len hn.1
      have hl65 : l.length ≤ 64 := Nat.le_of_not_lt (fun h => by
        have h1 : 2 ^ 64 ≤ 2 ^ l.length := Nat.pow_le_pow_right (by omega) (by omega)
        omega)
      have hl : ∀ l : List (Nat × Nat), l.length = (rows true (facL l)).length := fun l => by simp [rows, facL]
      refine And.intro (by rw [Nat.mul_one]; exact hl l) ?_
      refine And.intro rfl (And.intro (fun x hx => by rw [List.mem_singleton.1 hx]; rfl) ?_)
      conv => whnf
      repeat' first | ((first | refine And.intro (Or.inl rfl) ?_ | (refine And.intro (fun h => ?_) (fun h => ?_) <;> (try simp only [cnt1, ints_length] at h) <;> first | (exfalso; omega) | skip) | refine And.intro (show slotsOk _ = true by decide +kernel) ?_ | refine And.intro vOb ?_ | (apply Exists.intro; refine And.intro vObt ?_) | (apply Exists.intro; refine And.intro vObx ?_) | refine And.intro vArT ?_ | refine Or.inl ?_) <;> conv => whnf) | fail
      refine Exists.intro (l ++ [(t, k)], t + 1, t / t ^ k) (And.intro ⟨F3, by simp only; omega, hpk, by simp only; omega⟩ (And.intro (by simp only; omega) ?_))
      first | refine WeakS.autoR ?_ | refine Weak.autoR ?_
      conv => whnf
      repeat' ((first | exact trivial | refine And.intro rfl ?_ | refine And.intro (eqV_int vAr) ?_ | refine And.intro vOb ?_ | refine And.intro vRepl ?_ | refine And.intro vReplL ?_ | refine And.intro ?_ ?_) <;> try (conv => whnf))
      all_goals first | rfl | (simp [facL, rows]; done) | exact (show rows true (facL l) ++ rows true (facL [_]) = rows true (facL (l ++ [_])) by simp [rows, facL]) | (simp [facL, rows] <;> rfl)
    · rename_i hz
      have hk0 : k = 0 := by omega
      subst hk0
      have hnd : ¬ t ∣ t := fun hd => hz (by rw [tmod_nat, Nat.pow_zero, Nat.div_one, Nat.mod_eq_zero_of_dvd hd]; rfl)
      refine Exists.intro (l, t + 1, t) (And.intro ⟨F2.skip hnd, by simp only; omega, ht, by simp only; omega⟩ (And.intro (by simp only; omega) ?_))
      first | refine WeakS.autoR ?_ | refine Weak.autoR ?_
      conv => whnf
      repeat' ((first | exact trivial | refine And.intro rfl ?_ | refine And.intro (eqV_int vAr) ?_ | refine And.intro vOb ?_ | refine And.intro vRepl ?_ | refine And.intro vReplL ?_ | refine And.intro ?_ ?_) <;> try (conv => whnf))
      all_goals first | (simp; done) | (show dint (t : Nat) = _; simp; done) | (trace_state; rw [Nat.pow_zero, Nat.div_one]; done) | (trace_state; simp [Nat.div_one])
  · skip
    have hdt : d ≤ t := F.rest t (by omega) (Nat.dvd_refl t)
    have hpos : ∀ k, d ^ k ∣ t → 1 ≤ t / d ^ k := fun k hk => Nat.div_pos (Nat.le_of_dvd (by omega) hk) (Nat.pow_pos (by omega))
    refine loop_atR Tryz.tabOk mixOrd (α := Nat) (fun k => [(0, dint ((t / d ^ k : Nat) : Int)), (5, dint k)]) (fun k => []) (fun k => d ^ k ∣ t) (fun k => t / d ^ k) (0) ?_ ?_ ?_
    · exact ⟨t, by simp⟩
    · conv => whnf
      first | refine WeakS.autoR ?_ | refine Weak.autoR ?_
      conv => whnf
      repeat' ((first | exact trivial | refine And.intro rfl ?_ | refine And.intro (eqV_int vAr) ?_ | refine And.intro vOb ?_ | refine And.intro vRepl ?_ | refine And.intro vReplL ?_ | refine And.intro ?_ ?_) <;> try (conv => whnf))
      all_goals simp
    intro k hk
    have hpk := hpos k hk
    have hle : t / d ^ k ≤ t := Nat.div_le_self _ _
    have hkn : k < 64 := by
      refine Nat.lt_of_not_le (fun h => ?_)
      have h1 : d ^ k ≤ t := Nat.le_of_dvd (by omega) hk
      have h2 : 2 ^ 64 ≤ d ^ k := Nat.le_trans (Nat.pow_le_pow_right (by omega) h) (Nat.pow_le_pow_left (by omega) k)
      omega
    conv => whnf
    repeat' first | ((first | refine And.intro (Or.inl rfl) ?_ | (refine And.intro (fun h => ?_) (fun h => ?_) <;> (try simp only [cnt1, ints_length] at h)) | refine And.intro (show slotsOk _ = true by decide +kernel) ?_ | refine And.intro vOb ?_ | (apply Exists.intro; refine And.intro vObt ?_) | (apply Exists.intro; refine And.intro vObx ?_) | refine And.intro vArT ?_ | refine Or.inl ?_) <;> conv => whnf) | fail
    · skip
      have hz2 : t / d ^ k % d = 0 := by rw [tmod_nat] at h; omega
      have hlt : t / d ^ (k + 1) < t / d ^ k := by rw [Nat.pow_succ, ← Nat.div_div_eq_div_mul]; exact Nat.div_lt_self (by omega) (by omega)
      have e : ((t / d ^ k : Nat) : Int).tdiv (d : Int) = ((t / d ^ (k + 1) : Nat) : Int) := by
        rw [Int.tdiv_eq_ediv_of_nonneg (by omega), Nat.pow_succ, ← Nat.div_div_eq_div_mul]; rfl
      have hd1 : d ^ (k + 1) ∣ t := by
        obtain ⟨c, hc⟩ := Nat.dvd_of_mod_eq_zero hz2
        refine ⟨c, ?_⟩
        rw [Nat.pow_succ, Nat.mul_assoc, ← hc, Nat.mul_div_cancel' hk]
      rw [e]
      refine And.intro (inR_i64_nat (by omega)) ?_
      conv => whnf
      repeat' first | ((first | refine And.intro (Or.inl rfl) ?_ | (refine And.intro (fun h => ?_) (fun h => ?_) <;> (try simp only [cnt1, ints_length] at h)) | refine And.intro (show slotsOk _ = true by decide +kernel) ?_ | refine And.intro vOb ?_ | (apply Exists.intro; refine And.intro vObt ?_) | (apply Exists.intro; refine And.intro vObx ?_) | refine And.intro vArT ?_ | refine Or.inl ?_) <;> conv => whnf) | fail
      refine Exists.intro (k + 1) (And.intro hd1 (And.intro hlt ?_))
      first | refine WeakS.autoR ?_ | refine Weak.autoR ?_
      conv => whnf
      repeat' ((first | exact trivial | refine And.intro rfl ?_ | refine And.intro (eqV_int vAr) ?_ | refine And.intro vOb ?_ | refine And.intro vRepl ?_ | refine And.intro vReplL ?_ | refine And.intro ?_ ?_) <;> try (conv => whnf))
    · rename_i hz
      have hk1 : 1 ≤ k := by omega
      have hnd : ¬ d ∣ t / d ^ k := fun hd => hz (by rw [tmod_nat, Nat.mod_eq_zero_of_dvd hd]; rfl)
      have F3 := F.put (by omega) hk1 hk hnd
      have hl64 := F.len hn.1
      have hl65 : l.length ≤ 64 := Nat.le_of_not_lt (fun h => by
        have h1 : 2 ^ 64 ≤ 2 ^ l.length := Nat.pow_le_pow_right (by omega) (by omega)
        omega)
      have hl : ∀ l : List (Nat × Nat), l.length = (rows true (facL l)).length := fun l => by simp [rows, facL]
      refine And.intro (by rw [Nat.mul_one]; exact hl l) ?_
      refine And.intro rfl (And.intro (fun x hx => by rw [List.mem_singleton.1 hx]; rfl) ?_)
      conv => whnf
      repeat' first | ((first | refine And.intro (Or.inl rfl) ?_ | (refine And.intro (fun h => ?_) (fun h => ?_) <;> (try simp only [cnt1, ints_length] at h) <;> first | (exfalso; omega) | skip) | refine And.intro (show slotsOk _ = true by decide +kernel) ?_ | refine And.intro vOb ?_ | (apply Exists.intro; refine And.intro vObt ?_) | (apply Exists.intro; refine And.intro vObx ?_) | refine And.intro vArT ?_ | refine Or.inl ?_) <;> conv => whnf) | fail
      refine Exists.intro (l ++ [(d, k)], d + 1, t / d ^ k) (And.intro ⟨F3, by simp only; omega, hpk, by simp only; omega⟩ (And.intro (by simp only; omega) ?_))
      first | refine WeakS.autoR ?_ | refine Weak.autoR ?_
      conv => whnf
      repeat' ((first | exact trivial | refine And.intro rfl ?_ | refine And.intro (eqV_int vAr) ?_ | refine And.intro vOb ?_ | refine And.intro vRepl ?_ | refine And.intro vReplL ?_ | refine And.intro ?_ ?_) <;> try (conv => whnf))
      all_goals first | rfl | (simp [facL, rows]; done) | exact (show rows true (facL l) ++ rows true (facL [_]) = rows true (facL (l ++ [_])) by simp [rows, facL]) | (simp [facL, rows] <;> rfl)
    · rename_i hz
      have hk0 : k = 0 := by omega
      subst hk0
      have hnd : ¬ d ∣ t := fun hd => hz (by rw [tmod_nat, Nat.pow_zero, Nat.div_one, Nat.mod_eq_zero_of_dvd hd]; rfl)
      refine Exists.intro (l, d + 1, t) (And.intro ⟨F.skip hnd, by simp only; omega, ht, by simp only; omega⟩ (And.intro (by simp only; omega) ?_))
      first | refine WeakS.autoR ?_ | refine Weak.autoR ?_
      conv => whnf
      repeat' ((first | exact trivial | refine And.intro rfl ?_ | refine And.intro (eqV_int vAr) ?_ | refine And.intro vOb ?_ | refine And.intro vRepl ?_ | refine And.intro vReplL ?_ | refine And.intro ?_ ?_) <;> try (conv => whnf))
      all_goals first | (simp; done) | (show dint (t : Nat) = _; simp; done) | (trace_state; rw [Nat.pow_zero, Nat.div_one]; done) | (trace_state; simp [Nat.div_one])
  · have ht1 : t = 1 := by omega
    subst ht1
    have hp := F.prod
    rw [Nat.mul_one] at hp
    have hl := F.len hn.1
    have hl2 : l.length ≤ 64 := Nat.le_of_not_lt (fun h => by
      have h1 : 2 ^ 64 ≤ 2 ^ l.length := Nat.pow_le_pow_right (by omega) (by omega)
      omega)
    have hwk := fun st => Weak.autoR (kp := 1) (st := st) (st2 := ⟨[.ref 1 [] 1 0 l.length], [none, some ⟨false, 1, rows true (facL l)⟩]⟩)
    refine ⟨.ref 1 [] 1 0 l.length, [none, some ⟨false, 1, rows true (facL l)⟩], ⟨l, hp, fun x hx => ⟨(F.good x hx).1, (F.good x hx).2.1⟩, F.inc, hl2, rfl, rfl⟩, hwk _ ?_⟩
    conv => whnf
    repeat' ((first | exact trivial | refine And.intro rfl ?_ | refine And.intro (eqV_int vAr) ?_ | refine And.intro vOb ?_ | refine And.intro ?_ ?_) <;> try (conv => whnf))
theorem xt_dvd {n H : Nat} (hH : H = n / 2) {q : Int} {X Y : Nat → Int} (h : ∀ k, k < H → q ∣ X k - Y k) (i : Nat) : q ∣ xt n X i - xt n Y i := by
  unfold xt
  split
  · exact h _ (by omega)
  · exact ⟨0, by omega⟩
theorem cocX_dvd {n H : Nat} (hH : H = n / 2) {q : Int} {X Y : Nat → Int} (h : ∀ k, k < H → q ∣ X k - Y k) (a b c : Nat) : q ∣ cocX n X a b c - cocX n Y a b c := by
  obtain ⟨x, hx⟩ := xt_dvd hH h a
  obtain ⟨y, hy⟩ := xt_dvd hH h b
  obtain ⟨z, hz⟩ := xt_dvd hH h (a + b)
  have ea : xt n X a = xt n Y a + q * x := by omega
  have eb : xt n X b = xt n Y b + q * y := by omega
  have ec : xt n X (a + b) = xt n Y (a + b) + q * z := by omega
  unfold cocX
  rw [ea, eb, ec]
  generalize ((bin (b + c) b : Nat) : Int) = B
  generalize ((bin (a + b) a : Nat) : Int) = C
  refine ⟨(if a = 0 then y else 0) + B * x - C * z - (if c = 0 then x else 0), ?_⟩
  have e1 : B * (xt n Y a + q * x) = B * xt n Y a + q * (B * x) := by rw [Int.mul_add, Int.mul_left_comm B q x]
  have e2 : C * (xt n Y (a + b) + q * z) = C * xt n Y (a + b) + q * (C * z) := by rw [Int.mul_add, Int.mul_left_comm C q z]
  rw [e1, e2, Int.mul_sub, Int.mul_sub, Int.mul_add]
  split <;> split <;> (try rw [Int.mul_zero]) <;> omega
theorem EqX.congr {f : PS (PS (Zm m))} {n H : Nat} (hH : H = n / 2) {q : Int} {X Y : Nat → Int} (h : EqX f n q Y) (e : ∀ k, k < H → q ∣ X k - Y k) : EqX f n q X := fun a b hab => by
  have h1 := Int.dvd_add (cocX_dvd hH e a b (n - a - b)) (h a b hab)
  rwa [show cocX n X a b (n - a - b) - cocX n Y a b (n - a - b) + (cocX n Y a b (n - a - b) - (gam f (n + 1) a b (n - a - b)).val) = cocX n X a b (n - a - b) - (gam f (n + 1) a b (n - a - b)).val by omega] at h1
theorem EqX.mul {f : PS (PS (Zm m))} {n : Nat} {D q : Nat} (hc : Nat.gcd D q = 1) {X : Nat → Int} (h1 : EqX f n (D : Nat) X) (h2 : EqX f n (q : Nat) X) : EqX f n ((D * q : Nat) : Int) X := fun a b hab => by
  have := Nat.Coprime.mul_dvd_of_dvd_of_dvd hc (Int.ofNat_dvd_left.1 (h1 a b hab)) (Int.ofNat_dvd_left.1 (h2 a b hab))
  exact Int.ofNat_dvd_left.2 this
def joinX (D q u : Int) (X Y : Nat → Int) (k : Nat) : Int := Y k + D * (((X k - Y k) % q * u) % q)
theorem joinX_D (D q u : Int) (X Y : Nat → Int) (k : Nat) : D ∣ joinX D q u X Y k - Y k := ⟨((X k - Y k) % q * u) % q, by unfold joinX; omega⟩
theorem joinX_q {D q u : Int} (hU : q ∣ D * u - 1) (X Y : Nat → Int) (k : Nat) : q ∣ joinX D q u X Y k - X k := by
  unfold joinX
  have h3 := dvd_emod_sub q (X k - Y k)
  generalize (X k - Y k) % q = s at *
  have h1 := Int.dvd_trans (dvd_emod_sub q (s * u)) (Int.dvd_mul_left D _)
  have h2 := Int.dvd_trans hU (Int.dvd_mul_left s _)
  generalize s * u % q = r at *
  have h4 := Int.dvd_sub (Int.dvd_sub h2 h1) h3
  rwa [show s * (D * u - 1) - D * (s * u - r) - (X k - Y k - s) = Y k + D * r - X k by
    rw [Int.mul_sub, Int.mul_sub, Int.mul_one, Int.mul_left_comm s D u]; omega] at h4
theorem joinX_b {D q u : Int} {X Y : Nat → Int} {k : Nat} (hq : 0 < q) (hY : 0 ≤ Y k ∧ Y k < D) : 0 ≤ joinX D q u X Y k ∧ joinX D q u X Y k < D * q := by
  unfold joinX
  have h1 := Int.emod_nonneg ((X k - Y k) % q * u) (show q ≠ 0 by omega)
  have h2 := Int.emod_lt_of_pos ((X k - Y k) % q * u) hq
  generalize (X k - Y k) % q * u % q = r at *
  have h3 : 0 ≤ D * r := Int.mul_nonneg (by omega) h1
  have h4 : D * r ≤ D * (q - 1) := Int.mul_le_mul_of_nonneg_left (by omega) (by omega)
  rw [Int.mul_sub, Int.mul_one] at h4
  omega
theorem facP_cop {p : Nat} (hp : PrimeN p) {l : List (Nat × Nat)} (h : ∀ x ∈ l, PrimeN x.1 ∧ x.1 ≠ p) : Nat.gcd (facP l) p = 1 := by
  induction l with
  | nil => exact Nat.gcd_one_left p
  | cons x l ih =>
    have h1 := ih (fun y hy => h y (List.mem_cons_of_mem _ hy))
    obtain ⟨h2, h3⟩ := h x (List.mem_cons_self ..)
    have h4 : Nat.Coprime x.1 p := by
      rcases hp.2 _ (Nat.gcd_dvd_right x.1 p) with e | e
      · exact e
      · have h5 := Nat.gcd_dvd_left x.1 p
        rw [e] at h5
        rcases h2.2 p h5 with e2 | e2
        · have := hp.1; omega
        · exact absurd e2.symm h3
    rw [facP]
    exact Nat.Coprime.mul_left (Nat.Coprime.pow_left _ h4) h1
structure FacAt (m : Nat) (l : List (Nat × Nat)) (k p e : Nat) : Prop where
  hp : PrimeN p
  he : 1 ≤ e
  cop : Nat.gcd (facP (l.take k)) (p ^ e) = 1
  nxt : facP (l.take (k + 1)) = facP (l.take k) * p ^ e
  dv : facP (l.take k) * p ^ e ∣ m
theorem facAt {m : Nat} {l : List (Nat × Nat)} (hm : facP l = m) (hg : ∀ x ∈ l, PrimeN x.1 ∧ 1 ≤ x.2) (hi : l.Pairwise (fun x y => x.1 < y.1)) {k : Nat} (hk : k < l.length) : FacAt m l k l[k].1 l[k].2 := by
  have hx := hg _ (List.getElem_mem hk)
  have e1 : l.take (k + 1) = l.take k ++ [l[k]] := (List.take_append_getElem hk).symm
  have e2 : facP (l.take (k + 1)) = facP (l.take k) * l[k].1 ^ l[k].2 := by
    rw [e1, facP_append, facP, facP, Nat.mul_one]
  refine ⟨hx.1, hx.2, Nat.Coprime.pow_right _ (facP_cop hx.1 (fun x hxm => ⟨(hg x (List.mem_of_mem_take hxm)).1, ?_⟩)), e2, ?_⟩
  · obtain ⟨i, h1, h2⟩ := List.getElem_of_mem hxm
    rw [List.length_take] at h1
    rw [List.getElem_take] at h2
    have := List.pairwise_iff_getElem.1 hi i k (by omega) hk (by omega)
    rw [h2] at this
    omega
  · refine ⟨facP (l.drop (k + 1)), ?_⟩
    rw [← e2, ← facP_append, List.take_append_drop, hm]
theorem join_step {f : PS (PS (Zm m))} {n H : Nat} (hH : H = n / 2) {D q : Nat} (hD : 1 ≤ D) (hq : 2 ≤ q) (hc : Nat.gcd D q = 1) {X Y : Nat → Int} (hX : EqX f n (q : Nat) X) (hY : EqX f n (D : Nat) Y) (hb : ∀ i, i < H → 0 ≤ Y i ∧ Y i < (D : Nat)) {u : Int} (hu : u = (invN (q : Nat) ((D : Int) % (q : Nat))).val) :
    EqX f n ((D * q : Nat) : Int) (joinX D q u X Y) ∧ ∀ i, i < H → 0 ≤ joinX D q u X Y i ∧ joinX D q u X Y i < ((D * q : Nat) : Int) := by
  have hinv := invN_mul (m := (q : Nat)) (a := ((D : Int) % (q : Nat))) (by omega) (Int.emod_nonneg _ (by omega)) (by
    rw [← Int.natCast_emod, Int.toNat_natCast, Int.toNat_natCast, ← Nat.gcd_rec, Nat.gcd_comm]
    exact hc)
  have hU : ((q : Nat) : Int) ∣ D * u - 1 := by
    refine mk_eq_iff.1 ?_
    rw [hu, Zm.mk_mul, Zm.mk_val]
    rw [Zm.mk_mod] at hinv
    rw [hinv]; rfl
  refine ⟨EqX.mul hc (hY.congr hH (fun k _ => joinX_D _ _ _ _ _ _)) (hX.congr hH (fun k _ => joinX_q hU _ _ _)), fun i hi => ?_⟩
  rw [Int.natCast_mul]
  exact joinX_b (by omega) (hb i hi)
theorem xt_top {n : Nat} (Y : Nat → Int) {i : Nat} (hi : i ≤ n) : Zm.mk m (xt n Y i) = vOf m n (fun k => xt n Y (k + 1)) i := by
  unfold vOf
  by_cases e : 0 < i ∧ i < n
  · rw [if_pos e]
    show Zm.mk m (xt n Y i) = Zm.mk m (xt n Y (i - 1 + 1))
    rw [show i - 1 + 1 = i by omega]
  · rw [if_neg e]; unfold xt; rw [if_neg e]; rfl
end Go.Proofs

