/- Composition, inverses, reversions of power series. -/
import Derived.Test.YtnonhialafcjmaaAlg2
set_option linter.unusedVariables false
set_option linter.unusedSimpArgs false
set_option linter.unusedSectionVars false
namespace Go.Fg
open CR PS

namespace PS
variable {R : Type} [CR R]

theorem pw_low {f : PS R} (h0 : f.c 0 = 0) : ∀ (k n : Nat), n < k → (pw f k).c n = 0 := by
  intro k
  induction k with
  | zero => intro n h; omega
  | succ k ih =>
    intro n h
    rw [pw_succ, mul_c]
    refine sm_zero (fun i hi => ?_)
    by_cases e : i < k
    · rw [ih i e, zero_mul]
    · rw [show n - i = 0 by omega, h0, mul_zero]
/-- The first n terms of a composition, from the term k on. -/
def compN (a f : PS R) (k n : Nat) : PS R := sm n (fun i => C (a.c (k + i)) * pw f i)
theorem compN_step (a f : PS R) (k n : Nat) : compN a f (k + 1) n * f + C (a.c k) = compN a f k (n + 1) := by
  unfold compN
  rw [sm_succ_left, sm_mul_right, add_comm]
  congr 1
  · rw [pw_zero, mul_one]; rfl
  · refine sm_congr (fun i _ => ?_)
    rw [pw_succ, mul_assoc, show k + 1 + i = k + (i + 1) by omega]
def comp (a f : PS R) : PS R := ⟨fun n => (compN a f 0 (n + 1)).c n⟩
theorem compN_c {a f : PS R} (h0 : f.c 0 = 0) {k n N : Nat} (h : n < N) : (compN a f k N).c n = (compN a f k (n + 1)).c n := by
  unfold compN
  rw [sm_c, sm_c]
  refine sm_ext (by omega) (fun i h1 h2 => ?_)
  rw [C_mul, pw_low h0 i n (by omega), mul_zero]
theorem compN_ag {a f : PS R} (h0 : f.c 0 = 0) (N : Nat) : Ag N (compN a f 0 N) (comp a f) := fun _ hi => compN_c h0 hi
theorem compN_congr {a b f g : PS R} {k n N : Nat} (h : ∀ i, k ≤ i → i < k + n → a.c i = b.c i) (h2 : Ag N f g) : Ag N (compN a f k n) (compN b g k n) :=
  Ag.sm (fun i hi => by rw [h (k + i) (by omega) (by omega)]; exact Ag.rfl.mul (h2.pw i))
theorem comp_congr {a b f g : PS R} {N : Nat} (h : Ag N a b) (h2 : Ag N f g) : Ag N (comp a f) (comp b g) := fun i hi =>
  compN_congr (k := 0) (n := i + 1) (N := i + 1) (fun j h1 h3 => h j (by omega)) (h2.le (by omega)) i (by omega)

/-- A product's first i rows. -/
def tP (a b : PS R) (i : Nat) : PS R := ⟨fun k => sm (min i (k + 1)) (fun q => a.c q * b.c (k - q))⟩
theorem tP_zero (a b : PS R) : tP a b 0 = 0 := by ext k; show sm (min 0 (k + 1)) (fun q => a.c q * b.c (k - q)) = 0; rw [Nat.zero_min]; rfl
theorem tP_full (a b : PS R) {n i : Nat} (h : n ≤ i) : Ag n (tP a b i) (a * b) := fun k hk => by
  show sm (min i (k + 1)) (fun q => a.c q * b.c (k - q)) = _; rw [Nat.min_eq_right (by omega)]; rfl
theorem tP_low (a b : PS R) (i : Nat) {k : Nat} (h : k < i) : (tP a b (i + 1)).c k = (tP a b i).c k := by
  show sm (min (i + 1) (k + 1)) (fun q => a.c q * b.c (k - q)) = sm (min i (k + 1)) (fun q => a.c q * b.c (k - q)); rw [Nat.min_eq_right (by omega), Nat.min_eq_right (by omega)]
theorem tP_step (a b : PS R) (i j : Nat) : (tP a b (i + 1)).c (i + j) = (tP a b i).c (i + j) + a.c i * b.c j := by
  show sm (min (i + 1) (i + j + 1)) (fun q => a.c q * b.c (i + j - q)) = sm (min i (i + j + 1)) (fun q => a.c q * b.c (i + j - q)) + _
  rw [Nat.min_eq_left (by omega), Nat.min_eq_left (by omega), sm_succ, show i + j - i = j by omega]
/-- A product's first i rows and j places of the next one. -/
def tQ (a b : PS R) (i j : Nat) : PS R := mix (i + j) (tP a b (i + 1)) (tP a b i)
theorem tQ_zero (a b : PS R) (i : Nat) : tQ a b i 0 = tP a b i := by
  ext k; unfold tQ; rw [mix_c]; split
  · exact tP_low a b i (by omega)
  · rfl
theorem tQ_c (a b : PS R) (i j : Nat) : (tQ a b i j).c (i + j) = (tP a b i).c (i + j) := by unfold tQ; rw [mix_c, if_neg (by omega)]
theorem tQ_step (a b : PS R) (i j : Nat) : tQ a b i (j + 1) = (tQ a b i j).upd (i + j) ((tQ a b i j).c (i + j) + a.c i * b.c j) := by
  rw [tQ_c, ← tP_step]; exact mix_succ _ _ _
theorem tQ_full (a b : PS R) {n i j : Nat} (h : n ≤ i + j) : Ag n (tQ a b i j) (tP a b (i + 1)) := fun k hk => by unfold tQ; rw [mix_c, if_pos (by omega)]

theorem tQ_row (a b : PS R) (i j : Nat) (h : a.c i = 0) : tQ a b i j = tP a b (i + 1) := by
  ext k; unfold tQ; rw [mix_c]; split
  · rfl
  · rename_i hk
    rw [show k = i + (k - i) by omega, tP_step, h, zero_mul, add_zero]

/-- The inverse, step by step: u is the inverse of the first coefficient. -/
def invP (u : R) (a : PS R) : Nat → PS R
  | 0 => C u
  | n + 1 => (invP u a n).upd (n + 1) (-((a * invP u a n).c (n + 1) * u))
def inv (u : R) (a : PS R) : PS R := ⟨fun n => (invP u a n).c n⟩
theorem invP_high (u : R) (a : PS R) : ∀ (n i : Nat), n < i → (invP u a n).c i = 0 := by
  intro n
  induction n with
  | zero => intro i h; show (C u).c i = 0; rw [C_c, if_neg (by omega)]
  | succ n ih => intro i h; show ((invP u a n).upd _ _).c i = 0; rw [upd_c, if_neg (by omega), ih i (by omega)]
theorem invP_c (u : R) (a : PS R) : ∀ (n i : Nat), i ≤ n → (invP u a n).c i = (inv u a).c i := by
  intro n
  induction n with
  | zero => intro i h; rw [show i = 0 by omega]; rfl
  | succ n ih =>
    intro i h
    rcases Nat.lt_or_ge n i with h' | h'
    · rw [show i = n + 1 by omega]; rfl
    · rw [← ih i h']; show ((invP u a n).upd _ _).c i = _; rw [upd_c, if_neg (by omega)]
theorem invP_ag (u : R) (a : PS R) (n : Nat) : Ag (n + 1) (invP u a n) (inv u a) := fun i hi => invP_c u a n i (by omega)
theorem inv_c0 (u : R) (a : PS R) : (inv u a).c 0 = u := rfl
theorem inv_c_succ (u : R) (a : PS R) (n : Nat) : (inv u a).c (n + 1) = -((a * invP u a n).c (n + 1) * u) := by
  show ((invP u a n).upd _ _).c (n + 1) = _
  rw [upd_c, if_pos rfl]
theorem mul_invP_c (u : R) (a : PS R) (n : Nat) : (a * invP u a n).c (n + 1) = sm (n + 1) (fun i => a.c (i + 1) * (inv u a).c (n - i)) := by
  rw [mul_c, sm_succ_left, invP_high u a n _ (by omega), mul_zero, zero_add]
  refine sm_congr (fun i hi => ?_)
  rw [show n + 1 - (i + 1) = n - i by omega, invP_c u a n _ (by omega)]
theorem mul_inv {u : R} {a : PS R} (h : a.c 0 * u = 1) : a * inv u a = 1 := by
  ext n
  cases n with
  | zero => rw [mul_c0, inv_c0, h]; rfl
  | succ n =>
    rw [mul_c, sm_succ_left, one_c, if_neg (by omega), Nat.sub_zero, inv_c_succ, mul_neg, mul_comm _ u, ← mul_assoc, h, one_mul, mul_invP_c,
      sm_congr (n := n + 1) (f := fun i => a.c (i + 1) * (inv u a).c (n + 1 - (i + 1))) (g := fun i => a.c (i + 1) * (inv u a).c (n - i)) (fun i hi => by rw [show n + 1 - (i + 1) = n - i by omega]), neg_add]
theorem inv_congr {u : R} {a b : PS R} {N : Nat} (h : Ag N a b) : Ag N (inv u a) (inv u b) := by
  intro i
  induction i using Nat.strongRecOn with
  | _ i ih =>
    intro hi
    cases i with
    | zero => rfl
    | succ i =>
      rw [inv_c_succ, inv_c_succ, mul_invP_c, mul_invP_c, sm_congr (fun j hj => by rw [h (j + 1) (by omega), ih (i - j) (by omega) (by omega)])]
theorem inv_unique {u : R} {a b : PS R} (h : a.c 0 * u = 1) (h2 : a * b = 1) : b = inv u a := eq_of_inv h2 (mul_inv h)

/-- The reversion, step by step: u is the inverse of the coefficient at 1. -/
def revP (u : R) (a : PS R) : Nat → PS R
  | 0 => 0
  | 1 => (0 : PS R).upd 1 u
  | n + 2 => (revP u a (n + 1)).upd (n + 2) (-((comp a (revP u a (n + 1))).c (n + 2) * u))
def rev (u : R) (a : PS R) : PS R := ⟨fun n => (revP u a n).c n⟩
theorem revP_two (u : R) (a : PS R) (n : Nat) (h : 1 ≤ n) : revP u a (n + 1) = (revP u a n).upd (n + 1) (-((comp a (revP u a n)).c (n + 1) * u)) := by
  cases n with
  | zero => omega
  | succ n => rfl
theorem revP_high (u : R) (a : PS R) : ∀ (n i : Nat), n < i → (revP u a n).c i = 0 := by
  intro n
  induction n with
  | zero => intro i h; rfl
  | succ n ih =>
    intro i h
    cases n with
    | zero => show ((0 : PS R).upd 1 u).c i = 0; rw [upd_c, if_neg (by omega)]; rfl
    | succ n => rw [revP_two u a _ (by omega), upd_c, if_neg (by omega), ih i (by omega)]
theorem revP_c (u : R) (a : PS R) : ∀ (n i : Nat), i ≤ n → (revP u a n).c i = (rev u a).c i := by
  intro n
  induction n with
  | zero => intro i h; rw [show i = 0 by omega]; rfl
  | succ n ih =>
    intro i h
    rcases Nat.lt_or_ge n i with h' | h'
    · rw [show i = n + 1 by omega]; rfl
    · rw [← ih i h']
      cases n with
      | zero => rw [show i = 0 by omega]; show ((0 : PS R).upd 1 u).c 0 = _; rw [upd_c, if_neg (by omega)]; rfl
      | succ n => rw [revP_two u a _ (by omega), upd_c, if_neg (by omega)]
theorem revP_ag (u : R) (a : PS R) (n : Nat) : Ag (n + 1) (revP u a n) (rev u a) := fun i hi => revP_c u a n i (by omega)
theorem rev_c0 (u : R) (a : PS R) : (rev u a).c 0 = 0 := rfl
theorem rev_c1 (u : R) (a : PS R) : (rev u a).c 1 = u := by show ((0 : PS R).upd 1 u).c 1 = u; rw [upd_c, if_pos rfl]
theorem revP_c0 (u : R) (a : PS R) (n : Nat) : (revP u a n).c 0 = 0 := revP_c u a n 0 (by omega)
theorem rev_congr {u : R} {a b : PS R} {N : Nat} (h : Ag N a b) : Ag N (rev u a) (rev u b) := by
  have key : ∀ n, n < N → ∀ i, (revP u a n).c i = (revP u b n).c i := by
    intro n
    induction n with
    | zero => intro _ i; rfl
    | succ n ih =>
      intro hn i
      cases n with
      | zero => rfl
      | succ n =>
        rw [revP_two u a _ (by omega), revP_two u b _ (by omega), upd_c, upd_c, ih (by omega) i]
        have : revP u a (n + 1) = revP u b (n + 1) := PS.ext (fun j => ih (by omega) j)
        rw [this, comp_congr h (Ag.rfl (a := revP u b (n + 1))) (n + 1 + 1) hn]
  exact fun i hi => key i hi i
end PS
end Go.Fg
