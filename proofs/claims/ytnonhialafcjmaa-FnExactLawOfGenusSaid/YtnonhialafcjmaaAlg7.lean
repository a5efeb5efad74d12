/- Binomial numbers; powers of x + y; values on Milnor's hypersurfaces. -/
import Derived.Test.YtnonhialafcjmaaAlg6
set_option linter.unusedVariables false
set_option linter.unusedSimpArgs false
set_option linter.unusedSectionVars false
namespace Go.Fg
open CR PS

def bin : Nat → Nat → Nat
  | _, 0 => 1
  | 0, _ + 1 => 0
  | n + 1, k + 1 => bin n k + bin n (k + 1)
theorem bin_zero (n : Nat) : bin n 0 = 1 := by cases n <;> rfl
theorem bin_succ (n k : Nat) : bin (n + 1) (k + 1) = bin n k + bin n (k + 1) := rfl
theorem bin_gt : ∀ {n k : Nat}, n < k → bin n k = 0
  | 0, k + 1, _ => rfl
  | n + 1, k + 1, h => by rw [bin_succ, bin_gt (by omega), bin_gt (by omega)]
theorem bin_self : ∀ n : Nat, bin n n = 1
  | 0 => rfl
  | n + 1 => by rw [bin_succ, bin_self n, bin_gt (by omega)]
theorem bin_le : ∀ n k : Nat, bin n k ≤ 2 ^ n
  | 0, 0 => by decide
  | 0, k + 1 => by show 0 ≤ _; omega
  | n + 1, 0 => by rw [bin_zero]; exact Nat.one_le_two_pow
  | n + 1, k + 1 => by
    have h1 := bin_le n k
    have h2 := bin_le n (k + 1)
    rw [bin_succ, Nat.pow_succ]; omega
theorem bin_symm : ∀ n k : Nat, k ≤ n → bin n (n - k) = bin n k
  | 0, 0, _ => rfl
  | n + 1, 0, _ => by rw [Nat.sub_zero, bin_self, bin_zero]
  | n + 1, k + 1, h => by
    by_cases e : n = k
    · subst e; rw [Nat.sub_self, bin_zero, bin_self]
    · rw [show n + 1 - (k + 1) = (n - k - 1) + 1 by omega, bin_succ, bin_succ, show n - k - 1 = n - (k + 1) by omega, bin_symm n (k + 1) (by omega), show n - (k + 1) + 1 = n - k by omega, bin_symm n k (by omega)]
      omega

variable {m : Int}
/-- Rows of Pascal's triangle. -/
def pasc (n k : Nat) : List Int := (List.range k).map fun i => (bin n i : Int)
@[simp] theorem pasc_length (n k : Nat) : (pasc n k).length = k := by simp [pasc]
theorem pasc_getD {n k i : Nat} (h : i < k) : (pasc n k).getD i 0 = (bin n i : Int) := by simp [pasc, h]
theorem pasc_push {n k : Nat} {x : Int} (h : x = (bin n k : Int)) : pasc n k ++ [x] = pasc n (k + 1) := by
  subst h; simp [pasc, List.range_succ]

theorem axX_X : axX (PS.X : PS (Zm m)) = mono 1 1 := ext2 (fun i j => by
  rw [axX_c, mono_c, X_c]
  by_cases h : i = 1
  · rw [if_pos h, if_pos h, one_c]
  · rw [if_neg h, if_neg h]; split <;> rfl)
abbrev xy (m : Int) : PS (PS (Zm m)) := axX PS.X + axY PS.X
theorem xy_mul (f : PS (PS (Zm m))) (p q : Nat) : ((f * xy m).c p).c q = (if p = 0 then 0 else (f.c (p - 1)).c q) + (if q = 0 then 0 else (f.c p).c (q - 1)) := by
  rw [CR.mul_comm, add_mul, add_c, add_c, axX_X, mono_mul_c]
  congr 1
  · by_cases h : p = 0
    · rw [if_pos h, if_pos (by omega)]; rfl
    · rw [if_neg h, if_neg (by omega), CR.one_mul]
  · unfold axY
    rw [C_mul]
    cases q with
    | zero => rw [X_mul_zero, if_pos rfl]
    | succ q => rw [X_mul_succ, if_neg (by omega)]; rfl
theorem pw_xy (k p q : Nat) : ((pw (xy m) k).c p).c q = if p + q = k then Zm.mk m (bin k p) else 0 := by
  induction k generalizing p q with
  | zero =>
    rw [pw_zero, one_c]
    by_cases h : p = 0
    · rw [if_pos h, one_c]
      by_cases h2 : q = 0
      · subst h h2; rfl
      · rw [if_neg h2, if_neg (by omega)]
    · rw [if_neg h, if_neg (by omega)]; rfl
  | succ k ih =>
    rw [pw_succ, xy_mul]
    cases p with
    | zero =>
      rw [if_pos rfl, CR.zero_add]
      cases q with
      | zero => rw [if_pos rfl, if_neg (by omega)]
      | succ q =>
        rw [if_neg (by omega), ih, bin_zero, bin_zero]
        by_cases h : 0 + (q + 1) = k + 1
        · rw [if_pos h, if_pos (by omega)]
        · rw [if_neg h, if_neg (by omega)]
    | succ p =>
      rw [if_neg (by omega), show p + 1 - 1 = p by omega, ih]
      by_cases h : p + 1 + q = k + 1
      · rw [if_pos h, if_pos (by omega)]
        cases q with
        | zero => rw [if_pos rfl, Go.Fg.add_zero, bin_succ, bin_gt (n := k) (k := p + 1) (by omega), Nat.add_zero]
        | succ q => rw [if_neg (by omega), ih, if_pos (by omega), bin_succ, Int.natCast_add, Zm.mk_add]
      · rw [if_neg h, if_neg (by omega), CR.zero_add]
        cases q with
        | zero => rfl
        | succ q => rw [if_neg (by omega), ih, if_neg (by omega)]
theorem comp2_xy (w : PS (Zm m)) {n p q : Nat} (h : p + q < n) : ((comp2N w (xy m) 0 n).c p).c q = w.c (p + q) * Zm.mk m (bin (p + q) p) := by
  unfold comp2N
  rw [sm_c, sm_c, sm_one (p + q) h (fun i hi hne => by rw [C_mul, C_mul, pw_xy, if_neg (fun e => hne e.symm), mul_zero]), C_mul, C_mul, pw_xy, if_pos rfl, Nat.zero_add]
theorem axX_axY (u v : PS (Zm m)) (a b : Nat) : ((axX u * axY v).c a).c b = u.c a * v.c b := by
  rw [CR.mul_comm]
  unfold axY axX
  rw [C_mul, CR.mul_comm, C_mul]
/-- What the sum has for p and q. -/
def milW (w : PS (Zm m)) (p q : Nat) : Zm m := if p + q = 0 then 0 else w.c (p + q - 1) * Zm.mk m (bin (p + q) p)
theorem milW_eq (w : PS (Zm m)) {n p q : Nat} (h : p + q ≤ n) : ((comp2N w (xy m) 0 n * xy m).c p).c q = milW w p q := by
  rw [xy_mul]
  unfold milW
  cases p with
  | zero =>
    rw [if_pos rfl, CR.zero_add]
    cases q with
    | zero => rfl
    | succ q =>
      rw [if_neg (by omega), if_neg (by omega), show q + 1 - 1 = q by omega, comp2_xy w (by omega), bin_zero, bin_zero, show 0 + q = 0 + (q + 1) - 1 by omega]
  | succ p =>
    rw [if_neg (Nat.succ_ne_zero p), show p + 1 - 1 = p by omega]
    cases q with
    | zero =>
      rw [if_pos rfl, Go.Fg.add_zero, comp2_xy w (by omega), if_neg (by omega)]
      show w.c p * Zm.mk m (bin p p) = w.c (p + 1 - 1) * Zm.mk m (bin (p + 1) (p + 1))
      rw [bin_self, bin_self]; rfl
    | succ q =>
      rw [if_neg (Nat.succ_ne_zero q), show q + 1 - 1 = q by omega, comp2_xy w (by omega), comp2_xy w (by omega), if_neg (by omega)]
      rw [show p + (q + 1) = p + q + 1 by omega, show p + 1 + q = p + q + 1 by omega, show p + 1 + (q + 1) = (p + q + 1) + 1 by omega, show p + q + 1 + 1 - 1 = p + q + 1 by omega,
        bin_succ (p + q + 1) p, Int.natCast_add, Zm.mk_add, CR.mul_add]
/-- The value, as a sum. -/
def milS (u v w : PS (Zm m)) (i j : Nat) : Zm m := sm (i + 1) fun a => sm (j + 1) fun b => u.c a * v.c b * milW w (i - a) (j - b)
theorem milS_eq (u v w : PS (Zm m)) {n i j : Nat} (h : i + j ≤ n) : ((axX u * axY v * comp2N w (xy m) 0 n * xy m).c i).c j = milS u v w i j := by
  rw [CR.mul_assoc (axX u * axY v), mul_c, sm_c]
  unfold milS
  refine sm_congr (fun a ha => ?_)
  rw [mul_c]
  refine sm_congr (fun b hb => ?_)
  rw [axX_axY, milW_eq w (by omega)]
end Go.Fg
namespace Go.Fg
open CR PS
variable {m : Int}
/-- The greatest common divisor of the inner binomial numbers, step by step. -/
def gcdB (n : Nat) : Nat → Nat
  | 0 => 0
  | k + 1 => Nat.gcd (gcdB n k) (bin n (k + 1))
theorem gcdB_le (n k : Nat) : gcdB n k ≤ 2 ^ n := by
  cases k with
  | zero => exact Nat.zero_le _
  | succ k =>
    have h1 : Nat.gcd (gcdB n k) (bin n (k + 1)) ∣ bin n (k + 1) := Nat.gcd_dvd_right _ _
    by_cases h : bin n (k + 1) = 0
    · show Nat.gcd (gcdB n k) (bin n (k + 1)) ≤ _
      rw [h, Nat.gcd_zero_right]; exact gcdB_le n k
    · exact Nat.le_trans (Nat.le_of_dvd (by omega) h1) (bin_le _ _)
theorem bin_one : ∀ n : Nat, bin n 1 = n
  | 0 => rfl
  | n + 1 => by rw [bin_succ, bin_zero, bin_one n]; omega
theorem gcdB_pos {n k : Nat} (hn : 1 ≤ n) (hk : 1 ≤ k) : gcdB n k ≠ 0 := by
  induction k with
  | zero => omega
  | succ k ih =>
    show Nat.gcd (gcdB n k) (bin n (k + 1)) ≠ 0
    intro h
    have h1 := Nat.eq_zero_of_gcd_eq_zero_left h
    cases k with
    | zero => have := Nat.eq_zero_of_gcd_eq_zero_right h; rw [bin_one] at this; omega
    | succ k => exact ih (by omega) h1
/-- The coefficient of Lazard's cocycle at x^i. -/
def lazV (n i : Nat) : Nat := if 0 < i ∧ i < n then bin n i / gcdB n (n - 1) else 0
theorem lazV_le (n i : Nat) : lazV n i ≤ 2 ^ n := by
  unfold lazV; split
  · exact Nat.le_trans (Nat.div_le_self _ _) (bin_le _ _)
  · exact Nat.zero_le _
/-- Numbers in the highest degree. -/
def topP (d : Nat) (v : Nat → Zm m) : PS (PS (Zm m)) := pl fun i j => if i + j = d then v i else 0
theorem topP_cc (d : Nat) (v : Nat → Zm m) (i j : Nat) : ((topP d v).c i).c j = if i + j = d then v i else 0 := rfl
/-- The plane of numbers added on top. -/
def addTop (f : PS (PS (Zm m))) (d k : Nat) (v : Nat → Zm m) : PS (PS (Zm m)) := pl fun i j => if i + j = d ∧ i < k then (f.c i).c j + v i else (f.c i).c j
theorem addTop_cc (f : PS (PS (Zm m))) (d k : Nat) (v : Nat → Zm m) (i j : Nat) : ((addTop f d k v).c i).c j = if i + j = d ∧ i < k then (f.c i).c j + v i else (f.c i).c j := rfl
theorem addTop_zero (f : PS (PS (Zm m))) (d : Nat) (v : Nat → Zm m) : addTop f d 0 v = f := ext2 (fun i j => by rw [addTop_cc, if_neg (by omega)])
theorem addTop_step (f : PS (PS (Zm m))) {d k : Nat} (v : Nat → Zm m) (h : k ≤ d) : upd2 (addTop f d k v) k (d - k) (((addTop f d k v).c k).c (d - k) + v k) = addTop f d (k + 1) v := ext2 (fun i j => by
  rw [upd2_cc, addTop_cc, addTop_cc, addTop_cc]
  by_cases e : i = k ∧ j = d - k
  · rw [if_pos e, if_neg (by omega), if_pos (by omega), e.1, e.2]
  · rw [if_neg e]
    by_cases e2 : i + j = d ∧ i < k
    · rw [if_pos e2, if_pos (by omega)]
    · rw [if_neg e2, if_neg (by omega)])
theorem mix_rows (f : PS (PS (Zm m))) (i : Nat) : (mix i f 0).upd i (f.c i) = mix (i + 1) f 0 := (mix_succ i f 0).symm
end Go.Fg
