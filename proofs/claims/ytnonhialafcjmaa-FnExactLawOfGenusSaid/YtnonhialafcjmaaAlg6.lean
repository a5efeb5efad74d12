/- Units, integrals, factorials. -/
import Derived.Test.YtnonhialafcjmaaAlg5
set_option linter.unusedVariables false
set_option linter.unusedSimpArgs false
set_option linter.unusedSectionVars false
namespace Go.Fg
open CR PS
variable {m : Int}

theorem invN_mod (a : Int) : invN m (a % m) = invN m a := by
  unfold invN eu0
  rw [Int.emod_emod_of_dvd _ (Int.dvd_refl m)]
theorem eu_gcd {a : Int} (hm : 2 ≤ m) : (eu0 m a).run.r = Nat.gcd m.toNat (a % m).toNat := Eu.run_gcd _
theorem gcd_of_unit {a : Int} (hm : 2 ≤ m) {z : Zm m} (h : Zm.mk m a * z = 1) : Nat.gcd m.toNat (a % m).toNat = 1 := by
  have h1 : Nat.gcd m.toNat (a % m).toNat ∣ m.toNat := Nat.gcd_dvd_left _ _
  have h2 : Nat.gcd m.toNat (a % m).toNat ∣ (a % m).toNat := Nat.gcd_dvd_right _ _
  generalize Nat.gcd m.toNat (a % m).toNat = g at *
  have h3 := Int.emod_nonneg a (show m ≠ 0 by omega)
  have d1 : (g : Int) ∣ m := by
    have := Int.natCast_dvd_natCast.2 h1
    rwa [Int.toNat_of_nonneg (by omega)] at this
  have d2 : (g : Int) ∣ a % m := by
    have := Int.natCast_dvd_natCast.2 h2
    rwa [Int.toNat_of_nonneg h3] at this
  have d3 : (g : Int) ∣ a := by
    have : a = m * (a / m) + a % m := (Int.mul_ediv_add_emod a m).symm
    rw [this]
    exact Int.dvd_add (Int.dvd_trans d1 (Int.dvd_mul_right _ _)) d2
  rw [← Zm.mk_val z, ← Zm.mk_mul, ← Zm.mk_one, Zm.mk_eq] at h
  have h4 : m ∣ a * z.val - 1 := Int.dvd_of_emod_eq_zero (by rw [Int.sub_emod, h]; simp)
  have d4 : (g : Int) ∣ a * z.val - 1 := Int.dvd_trans d1 h4
  have d5 : (g : Int) ∣ a * z.val := Int.dvd_trans d3 (Int.dvd_mul_right _ _)
  have d6 : (g : Int) ∣ 1 := by
    have := Int.dvd_sub d5 d4
    rwa [show a * z.val - (a * z.val - 1) = 1 by omega] at this
  have : g ∣ 1 := Int.natCast_dvd_natCast.1 d6
  exact Nat.dvd_one.1 this
theorem invN_unit {a : Int} (hm : 2 ≤ m) {z : Zm m} (h : Zm.mk m a * z = 1) : Zm.mk m a * invN m a = 1 := by
  have hg := gcd_of_unit hm h
  have h3 := Int.emod_nonneg a (show m ≠ 0 by omega)
  have := invN_mul (a := a % m) hm h3 (by rw [Nat.gcd_comm]; exact hg)
  rwa [Zm.mk_mod, invN_mod] at this
theorem invN_eq {a : Int} (hm : 2 ≤ m) {z : Zm m} (h : Zm.mk m a * z = 1) : invN m a = z := eq_of_inv (invN_unit hm h) h
/-- The numbers from 1 to k are units. -/
def unitsB (m : Int) (k : Nat) : Bool := (List.range k).all fun i => decide (Nat.gcd (i + 1) m.toNat = 1)
theorem unitsB_at {k i : Nat} (h : unitsB m k = true) (hi : 1 ≤ i ∧ i ≤ k) : Nat.gcd i m.toNat = 1 := by
  simp only [unitsB, List.all_eq_true, List.mem_range, decide_eq_true_eq] at h
  have := h (i - 1) (by omega)
  rwa [show i - 1 + 1 = i by omega] at this
theorem unitsB_of {k : Nat} (h : ∀ i : Nat, 1 ≤ i → i ≤ k → Nat.gcd i m.toNat = 1) : unitsB m k = true := by
  simp only [unitsB, List.all_eq_true, List.mem_range, decide_eq_true_eq]
  exact fun x hx => h (x + 1) (by omega) (by omega)
theorem unitsB_not {k i : Nat} (hi : 1 ≤ i ∧ i ≤ k) (h : Nat.gcd i m.toNat ≠ 1) : unitsB m k = false := by
  cases e : unitsB m k with
  | false => rfl
  | true => exact absurd (unitsB_at e hi) h
theorem units_inv (hm : 2 ≤ m) {k i : Nat} (h : unitsB m k = true) (hi : 1 ≤ i ∧ i ≤ k) : Zm.mk m (i : Int) * invN m (i : Int) = 1 :=
  invN_mul hm (by omega) (by rw [Int.toNat_natCast]; exact unitsB_at h hi)
/-- The integral. -/
def intS (a : PS (Zm m)) : PS (Zm m) := ⟨fun i => match i with
  | 0 => 0
  | i + 1 => a.c i * invN m ((i : Int) + 1)⟩
theorem intS_zero (a : PS (Zm m)) : (intS a).c 0 = 0 := rfl
theorem intS_succ (a : PS (Zm m)) (i : Nat) : (intS a).c (i + 1) = a.c i * invN m ((i : Int) + 1) := rfl
theorem mix_intS (a : PS (Zm m)) : mix (0 + 1) (intS a) 0 = 0 := by
  ext k; rw [mix_c]; split
  · rename_i h; rw [show k = 0 by omega]; rfl
  · rfl
def derS (a : PS (Zm m)) : PS (Zm m) := ⟨fun i => Zm.mk m ((i : Int) + 1) * a.c (i + 1)⟩
/-- Factorials, and the products of inverses. -/
def factZ (m : Int) : Nat → Zm m
  | 0 => 1
  | k + 1 => factZ m k * Zm.mk m ((k : Int) + 1)
def ifactZ (m : Int) : Nat → Zm m
  | 0 => 1
  | k + 1 => ifactZ m k * invN m ((k : Int) + 1)
theorem fact_inv (hm : 2 ≤ m) {n k : Nat} (h : unitsB m n = true) (hk : k ≤ n) : factZ m k * ifactZ m k = 1 := by
  induction k with
  | zero => exact one_mul 1
  | succ k ih =>
    have h1 := units_inv hm h (i := k + 1) (by omega)
    rw [show ((k + 1 : Nat) : Int) = (k : Int) + 1 by omega] at h1
    show factZ m k * Zm.mk m ((k : Int) + 1) * (ifactZ m k * invN m ((k : Int) + 1)) = 1
    rw [show factZ m k * Zm.mk m ((k : Int) + 1) * (ifactZ m k * invN m ((k : Int) + 1)) = (factZ m k * ifactZ m k) * (Zm.mk m ((k : Int) + 1) * invN m ((k : Int) + 1)) by ac_rfl, ih (by omega), h1, one_mul]
theorem invN_fact (hm : 2 ≤ m) {n k : Nat} (h : unitsB m n = true) (hk : k ≤ n) : invN m (factZ m k).val = ifactZ m k :=
  invN_eq hm (by rw [Zm.mk_val]; exact fact_inv hm h hk)
end Go.Fg
