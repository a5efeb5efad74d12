/- Euclid's algorithm: inverses and greatest common divisors. -/
import Derived.Test.YtnonhialafcjmaaAlg3
set_option linter.unusedVariables false
set_option linter.unusedSimpArgs false
namespace Go.Fg
open CR

/-- A sign. -/
def sg (b : Bool) (n : Nat) : Int := if b then (n : Int) else -(n : Int)
theorem sg_not (b : Bool) (n : Nat) : sg (!b) n = -sg b n := by cases b <;> simp [sg]
theorem sg_le (b : Bool) (n : Nat) : -(n : Int) ≤ sg b n ∧ sg b n ≤ n := by cases b <;> simp [sg] <;> omega

/-- One step's state: remainders r and s, coefficients of opposite signs. -/
structure Eu where
  r : Nat
  s : Nat
  x : Nat
  y : Nat
  b : Bool
namespace Eu
def next (e : Eu) : Eu := ⟨e.s, e.r % e.s, e.y, e.x + e.r / e.s * e.y, !e.b⟩
def X (e : Eu) : Int := sg e.b e.x
def Y (e : Eu) : Int := sg (!e.b) e.y
def Ok (m : Nat) (e : Eu) : Prop := 1 ≤ e.r ∧ e.r * e.y + e.s * e.x = m ∧ e.r ≤ m ∧ e.s ≤ m
theorem next_ok {m : Nat} {e : Eu} (h : e.Ok m) (hs : e.s ≠ 0) : e.next.Ok m := by
  obtain ⟨h1, h2, h3, h4⟩ := h
  refine ⟨by show 1 ≤ e.s; omega, ?_, h4, ?_⟩
  · show e.s * (e.x + e.r / e.s * e.y) + e.r % e.s * e.y = m
    rw [← h2, Nat.mul_add, ← Nat.mul_assoc]
    have : e.r * e.y = e.s * (e.r / e.s) * e.y + e.r % e.s * e.y := by rw [← Nat.add_mul, Nat.div_add_mod]
    omega
  · show e.r % e.s ≤ m
    have := Nat.mod_lt e.r (show e.s > 0 by omega)
    omega
theorem y_le {m : Nat} {e : Eu} (h : e.Ok m) : e.y ≤ m := by
  obtain ⟨h1, h2, _⟩ := h
  have : e.y ≤ e.r * e.y := Nat.le_mul_of_pos_left _ (by omega)
  omega
theorem x_le {m : Nat} {e : Eu} (h : e.Ok m) (hs : e.s ≠ 0) : e.x ≤ m := by
  obtain ⟨h1, h2, _⟩ := h
  have : e.x ≤ e.s * e.x := Nat.le_mul_of_pos_left _ (by omega)
  omega
theorem qy_le {m : Nat} {e : Eu} (h : e.Ok m) (hs : e.s ≠ 0) : e.r / e.s * e.y ≤ m := by
  have h2 : e.next.y ≤ m := y_le (next_ok h hs)
  have h3 : e.next.y = e.x + e.r / e.s * e.y := rfl
  omega
theorem next_X (e : Eu) : e.next.X = e.Y := rfl
theorem next_Y (e : Eu) : e.next.Y = e.X - ((e.r / e.s : Nat) : Int) * e.Y := by
  show sg (!(!e.b)) (e.x + e.r / e.s * e.y) = sg e.b e.x - ((e.r / e.s : Nat) : Int) * sg (!e.b) e.y
  rw [Bool.not_not]
  generalize e.r / e.s = q
  have h1 : ((e.x + q * e.y : Nat) : Int) = (e.x : Int) + (q : Int) * (e.y : Int) := by rw [Int.natCast_add, Int.natCast_mul]
  cases e.b
  · simp only [sg, Bool.not_false, if_true, Bool.false_eq_true, if_false, h1]; omega
  · simp only [sg, Bool.not_true, if_true, Bool.false_eq_true, if_false, h1, Int.mul_neg]; omega
theorem next_s (e : Eu) : (e.next.s : Int) = (e.r : Int) - ((e.r / e.s : Nat) : Int) * (e.s : Int) := by
  show ((e.r % e.s : Nat) : Int) = _
  have := Nat.div_add_mod e.r e.s
  have h : (((e.s * (e.r / e.s) + e.r % e.s : Nat)) : Int) = (e.r : Int) := by rw [this]
  rw [Int.natCast_add, Int.natCast_mul] at h
  rw [Int.mul_comm]; omega
theorem next_lt (e : Eu) (hs : e.s ≠ 0) : e.next.s < e.s := Nat.mod_lt _ (by omega)
/-- To the end. -/
def run (e : Eu) : Eu := if h : e.s = 0 then e else run e.next
termination_by e.s
decreasing_by exact next_lt e h
theorem run_zero {e : Eu} (h : e.s = 0) : e.run = e := by rw [run, dif_pos h]
theorem run_next {e : Eu} (h : e.s ≠ 0) : e.next.run = e.run := by rw [run.eq_def e, dif_neg h]
theorem run_s (e : Eu) : e.run.s = 0 := by
  generalize hn : e.s = n
  induction n using Nat.strongRecOn generalizing e with
  | _ n ih =>
    by_cases h : e.s = 0
    · rw [run_zero h, h]
    · rw [← run_next h]; exact ih e.next.s (hn ▸ next_lt e h) e.next rfl
/-- What stays: both remainders are multiples of a, modulo m. -/
def Rel (m a : Int) (e : Eu) : Prop := Zm.mk m (e.X * a) = Zm.mk m e.r ∧ Zm.mk m (e.Y * a) = Zm.mk m e.s
theorem next_rel {m a : Int} {e : Eu} (h : e.Rel m a) : e.next.Rel m a := by
  refine ⟨h.2, ?_⟩
  rw [next_Y, next_s, Int.sub_mul, Zm.mk_sub, h.1, Int.mul_assoc, Zm.mk_mul, h.2, Zm.mk_sub, Zm.mk_mul]
theorem run_rel {m a : Int} (e : Eu) (h : e.Rel m a) : e.run.Rel m a := by
  generalize hn : e.s = n
  induction n using Nat.strongRecOn generalizing e with
  | _ n ih =>
    by_cases h0 : e.s = 0
    · rw [run_zero h0]; exact h
    · rw [← run_next h0]; exact ih e.next.s (hn ▸ next_lt e h0) e.next (next_rel h) rfl
theorem next_gcd (e : Eu) : Nat.gcd e.next.r e.next.s = Nat.gcd e.r e.s := by
  show Nat.gcd e.s (e.r % e.s) = _
  rw [Nat.gcd_comm e.s, ← Nat.gcd_rec, Nat.gcd_comm]
theorem run_gcd (e : Eu) : e.run.r = Nat.gcd e.r e.s := by
  generalize hn : e.s = n
  induction n using Nat.strongRecOn generalizing e with
  | _ n ih =>
    by_cases h0 : e.s = 0
    · rw [run_zero h0, ← hn, h0, Nat.gcd_zero_right]
    · rw [← run_next h0, ih e.next.s (hn ▸ next_lt e h0) e.next rfl, next_gcd, hn]
end Eu

/-- The start. -/
def eu0 (m a : Int) : Eu := ⟨m.toNat, (a % m).toNat, 0, 1, false⟩
/-- What the algorithm calls the inverse of a. -/
def invN (m a : Int) : Zm m := Zm.mk m (eu0 m a).run.X
theorem eu0_ok {m a : Int} (hm : 2 ≤ m) : (eu0 m a).Ok m.toNat := by
  have h1 := Int.emod_nonneg a (show m ≠ 0 by omega)
  have h2 := Int.emod_lt_of_pos a (show 0 < m by omega)
  refine ⟨by show 1 ≤ m.toNat; omega, by show m.toNat * 1 + (a % m).toNat * 0 = m.toNat; omega, Nat.le_refl _, by show (a % m).toNat ≤ m.toNat; omega⟩
theorem eu0_rel {m a : Int} (hm : 2 ≤ m) : (eu0 m a).Rel m a := by
  have h1 := Int.emod_nonneg a (show m ≠ 0 by omega)
  refine ⟨?_, ?_⟩
  · show Zm.mk m (-((0 : Nat) : Int) * a) = Zm.mk m ((m.toNat : Nat) : Int)
    rw [Int.toNat_of_nonneg (by omega), Zm.mk_self]; simp; rfl
  · show Zm.mk m (((1 : Nat) : Int) * a) = Zm.mk m (((a % m).toNat : Nat) : Int)
    rw [Int.toNat_of_nonneg h1, Zm.mk_mod]; simp
/-- The inverse of a unit. -/
theorem invN_mul {m a : Int} (hm : 2 ≤ m) (h0 : 0 ≤ a) (h : Nat.gcd a.toNat m.toNat = 1) : Zm.mk m a * invN m a = 1 := by
  have h1 := (Eu.run_rel _ (eu0_rel (a := a) hm)).1
  have h3 : (eu0 m a).run.r = 1 := by
    rw [Eu.run_gcd, ← h]
    show Nat.gcd m.toNat (a % m).toNat = _
    have e : (a % m).toNat = a.toNat % m.toNat := by
      obtain ⟨k, rfl⟩ := Int.eq_ofNat_of_zero_le h0
      obtain ⟨n, rfl⟩ := Int.eq_ofNat_of_zero_le (show 0 ≤ m by omega)
      rw [Int.toNat_natCast, Int.toNat_natCast, ← Int.natCast_emod, Int.toNat_natCast]
    rw [e, Nat.gcd_comm, ← Nat.gcd_rec, Nat.gcd_comm]
  rw [h3] at h1
  unfold invN
  rw [CR.mul_comm, ← Zm.mk_mul, h1]; rfl
end Go.Fg

namespace Go.Fg
open CR PS
section
variable {R : Type} [CR R]
/-- c t^n. -/
def mono (n : Nat) (c : R) : PS R := ⟨fun i => if i = n then c else 0⟩
theorem mono_c (n : Nat) (c : R) (i : Nat) : (mono n c).c i = if i = n then c else 0 := rfl
theorem mono_mul (n k : Nat) (c d : R) : mono n c * mono k d = mono (n + k) (c * d) := by
  ext i
  rw [mul_c, mono_c]
  by_cases h : i = n + k
  · subst h
    rw [if_pos rfl, sm_one n (by omega) (fun j _ hj => by rw [mono_c, if_neg hj, zero_mul]), mono_c, if_pos rfl, mono_c, if_pos (by omega)]
  · rw [if_neg h]
    refine sm_zero (fun j hj => ?_)
    rw [mono_c, mono_c]
    by_cases h1 : j = n
    · rw [if_neg (show ¬ i - j = k by omega), mul_zero]
    · rw [if_neg h1, zero_mul]
theorem pw_mono (n : Nat) (c : R) (k : Nat) : pw (mono n c) k = mono (k * n) (pw c k) := by
  induction k with
  | zero => ext i; rw [pw_zero, one_c, mono_c]; simp; rfl
  | succ k ih => rw [pw_succ, ih, mono_mul, pw_succ, Nat.succ_mul]
/-- a(c t). -/
def strS (a : PS R) (c : R) : PS R := ⟨fun i => a.c i * pw c i⟩
theorem compN_mono (a : PS R) (c : R) (N : Nat) : Ag N (compN a (mono 1 c) 0 N) (strS a c) := fun i hi => by
  unfold compN
  rw [sm_c, sm_one i hi (fun j _ hj => by rw [C_mul, pw_mono, mono_c, if_neg (by omega), mul_zero]), C_mul, pw_mono, mono_c, if_pos (by omega), Nat.zero_add]
  rfl
end
end Go.Fg
