/- Commutative rings, finite sums, power series, numbers modulo m. -/
set_option linter.unusedVariables false
set_option linter.unusedSimpArgs false
set_option linter.unusedSectionVars false
namespace Go.Fg

class CR (R : Type) extends Add R, Mul R, Neg R, Zero R, One R where
  add_assoc : ∀ a b c : R, a + b + c = a + (b + c)
  add_comm : ∀ a b : R, a + b = b + a
  zero_add : ∀ a : R, 0 + a = a
  neg_add : ∀ a : R, -a + a = 0
  mul_assoc : ∀ a b c : R, a * b * c = a * (b * c)
  mul_comm : ∀ a b : R, a * b = b * a
  one_mul : ∀ a : R, 1 * a = a
  mul_add : ∀ a b c : R, a * (b + c) = a * b + a * c

section
variable {R : Type} [CR R]
open CR
instance : Std.Associative (α := R) (· + ·) := ⟨CR.add_assoc⟩
instance : Std.Commutative (α := R) (· + ·) := ⟨CR.add_comm⟩
instance : Std.Associative (α := R) (· * ·) := ⟨CR.mul_assoc⟩
instance : Std.Commutative (α := R) (· * ·) := ⟨CR.mul_comm⟩

instance : Sub R := ⟨fun a b => a + -b⟩
theorem sub_def (a b : R) : a - b = a + -b := rfl
theorem add_zero (a : R) : a + 0 = a := by rw [add_comm, zero_add]
theorem add_neg (a : R) : a + -a = 0 := by rw [add_comm, neg_add]
theorem mul_one (a : R) : a * 1 = a := by rw [mul_comm, one_mul]
theorem add_mul (a b c : R) : (a + b) * c = a * c + b * c := by rw [mul_comm, mul_add, mul_comm c a, mul_comm c b]
theorem add_left_cancel {a b c : R} (h : a + b = a + c) : b = c := by
  have := congrArg (fun x => -a + x) h
  simpa only [← add_assoc, neg_add, zero_add] using this
theorem add_right_cancel {a b c : R} (h : a + c = b + c) : a = b := add_left_cancel (a := c) (by rw [add_comm c a, add_comm c b, h])
theorem mul_zero (a : R) : a * 0 = 0 := by
  apply add_left_cancel (a := a * 0); rw [← mul_add, add_zero, add_zero]
theorem zero_mul (a : R) : 0 * a = 0 := by rw [mul_comm, mul_zero]
theorem neg_unique {a b : R} (h : a + b = 0) : b = -a := add_left_cancel (a := a) (by rw [h, add_neg])
theorem neg_mul (a b : R) : -a * b = -(a * b) := neg_unique (by rw [← add_mul, add_neg, zero_mul])
theorem mul_neg (a b : R) : a * -b = -(a * b) := by rw [mul_comm, neg_mul, mul_comm]
theorem neg_neg (a : R) : - -a = a := (neg_unique (neg_add a)).symm
theorem neg_zero : -(0 : R) = 0 := (neg_unique (zero_add 0)).symm
theorem neg_add_rev (a b : R) : -(a + b) = -a + -b := by
  refine (neg_unique ?_).symm
  rw [show a + b + (-a + -b) = (a + -a) + (b + -b) by ac_rfl, add_neg, add_neg, zero_add]
theorem sub_self (a : R) : a - a = 0 := add_neg a
theorem sub_eq_zero {a b : R} : a - b = 0 ↔ a = b := by
  constructor
  · intro h
    have := congrArg (· + b) h
    simpa only [sub_def, add_assoc, neg_add, add_zero, zero_add] using this
  · rintro rfl; exact sub_self a
theorem sub_add_cancel (a b : R) : a - b + b = a := by rw [sub_def, add_assoc, neg_add, add_zero]
theorem add_sub_cancel (a b : R) : a + b - b = a := by rw [sub_def, add_assoc, add_neg, add_zero]
theorem mul_sub (a b c : R) : a * (b - c) = a * b - a * c := by rw [sub_def, mul_add, mul_neg, sub_def]
theorem sub_mul (a b c : R) : (a - b) * c = a * c - b * c := by rw [sub_def, add_mul, neg_mul, sub_def]
theorem eq_of_inv {u a b : R} (h : u * a = 1) (h2 : u * b = 1) : a = b := by
  rw [← one_mul a, ← h2, show u * b * a = b * (u * a) by ac_rfl, h, mul_one]

/-- Sums of the first n values. -/
def sm (n : Nat) (f : Nat → R) : R := match n with
  | 0 => 0
  | n + 1 => sm n f + f n

theorem sm_zero' (f : Nat → R) : sm 0 f = 0 := rfl
theorem sm_succ (n : Nat) (f : Nat → R) : sm (n + 1) f = sm n f + f n := rfl
theorem sm_congr {n : Nat} {f g : Nat → R} (h : ∀ i, i < n → f i = g i) : sm n f = sm n g := by
  induction n with
  | zero => rfl
  | succ n ih => rw [sm_succ, sm_succ, ih (fun i hi => h i (by omega)), h n (by omega)]
theorem sm_zero {n : Nat} {f : Nat → R} (h : ∀ i, i < n → f i = 0) : sm n f = 0 := by
  induction n with
  | zero => rfl
  | succ n ih => rw [sm_succ, ih (fun i hi => h i (by omega)), h n (by omega), add_zero]
theorem sm_add (n : Nat) (f g : Nat → R) : sm n (fun i => f i + g i) = sm n f + sm n g := by
  induction n with
  | zero => exact (zero_add 0).symm
  | succ n ih => simp only [sm_succ, ih]; ac_rfl
theorem sm_neg (n : Nat) (f : Nat → R) : sm n (fun i => -f i) = -sm n f := by
  induction n with
  | zero => exact neg_zero.symm
  | succ n ih => simp only [sm_succ, ih, neg_add_rev]
theorem sm_mul (n : Nat) (a : R) (f : Nat → R) : a * sm n f = sm n (fun i => a * f i) := by
  induction n with
  | zero => exact mul_zero a
  | succ n ih => simp only [sm_succ, mul_add, ih]
theorem sm_mul_right (n : Nat) (a : R) (f : Nat → R) : sm n f * a = sm n (fun i => f i * a) := by
  rw [mul_comm, sm_mul]; exact sm_congr (fun i _ => mul_comm _ _)
theorem sm_succ_left (n : Nat) (f : Nat → R) : sm (n + 1) f = f 0 + sm n (fun i => f (i + 1)) := by
  induction n with
  | zero => rw [sm_succ, sm_zero', sm_zero', add_zero, zero_add]
  | succ n ih => rw [sm_succ, ih, sm_succ, add_assoc]
theorem sm_swap (n k : Nat) (f : Nat → Nat → R) : sm n (fun i => sm k (fun j => f i j)) = sm k (fun j => sm n (fun i => f i j)) := by
  induction n with
  | zero => exact (sm_zero (fun _ _ => rfl)).symm
  | succ n ih => simp only [sm_succ, ih, sm_add]
theorem sm_rev (n : Nat) (f : Nat → R) : sm (n + 1) f = sm (n + 1) (fun i => f (n - i)) := by
  induction n generalizing f with
  | zero => rfl
  | succ n ih =>
    rw [sm_succ_left, ih, sm_succ (n + 1) (fun i => f (n + 1 - i)), Nat.sub_self, add_comm]
    congr 1
    refine sm_congr (fun i hi => ?_)
    rw [show n + 1 - i = n - i + 1 by omega]
theorem sm_ext {n k : Nat} {f : Nat → R} (hk : n ≤ k) (h : ∀ i, n ≤ i → i < k → f i = 0) : sm k f = sm n f := by
  induction k with
  | zero => rw [show n = 0 by omega]
  | succ k ih =>
    rcases Nat.lt_or_ge k n with h' | h'
    · rw [show n = k + 1 by omega]
    · rw [sm_succ, ih h' (fun i h1 h2 => h i h1 (by omega)), h k h' (by omega), add_zero]
theorem sm_one {n : Nat} {f : Nat → R} (k : Nat) (hk : k < n) (h : ∀ i, i < n → i ≠ k → f i = 0) : sm n f = f k := by
  rw [sm_ext (n := k + 1) (by omega) (fun i h1 h2 => h i h2 (by omega)), sm_succ, sm_zero (fun i hi => h i (by omega) (by omega)), zero_add]
theorem sm_split (n k : Nat) (f : Nat → R) : sm (n + k) f = sm n f + sm k (fun i => f (n + i)) := by
  induction k with
  | zero => exact (add_zero _).symm
  | succ k ih => rw [← Nat.add_assoc, sm_succ, ih, sm_succ, add_assoc]
/-- The triangle, by rows and by diagonals. -/
theorem sm_tri (n : Nat) (f : Nat → Nat → R) : sm (n + 1) (fun i => sm (i + 1) (fun j => f j (i - j))) = sm (n + 1) (fun j => sm (n - j + 1) (fun k => f j k)) := by
  induction n with
  | zero => rfl
  | succ n ih =>
    rw [sm_succ, ih, sm_succ (n + 1) (fun j => sm (n + 1 - j + 1) _), Nat.sub_self]
    rw [show sm (n + 1) (fun j => sm (n + 1 - j + 1) fun k => f j k) = sm (n + 1) (fun j => sm (n - j + 1) (fun k => f j k) + f j (n + 1 - j)) from
      sm_congr (fun j hj => by rw [show n + 1 - j = n - j + 1 by omega, sm_succ]), sm_add, add_assoc]
    congr 1
    rw [sm_succ, Nat.sub_self]
    show _ + f (n + 1) 0 = _ + sm (0 + 1) (fun k => f (n + 1) k)
    rw [sm_succ 0, sm_zero', zero_add]

end

/-- Power series. -/
structure PS (R : Type) where
  c : Nat → R

namespace PS
variable {R : Type}
@[ext] theorem ext {a b : PS R} (h : ∀ n, a.c n = b.c n) : a = b := by
  cases a; cases b; congr; funext n; exact h n

variable [CR R]
open CR
def add (a b : PS R) : PS R := ⟨fun n => a.c n + b.c n⟩
def mul (a b : PS R) : PS R := ⟨fun n => sm (n + 1) (fun i => a.c i * b.c (n - i))⟩
def neg (a : PS R) : PS R := ⟨fun n => -a.c n⟩
def C (r : R) : PS R := ⟨fun n => if n = 0 then r else 0⟩
def X : PS R := ⟨fun n => if n = 1 then 1 else 0⟩

theorem mul_comm' (a b : PS R) : mul a b = mul b a := by
  ext n
  show sm _ _ = sm _ _
  rw [sm_rev]
  refine sm_congr (fun i hi => ?_)
  rw [show n - (n - i) = i by omega, mul_comm]
theorem mul_assoc' (a b c : PS R) : mul (mul a b) c = mul a (mul b c) := by
  ext n
  show sm _ (fun i => sm _ _ * _) = sm _ (fun i => _ * sm _ _)
  rw [sm_congr (g := fun i => sm (i + 1) (fun j => (fun p q => a.c p * b.c q * c.c (n - (p + q))) j (i - j))) (fun i _ => by
    rw [sm_mul_right]; exact sm_congr (fun j hj => by simp only; rw [show j + (i - j) = i by omega])), sm_tri n (fun p q => a.c p * b.c q * c.c (n - (p + q)))]
  refine sm_congr (fun i hi => ?_)
  rw [sm_mul]
  refine sm_congr (fun j hj => ?_)
  rw [mul_assoc, show n - (i + j) = n - i - j by omega]

instance : CR (PS R) where
  add := add
  mul := mul
  neg := neg
  zero := ⟨fun _ => 0⟩
  one := C 1
  add_assoc a b c := by ext n; exact add_assoc _ _ _
  add_comm a b := by ext n; exact add_comm _ _
  zero_add a := by ext n; exact zero_add _
  neg_add a := by ext n; exact neg_add _
  mul_assoc := mul_assoc'
  mul_comm := mul_comm'
  one_mul a := by
    ext n
    show sm (n + 1) (fun i => (if i = 0 then (1 : R) else 0) * a.c (n - i)) = a.c n
    rw [sm_one 0 (by omega) (fun i _ h => by simp [h, zero_mul])]
    simp [one_mul]
  mul_add a b c := by
    ext n
    show sm _ (fun i => a.c i * (b.c _ + c.c _)) = sm _ _ + sm _ _
    rw [← sm_add]
    exact sm_congr (fun i _ => mul_add _ _ _)

theorem add_c (a b : PS R) (n : Nat) : (a + b).c n = a.c n + b.c n := rfl
theorem neg_c (a : PS R) (n : Nat) : (-a).c n = -a.c n := rfl
theorem sub_c (a b : PS R) (n : Nat) : (a - b).c n = a.c n - b.c n := rfl
theorem zero_c (n : Nat) : (0 : PS R).c n = 0 := rfl
theorem one_c (n : Nat) : (1 : PS R).c n = if n = 0 then 1 else 0 := rfl
theorem mul_c (a b : PS R) (n : Nat) : (a * b).c n = sm (n + 1) (fun i => a.c i * b.c (n - i)) := rfl
theorem C_c (r : R) (n : Nat) : (C r).c n = if n = 0 then r else 0 := rfl
theorem X_c (n : Nat) : (X : PS R).c n = if n = 1 then 1 else 0 := rfl
theorem sm_c (k : Nat) (f : Nat → PS R) (n : Nat) : (sm k f).c n = sm k (fun i => (f i).c n) := by
  induction k with
  | zero => rfl
  | succ k ih => rw [sm_succ, sm_succ, add_c, ih]
theorem mul_c0 (a b : PS R) : (a * b).c 0 = a.c 0 * b.c 0 := by rw [mul_c, sm_succ, sm_zero', zero_add]
theorem C_mul (r : R) (a : PS R) (n : Nat) : (C r * a).c n = r * a.c n := by
  rw [mul_c, sm_one 0 (by omega) (fun i _ h => by rw [C_c, if_neg h, zero_mul]), C_c, if_pos rfl, Nat.sub_zero]
theorem C_mul_C (r s : R) : C r * C s = C (r * s) := by
  ext n; rw [C_mul, C_c, C_c]; split
  · rfl
  · exact mul_zero r
theorem C_add_C (r s : R) : C r + C s = C (r + s) := by
  ext n; rw [add_c, C_c, C_c, C_c]; split
  · rfl
  · exact zero_add 0
theorem C_one : C (1 : R) = 1 := rfl
theorem C_zero : C (0 : R) = 0 := by ext n; rw [C_c, zero_c]; split <;> rfl
theorem X_mul_succ (a : PS R) (n : Nat) : (X * a).c (n + 1) = a.c n := by
  rw [mul_c, sm_one 1 (by omega) (fun i _ h => by rw [X_c, if_neg h, zero_mul]), X_c, if_pos rfl, one_mul]; rfl
theorem X_mul_zero (a : PS R) : (X * a).c 0 = 0 := by
  rw [mul_c0, X_c, if_neg (by omega), zero_mul]
end PS

/-- Powers. -/
def pw {R : Type} [CR R] (a : R) : Nat → R
  | 0 => 1
  | n + 1 => pw a n * a

section
variable {R : Type} [CR R]
open CR
theorem pw_zero (a : R) : pw a 0 = 1 := rfl
theorem pw_succ (a : R) (n : Nat) : pw a (n + 1) = pw a n * a := rfl
theorem pw_one (a : R) : pw a 1 = a := by rw [pw_succ, pw_zero, one_mul]
theorem pw_add (a : R) (n k : Nat) : pw a (n + k) = pw a n * pw a k := by
  induction k with
  | zero => rw [Nat.add_zero, pw_zero, mul_one]
  | succ k ih => rw [← Nat.add_assoc, pw_succ, ih, pw_succ, mul_assoc]
theorem pw_mul_base (a b : R) (n : Nat) : pw (a * b) n = pw a n * pw b n := by
  induction n with
  | zero => rw [pw_zero, pw_zero, pw_zero, one_mul]
  | succ n ih => rw [pw_succ, pw_succ, pw_succ, ih]; ac_rfl
theorem pw_pw (a : R) (n k : Nat) : pw (pw a n) k = pw a (n * k) := by
  induction k with
  | zero => rfl
  | succ k ih => rw [pw_succ, ih, Nat.mul_succ, pw_add]
theorem pw_sq (a : R) (n : Nat) : pw (a * a) n = pw a (n + n) := by rw [pw_mul_base, pw_add]
theorem pw_even (x y : R) {k : Nat} (h : k % 2 = 0) : x * pw (y * y) (k / 2) = x * pw y k := by rw [pw_sq, show k / 2 + k / 2 = k by omega]
theorem pw_odd (x y : R) {k : Nat} (h : k % 2 = 1) : x * y * pw (y * y) (k / 2) = x * pw y k := by
  rw [pw_sq, mul_assoc, mul_comm y, ← pw_succ, show k / 2 + k / 2 + 1 = k by omega]
theorem one_pw (n : Nat) : pw (1 : R) n = 1 := by
  induction n with
  | zero => rfl
  | succ n ih => rw [pw_succ, ih, one_mul]
theorem zero_pw {n : Nat} (h : n ≠ 0) : pw (0 : R) n = 0 := by
  cases n with
  | zero => exact absurd rfl h
  | succ n => rw [pw_succ, mul_zero]
end

/-- Numbers modulo m. -/
def Zr (m : Int) : Setoid Int := ⟨fun a b => a % m = b % m, fun _ => rfl, fun h => h.symm, fun h k => h.trans k⟩
def Zm (m : Int) : Type := Quotient (Zr m)
namespace Zm
variable {m : Int}
def mk (m : Int) (a : Int) : Zm m := Quotient.mk (Zr m) a
theorem mk_eq {a b : Int} : mk m a = mk m b ↔ a % m = b % m := ⟨fun h => Quotient.exact h, fun h => Quotient.sound h⟩
def val (a : Zm m) : Int := Quotient.lift (fun a => a % m) (fun _ _ h => h) a
theorem val_mk (a : Int) : (mk m a).val = a % m := rfl
theorem mk_val (a : Zm m) : mk m a.val = a := Quotient.inductionOn a (fun _ => Quotient.sound (Int.emod_emod_of_dvd _ (Int.dvd_refl _)))
theorem val_inj {a b : Zm m} (h : a.val = b.val) : a = b := by rw [← mk_val a, ← mk_val b, h]
theorem ind {p : Zm m → Prop} (h : ∀ a, p (mk m a)) (a : Zm m) : p a := Quotient.inductionOn a h
instance : CR (Zm m) where
  add a b := Quotient.lift₂ (fun a b => mk m (a + b)) (fun a b a' b' (h : a % m = a' % m) (k : b % m = b' % m) => mk_eq.2 (by rw [Int.add_emod, h, k, ← Int.add_emod])) a b
  mul a b := Quotient.lift₂ (fun a b => mk m (a * b)) (fun a b a' b' (h : a % m = a' % m) (k : b % m = b' % m) => mk_eq.2 (by rw [Int.mul_emod, h, k, ← Int.mul_emod])) a b
  neg a := Quotient.lift (fun a => mk m (-a)) (fun a b h => mk_eq.2 <| by
    have h' : a % m = b % m := h
    rw [Int.emod_eq_emod_iff_emod_sub_eq_zero] at h' ⊢
    rw [show -a - -b = -(a - b) by omega]
    exact Int.emod_eq_zero_of_dvd ((Int.dvd_neg).2 (Int.dvd_of_emod_eq_zero h'))) a
  zero := mk m 0
  one := mk m 1
  add_assoc := by refine ind fun a => ind fun b => ind fun c => ?_; exact congrArg (mk m) (Int.add_assoc a b c)
  add_comm := by refine ind fun a => ind fun b => ?_; exact congrArg (mk m) (Int.add_comm a b)
  zero_add := by refine ind fun a => ?_; exact congrArg (mk m) (Int.zero_add a)
  neg_add := by refine ind fun a => ?_; exact congrArg (mk m) (Int.add_left_neg a)
  mul_assoc := by refine ind fun a => ind fun b => ind fun c => ?_; exact congrArg (mk m) (Int.mul_assoc a b c)
  mul_comm := by refine ind fun a => ind fun b => ?_; exact congrArg (mk m) (Int.mul_comm a b)
  one_mul := by refine ind fun a => ?_; exact congrArg (mk m) (Int.one_mul a)
  mul_add := by refine ind fun a => ind fun b => ind fun c => ?_; exact congrArg (mk m) (Int.mul_add a b c)
theorem mk_add (a b : Int) : mk m (a + b) = mk m a + mk m b := rfl
theorem mk_mul (a b : Int) : mk m (a * b) = mk m a * mk m b := rfl
theorem mk_neg (a : Int) : mk m (-a) = -mk m a := rfl
theorem mk_sub (a b : Int) : mk m (a - b) = mk m a - mk m b := by rw [Int.sub_eq_add_neg, mk_add, mk_neg]; rfl
theorem mk_zero : mk m 0 = 0 := rfl
theorem mk_one : mk m 1 = 1 := rfl
theorem mk_mod (a : Int) : mk m (a % m) = mk m a := mk_eq.2 (Int.emod_emod_of_dvd _ (Int.dvd_refl _))
theorem mk_self : mk m m = 0 := mk_eq.2 (by simp)
theorem mk_sum (n : Nat) (f : Nat → Int) : mk m ((List.range n).map f).sum = sm n (fun i => mk m (f i)) := by
  induction n with
  | zero => rfl
  | succ n ih => rw [List.range_succ, List.map_append, List.sum_append, mk_add, ih, sm_succ]; congr 1; simp
theorem val_range (hm : 0 < m) (a : Zm m) : 0 ≤ a.val ∧ a.val < m := by
  revert a
  refine ind (fun a => ?_)
  rw [val_mk]; exact ⟨Int.emod_nonneg _ (by omega), Int.emod_lt_of_pos _ hm⟩
theorem val_of_range {a : Int} (h : 0 ≤ a ∧ a < m) : (mk m a).val = a := by rw [val_mk]; exact Int.emod_eq_of_lt h.1 h.2
end Zm

end Go.Fg
