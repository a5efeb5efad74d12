set_option linter.unusedVariables false
set_option linter.unusedSimpArgs false
set_option linter.unusedSectionVars false
namespace Go.Fg
class CR (R : Type) extends Add R, Mul R, Neg R, Zero R, One R where
 add_assoc : ∀ a b c : R, a + b + c = a + (b + c)
 add_comm : ∀ a b : R, a + b = b + a
 zero_add : ∀ a : R, 0 + a = a
 neg_add : ∀ a : R, -a + a = 0
 mul_assoc : ∀ a b c : R, a * b * c = a * (b * c)
 mul_comm : ∀ a b : R, a * b = b * a
 one_mul : ∀ a : R, 1 * a = a
 mul_add : ∀ a b c : R, a * (b + c) = a * b + a * c
section
variable {R : Type} [CR R]
open CR
instance : Std.Associative (α := R) (· + ·) := ⟨CR.add_assoc⟩
instance : Std.Commutative (α := R) (· + ·) := ⟨CR.add_comm⟩
instance : Std.Associative (α := R) (· * ·) := ⟨CR.mul_assoc⟩
instance : Std.Commutative (α := R) (· * ·) := ⟨CR.mul_comm⟩
instance : Sub R := ⟨fun a b => a + -b⟩
theorem sub_def (a b : R) : a - b = a + -b := rfl
theorem add_zero (a : R) : a + 0 = a := by rw [add_comm, zero_add]
theorem add_neg (a : R) : a + -a = 0 := by rw [add_comm, neg_add]
theorem mul_one (a : R) : a * 1 = a := by rw [mul_comm, one_mul]
theorem add_mul (a b c : R) : (a + b) * c = a * c + b * c := by rw [mul_comm, mul_add, mul_comm c a, mul_comm c b]
theorem I5 {a b c : R} (h : a + b = a + c) : b = c := by
 have := congrArg (fun x => -a + x) h
 simpa only [← add_assoc, neg_add, zero_add] using this
theorem mul_zero (a : R) : a * 0 = 0 := by
 apply I5 (a := a * 0); rw [← mul_add, add_zero, add_zero]
theorem zero_mul (a : R) : 0 * a = 0 := by rw [mul_comm, mul_zero]
theorem Agf {a b : R} (h : a + b = 0) : b = -a := I5 (a := a) (by rw [h, add_neg])
theorem neg_mul (a b : R) : -a * b = -(a * b) := Agf (by rw [← add_mul, add_neg, zero_mul])
theorem mul_neg (a b : R) : a * -b = -(a * b) := by rw [mul_comm, neg_mul, mul_comm]
theorem sub_self (a : R) : a - a = 0 := add_neg a
theorem sub_eq_zero {a b : R} : a - b = 0 ↔ a = b := by
 constructor
 · intro h
   have := congrArg (· + b) h
   simpa only [sub_def, add_assoc, neg_add, add_zero, zero_add] using this
 · rintro rfl; exact sub_self a
theorem sub_add_cancel (a b : R) : a - b + b = a := by rw [sub_def, add_assoc, neg_add, add_zero]
theorem add_sub_cancel (a b : R) : a + b - b = a := by rw [sub_def, add_assoc, add_neg, add_zero]
def sm (n : Nat) (f : Nat → R) : R := match n with
 | 0 => 0
 | n + 1 => sm n f + f n
theorem jJ (f : Nat → R) : sm 0 f = 0 := rfl
theorem cB (n : Nat) (f : Nat → R) : sm (n + 1) f = sm n f + f n := rfl
theorem bS {n : Nat} {f g : Nat → R} (h : ∀ i, i < n → f i = g i) : sm n f = sm n g := by
 induction n with
 | zero => rfl
 | succ n ih => rw [cB, cB, ih (fun i hi => h i (by omega)), h n (by omega)]
theorem dH {n : Nat} {f : Nat → R} (h : ∀ i, i < n → f i = 0) : sm n f = 0 := by
 induction n with
 | zero => rfl
 | succ n ih => rw [cB, ih (fun i hi => h i (by omega)), h n (by omega), add_zero]
theorem kB (n : Nat) (f g : Nat → R) : sm n (fun i => f i + g i) = sm n f + sm n g := by
 induction n with
 | zero => exact (zero_add 0).symm
 | succ n ih => simp only [cB, ih]; ac_rfl
theorem nB (n : Nat) (a : R) (f : Nat → R) : a * sm n f = sm n (fun i => a * f i) := by
 induction n with
 | zero => exact mul_zero a
 | succ n ih => simp only [cB, mul_add, ih]
theorem jK (n : Nat) (a : R) (f : Nat → R) : sm n f * a = sm n (fun i => f i * a) := by
 rw [mul_comm, nB]; exact bS (fun i _ => mul_comm _ _)
theorem oW (n : Nat) (f : Nat → R) : sm (n + 1) f = f 0 + sm n (fun i => f (i + 1)) := by
 induction n with
 | zero => rw [cB, jJ, jJ, add_zero, zero_add]
 | succ n ih => rw [cB, ih, cB, add_assoc]
theorem oT (n k : Nat) (f : Nat → Nat → R) : sm n (fun i => sm k (fun j => f i j)) = sm k (fun j => sm n (fun i => f i j)) := by
 induction n with
 | zero => exact (dH (fun _ _ => rfl)).symm
 | succ n ih => simp only [cB, ih, kB]
theorem Anq (n : Nat) (f : Nat → R) : sm (n + 1) f = sm (n + 1) (fun i => f (n - i)) := by
 induction n generalizing f with
 | zero => rfl
 | succ n ih =>
   rw [oW, ih, cB (n + 1) (fun i => f (n + 1 - i)), Nat.sub_self, add_comm]
   congr 1
   refine bS (fun i hi => ?_)
   rw [show n + 1 - i = n - i + 1 by omega]
theorem uA {n k : Nat} {f : Nat → R} (hk : n ≤ k) (h : ∀ i, n ≤ i → i < k → f i = 0) : sm k f = sm n f := by
 induction k with
 | zero => rw [show n = 0 by omega]
 | succ k ih =>
   rcases Nat.lt_or_ge k n with h' | h'
   · rw [show n = k + 1 by omega]
   · rw [cB, ih h' (fun i h1 h2 => h i h1 (by omega)), h k h' (by omega), add_zero]
theorem eQ {n : Nat} {f : Nat → R} (k : Nat) (hk : k < n) (h : ∀ i, i < n → i ≠ k → f i = 0) : sm n f = f k := by
 rw [uA (n := k + 1) (by omega) (fun i h1 h2 => h i h2 (by omega)), cB, dH (fun i hi => h i (by omega) (by omega)), zero_add]
theorem H9 (n : Nat) (f : Nat → Nat → R) : sm (n + 1) (fun i => sm (i + 1) (fun j => f j (i - j))) = sm (n + 1) (fun j => sm (n - j + 1) (fun k => f j k)) := by
 induction n with
 | zero => rfl
 | succ n ih =>
   rw [cB, ih, cB (n + 1) (fun j => sm (n + 1 - j + 1) _), Nat.sub_self]
   rw [show sm (n + 1) (fun j => sm (n + 1 - j + 1) fun k => f j k) = sm (n + 1) (fun j => sm (n - j + 1) (fun k => f j k) + f j (n + 1 - j)) from
     bS (fun j hj => by rw [show n + 1 - j = n - j + 1 by omega, cB]), kB, add_assoc]
   congr 1
   rw [cB, Nat.sub_self]
   show _ + f (n + 1) 0 = _ + sm (0 + 1) (fun k => f (n + 1) k)
   rw [cB 0, jJ, zero_add]
end
structure PS (R : Type) where
 c : Nat → R
namespace PS
variable {R : Type}
@[ext] theorem ext {a b : PS R} (h : ∀ n, a.c n = b.c n) : a = b := by
 cases a; cases b; congr; funext n; exact h n
variable [CR R]
open CR
def add (a b : PS R) : PS R := ⟨fun n => a.c n + b.c n⟩
def mul (a b : PS R) : PS R := ⟨fun n => sm (n + 1) (fun i => a.c i * b.c (n - i))⟩
def neg (a : PS R) : PS R := ⟨fun n => -a.c n⟩
def C (r : R) : PS R := ⟨fun n => if n = 0 then r else 0⟩
def X : PS R := ⟨fun n => if n = 1 then 1 else 0⟩
theorem Am7 (a b : PS R) : mul a b = mul b a := by
 ext n
 show sm _ _ = sm _ _
 rw [Anq]
 refine bS (fun i hi => ?_)
 rw [show n - (n - i) = i by omega, mul_comm]
theorem Ajc (a b c : PS R) : mul (mul a b) c = mul a (mul b c) := by
 ext n
 show sm _ (fun i => sm _ _ * _) = sm _ (fun i => _ * sm _ _)
 rw [bS (g := fun i => sm (i + 1) (fun j => (fun p q => a.c p * b.c q * c.c (n - (p + q))) j (i - j))) (fun i _ => by
   rw [jK]; exact bS (fun j hj => by simp only; rw [show j + (i - j) = i by omega])), H9 n (fun p q => a.c p * b.c q * c.c (n - (p + q)))]
 refine bS (fun i hi => ?_)
 rw [nB]
 refine bS (fun j hj => ?_)
 rw [mul_assoc, show n - (i + j) = n - i - j by omega]
instance : CR (PS R) where
 add := add
 mul := mul
 neg := neg
 zero := ⟨fun _ => 0⟩
 one := C 1
 add_assoc a b c := by ext n; exact add_assoc _ _ _
 add_comm a b := by ext n; exact add_comm _ _
 zero_add a := by ext n; exact zero_add _
 neg_add a := by ext n; exact neg_add _
 mul_assoc := Ajc
 mul_comm := Am7
 one_mul a := by
   ext n
   show sm (n + 1) (fun i => (if i = 0 then (1 : R) else 0) * a.c (n - i)) = a.c n
   rw [eQ 0 (by omega) (fun i _ h => by simp [h, zero_mul])]
   simp [one_mul]
 mul_add a b c := by
   ext n
   show sm _ (fun i => a.c i * (b.c _ + c.c _)) = sm _ _ + sm _ _
   rw [← kB]
   exact bS (fun i _ => mul_add _ _ _)
theorem add_c (a b : PS R) (n : Nat) : (a + b).c n = a.c n + b.c n := rfl
theorem lT (n : Nat) : (0 : PS R).c n = 0 := rfl
theorem one_c (n : Nat) : (1 : PS R).c n = if n = 0 then 1 else 0 := rfl
theorem cN (a b : PS R) (n : Nat) : (a * b).c n = sm (n + 1) (fun i => a.c i * b.c (n - i)) := rfl
theorem dN (r : R) (n : Nat) : (C r).c n = if n = 0 then r else 0 := rfl
theorem qN (n : Nat) : (X : PS R).c n = if n = 1 then 1 else 0 := rfl
theorem sm_c (k : Nat) (f : Nat → PS R) (n : Nat) : (sm k f).c n = sm k (fun i => (f i).c n) := by
 induction k with
 | zero => rfl
 | succ k ih => rw [cB, cB, add_c, ih]
theorem mul_c0 (a b : PS R) : (a * b).c 0 = a.c 0 * b.c 0 := by rw [cN, cB, jJ, zero_add]
theorem C_mul (r : R) (a : PS R) (n : Nat) : (C r * a).c n = r * a.c n := by
 rw [cN, eQ 0 (by omega) (fun i _ h => by rw [dN, if_neg h, zero_mul]), dN, if_pos rfl, Nat.sub_zero]
theorem nV (r s : R) : C r * C s = C (r * s) := by
 ext n; rw [C_mul, dN, dN]; split
 · rfl
 · exact mul_zero r
theorem qK (r s : R) : C r + C s = C (r + s) := by
 ext n; rw [add_c, dN, dN, dN]; split
 · rfl
 · exact zero_add 0
theorem Apu : C (1 : R) = 1 := rfl
theorem C_zero : C (0 : R) = 0 := by ext n; rw [dN, lT]; split <;> rfl
end PS
def pw {R : Type} [CR R] (a : R) : Nat → R
 | 0 => 1
 | n + 1 => pw a n * a
section
variable {R : Type} [CR R]
open CR
theorem pw_zero (a : R) : pw a 0 = 1 := rfl
theorem cV (a : R) (n : Nat) : pw a (n + 1) = pw a n * a := rfl
theorem pw_one (a : R) : pw a 1 = a := by rw [cV, pw_zero, one_mul]
theorem B3 (a : R) (n k : Nat) : pw a (n + k) = pw a n * pw a k := by
 induction k with
 | zero => rw [Nat.add_zero, pw_zero, mul_one]
 | succ k ih => rw [← Nat.add_assoc, cV, ih, cV, mul_assoc]
theorem Amu (a b : R) (n : Nat) : pw (a * b) n = pw a n * pw b n := by
 induction n with
 | zero => rw [pw_zero, pw_zero, pw_zero, one_mul]
 | succ n ih => rw [cV, cV, cV, ih]; ac_rfl
theorem Ab2 (a : R) (n : Nat) : pw (a * a) n = pw a (n + n) := by rw [Amu, B3]
theorem Apa (x y : R) {k : Nat} (h : k % 2 = 0) : x * pw (y * y) (k / 2) = x * pw y k := by rw [Ab2, show k / 2 + k / 2 = k by omega]
theorem Ai9 (x y : R) {k : Nat} (h : k % 2 = 1) : x * y * pw (y * y) (k / 2) = x * pw y k := by
 rw [Ab2, mul_assoc, mul_comm y, ← cV, show k / 2 + k / 2 + 1 = k by omega]
theorem tN (n : Nat) : pw (1 : R) n = 1 := by
 induction n with
 | zero => rfl
 | succ n ih => rw [cV, ih, one_mul]
theorem Aaz {n : Nat} (h : n ≠ 0) : pw (0 : R) n = 0 := by
 cases n with
 | zero => exact absurd rfl h
 | succ n => rw [cV, mul_zero]
end
def Zr (m : Int) : Setoid Int := ⟨fun a b => a % m = b % m, fun _ => rfl, fun h => h.symm, fun h k => h.trans k⟩
def Zm (m : Int) : Type := Quotient (Zr m)
namespace Zm
variable {m : Int}
def mk (m : Int) (a : Int) : Zm m := Quotient.mk (Zr m) a
theorem wO {a b : Int} : mk m a = mk m b ↔ a % m = b % m := ⟨fun h => Quotient.exact h, fun h => Quotient.sound h⟩
def val (a : Zm m) : Int := Quotient.lift (fun a => a % m) (fun _ _ h => h) a
theorem val_mk (a : Int) : (mk m a).val = a % m := rfl
theorem mk_val (a : Zm m) : mk m a.val = a := Quotient.inductionOn a (fun _ => Quotient.sound (Int.emod_emod_of_dvd _ (Int.dvd_refl _)))
theorem val_inj {a b : Zm m} (h : a.val = b.val) : a = b := by rw [← mk_val a, ← mk_val b, h]
theorem ind {p : Zm m → Prop} (h : ∀ a, p (mk m a)) (a : Zm m) : p a := Quotient.inductionOn a h
instance : CR (Zm m) where
 add a b := Quotient.lift₂ (fun a b => mk m (a + b)) (fun a b a' b' (h : a % m = a' % m) (k : b % m = b' % m) => wO.2 (by rw [Int.add_emod, h, k, ← Int.add_emod])) a b
 mul a b := Quotient.lift₂ (fun a b => mk m (a * b)) (fun a b a' b' (h : a % m = a' % m) (k : b % m = b' % m) => wO.2 (by rw [Int.mul_emod, h, k, ← Int.mul_emod])) a b
 neg a := Quotient.lift (fun a => mk m (-a)) (fun a b h => wO.2 <| by
   have h' : a % m = b % m := h
   rw [Int.emod_eq_emod_iff_emod_sub_eq_zero] at h' ⊢
   rw [show -a - -b = -(a - b) by omega]
   exact Int.emod_eq_zero_of_dvd ((Int.dvd_neg).2 (Int.dvd_of_emod_eq_zero h'))) a
 zero := mk m 0
 one := mk m 1
 add_assoc := by refine ind fun a => ind fun b => ind fun c => ?_; exact congrArg (mk m) (Int.add_assoc a b c)
 add_comm := by refine ind fun a => ind fun b => ?_; exact congrArg (mk m) (Int.add_comm a b)
 zero_add := by refine ind fun a => ?_; exact congrArg (mk m) (Int.zero_add a)
 neg_add := by refine ind fun a => ?_; exact congrArg (mk m) (Int.add_left_neg a)
 mul_assoc := by refine ind fun a => ind fun b => ind fun c => ?_; exact congrArg (mk m) (Int.mul_assoc a b c)
 mul_comm := by refine ind fun a => ind fun b => ?_; exact congrArg (mk m) (Int.mul_comm a b)
 one_mul := by refine ind fun a => ?_; exact congrArg (mk m) (Int.one_mul a)
 mul_add := by refine ind fun a => ind fun b => ind fun c => ?_; exact congrArg (mk m) (Int.mul_add a b c)
theorem mk_add (a b : Int) : mk m (a + b) = mk m a + mk m b := rfl
theorem mk_mul (a b : Int) : mk m (a * b) = mk m a * mk m b := rfl
theorem mk_neg (a : Int) : mk m (-a) = -mk m a := rfl
theorem mk_sub (a b : Int) : mk m (a - b) = mk m a - mk m b := by rw [Int.sub_eq_add_neg, mk_add, mk_neg]; rfl
theorem mk_zero : mk m 0 = 0 := rfl
theorem mk_one : mk m 1 = 1 := rfl
theorem mk_self : mk m m = 0 := wO.2 (by simp)
theorem val_range (hm : 0 < m) (a : Zm m) : 0 ≤ a.val ∧ a.val < m := by
 revert a
 refine ind (fun a => ?_)
 rw [val_mk]; exact ⟨Int.emod_nonneg _ (by omega), Int.emod_lt_of_pos _ hm⟩
theorem val_of_range {a : Int} (h : 0 ≤ a ∧ a < m) : (mk m a).val = a := by rw [val_mk]; exact Int.emod_eq_of_lt h.1 h.2
end Zm
end Go.Fg
namespace Go.Fg
open CR
namespace Zm
variable {m : Int}
theorem val_add (a b : Zm m) : (a + b).val = (a.val + b.val) % m := by
 rw [← val_mk, mk_add, mk_val, mk_val]
theorem val_neg (a : Zm m) : (-a).val = (-a.val) % m := by
 rw [← val_mk, mk_neg, mk_val]
theorem val_zero : (0 : Zm m).val = 0 := by show (mk m 0).val = 0; rw [val_mk]; simp
theorem val_one (h : 1 < m) : (1 : Zm m).val = 1 := val_of_range (a := 1) ⟨by omega, h⟩
theorem emod_val {e : Int} {z : Zm m} (h : mk m e = z) : e % m = z.val := by rw [← h, val_mk]
theorem tmod_val {e : Int} {z : Zm m} (h0 : 0 ≤ e) (h : mk m e = z) : e.tmod m = z.val := by
 rw [Int.tmod_eq_emod_of_nonneg h0, emod_val h]
theorem mk_eq_zero {a : Int} : mk m a = 0 ↔ a % m = 0 := by
 rw [← mk_zero, wO]; simp
theorem val_eq_zero {a : Zm m} : a.val = 0 ↔ a = 0 := by
 constructor
 · intro h; rw [← mk_val a, h]; rfl
 · rintro rfl; exact val_zero
end Zm
namespace PS
variable {R : Type}
def upd (a : PS R) (k : Nat) (v : R) : PS R := ⟨fun n => if n = k then v else a.c n⟩
def mix (k : Nat) (a b : PS R) : PS R := ⟨fun n => if n < k then a.c n else b.c n⟩
theorem cL (a : PS R) (k : Nat) (v : R) (n : Nat) : (a.upd k v).c n = if n = k then v else a.c n := rfl
theorem eG (k : Nat) (a b : PS R) (n : Nat) : (mix k a b).c n = if n < k then a.c n else b.c n := rfl
theorem sS (k : Nat) (a b : PS R) : mix (k + 1) a b = (mix k a b).upd k (a.c k) := by
 ext n; simp only [cL, eG]
 by_cases h : n = k
 · subst h; simp
 · rw [if_neg h]; by_cases h2 : n < k
   · rw [if_pos h2, if_pos (by omega)]
   · rw [if_neg h2, if_neg (by omega)]
theorem kI (a b : PS R) : mix 0 a b = b := by ext n; simp [eG]
def Ag (n : Nat) (a b : PS R) : Prop := ∀ i, i < n → a.c i = b.c i
theorem Ag.rfl {n : Nat} {a : PS R} : Ag n a a := fun _ _ => Eq.refl _
theorem Ag.symm {n : Nat} {a b : PS R} (h : Ag n a b) : Ag n b a := fun i hi => (h i hi).symm
theorem Ag.trans {n : Nat} {a b c : PS R} (h : Ag n a b) (k : Ag n b c) : Ag n a c := fun i hi => (h i hi).trans (k i hi)
theorem Ag.le {n k : Nat} {a b : PS R} (h : Ag n a b) (hk : k ≤ n) : Ag k a b := fun i hi => h i (by omega)
theorem Ag.of_eq {n : Nat} {a b : PS R} (h : a = b) : Ag n a b := h ▸ Ag.rfl
variable [CR R]
theorem Ag.add {n : Nat} {a b c d : PS R} (h : Ag n a b) (k : Ag n c d) : Ag n (a + c) (b + d) := fun i hi => by rw [add_c, add_c, h i hi, k i hi]
theorem Ag.mul {n : Nat} {a b c d : PS R} (h : Ag n a b) (k : Ag n c d) : Ag n (a * c) (b * d) := fun i hi => by
 rw [cN, cN]
 exact bS (fun j hj => by rw [h j (by omega), k (i - j) (by omega)])
theorem Ag.pw {n : Nat} {a b : PS R} (h : Ag n a b) (k : Nat) : Ag n (pw a k) (pw b k) := by
 induction k with
 | zero => exact Ag.rfl
 | succ k ih => exact ih.mul h
theorem Ag.sm {n k : Nat} {f g : Nat → PS R} (h : ∀ i, i < k → Ag n (f i) (g i)) : Ag n (sm k f) (sm k g) := fun i hi => by
 rw [sm_c, sm_c]; exact bS (fun j hj => h j hj i hi)
end PS
open PS
variable {m : Int}
def L (n : Nat) (a : PS (Zm m)) : List Int := (List.range n).map fun i => (a.c i).val
def rd (m : Int) (l : List Int) : PS (Zm m) := ⟨fun n => Zm.mk m (l.getD n 0)⟩
def Nums (m : Int) (l : List Int) : Prop := ∀ x ∈ l, 0 ≤ x ∧ x < m
theorem rd_c (l : List Int) (n : Nat) : (rd m l).c n = Zm.mk m (l.getD n 0) := rfl
@[simp] theorem aV (n : Nat) (a : PS (Zm m)) : (L n a).length = n := by simp [L]
theorem nE {n i : Nat} (a : PS (Zm m)) (h : i < n) : (L n a).getD i 0 = (a.c i).val := by simp [L, h]
theorem lU {n i : Nat} (a : PS (Zm m)) (h : i < (L n a).length) : (L n a)[i] = (a.c i).val := by simp [L]
theorem dW {n : Nat} {a b : PS (Zm m)} (h : Ag n a b) : L n a = L n b := by
 refine List.map_congr_left (fun i hi => ?_)
 rw [h i (by simpa using hi)]
theorem Ar3 {n : Nat} {a b : PS (Zm m)} (h : L n a = L n b) : Ag n a b := fun i hi => by
 have := congrArg (fun l => l.getD i 0) h
 simp only [nE _ hi] at this
 exact Zm.val_inj this
theorem vF {n i : Nat} (a : PS (Zm m)) (v : Zm m) : (L n a).set i v.val = L n (a.upd i v) := by
 refine List.ext_getElem (by simp) (fun k h1 h2 => ?_)
 rw [List.getElem_set, lU, lU, cL]
 by_cases h : i = k
 · rw [if_pos h, if_pos h.symm]
 · rw [if_neg h, if_neg (fun e => h e.symm)]
theorem jT {l : List Int} (h : Nums m l) : L l.length (rd m l) = l := by
 refine List.ext_getElem (by simp) (fun k h1 h2 => ?_)
 rw [lU, rd_c]
 have e : l.getD k 0 = l[k] := by simp [h2]
 rw [e]
 exact Zm.val_of_range (h _ (List.getElem_mem h2))
theorem wR (n : Nat) (a : PS (Zm m)) : Ag n (rd m (L n a)) a := fun i hi => by rw [rd_c, nE _ hi, Zm.mk_val]
theorem fT (n : Nat) : L n (0 : PS (Zm m)) = List.replicate n 0 := by
 refine List.ext_getElem (by simp) (fun k h1 h2 => ?_)
 rw [lU, lT, Zm.val_zero]; simp
theorem Adb {n k : Nat} (a : PS (Zm m)) (h : k ≤ n) : (L n a).take k = L k a := by
 refine List.ext_getElem (by simp; omega) (fun i h1 h2 => ?_)
 rw [List.getElem_take, lU, lU]
theorem As8 (n : Nat) (a : PS (Zm m)) : L n a ++ [(a.c n).val] = L (n + 1) a := by
 simp [L, List.range_succ]
theorem eW {n i : Nat} {a b : PS (Zm m)} {x : Int} (v : Zm m) (hx : x = v.val) (h : Ag n (a.upd i v) b) : (L n a).set i x = L n b := by
 subst hx; rw [vF, dW h]
theorem nU {n : Nat} {a : PS (Zm m)} {x : Int} (hx : x = (a.c n).val) : L n a ++ [x] = L (n + 1) a := by
 subst hx; exact As8 n a
theorem Ap8 {n : Nat} {a b : PS (Zm m)} {x : Int} (h : Ag n a b) (hx : x = (b.c n).val) : L n a ++ [x] = L (n + 1) b := by
 rw [dW h]; exact nU hx
end Go.Fg
namespace Go.Fg
open CR PS
variable {m : Int}
def Tb (n : Nat) (f : PS (PS (Zm m))) : List (List Int) := (List.range n).map fun i => L (n - i) (f.c i)
@[simp] theorem aT (n : Nat) (f : PS (PS (Zm m))) : (Tb n f).length = n := by simp [Tb]
theorem lO {n i : Nat} (f : PS (PS (Zm m))) (h : i < n) : (Tb n f).getD i [] = L (n - i) (f.c i) := by simp [Tb, h]
theorem L6 {n i : Nat} (f : PS (PS (Zm m))) (h : i < (Tb n f).length) : (Tb n f)[i] = L (n - i) (f.c i) := by simp [Tb]
def cC (n : Nat) (f g : PS (PS (Zm m))) : Prop := ∀ i j, i + j < n → (f.c i).c j = (g.c i).c j
theorem kA {n : Nat} {f g : PS (PS (Zm m))} (h : cC n f g) : Tb n f = Tb n g := by
 refine List.map_congr_left (fun i hi => ?_)
 have : i < n := by simpa using hi
 exact dW (fun j hj => h i j (by omega))
def aZ (m : Int) (t : List (List Int)) : PS (PS (Zm m)) := ⟨fun i => rd m (t.getD i [])⟩
def Ae2 (m : Int) (t : List (List Int)) : Prop := ∀ i, i < t.length → (t.getD i []).length = t.length - i ∧ Nums m (t.getD i [])
theorem Agr {t : List (List Int)} (h : Ae2 m t) : Tb t.length (aZ m t) = t := by
 refine List.ext_getElem (by simp) (fun i h1 h2 => ?_)
 obtain ⟨h3, h4⟩ := h i h2
 rw [L6]
 show L (t.length - i) (rd m (t.getD i [])) = _
 rw [← h3, jT h4]
 simp [h2]
end Go.Fg
namespace Go.Fg
open CR PS
namespace PS
variable {R : Type} [CR R]
theorem gR {f : PS R} (h0 : f.c 0 = 0) : ∀ (k n : Nat), n < k → (pw f k).c n = 0 := by
 intro k
 induction k with
 | zero => intro n h; omega
 | succ k ih =>
   intro n h
   rw [cV, cN]
   refine dH (fun i hi => ?_)
   by_cases e : i < k
   · rw [ih i e, zero_mul]
   · rw [show n - i = 0 by omega, h0, mul_zero]
def fR (a f : PS R) (k n : Nat) : PS R := sm n (fun i => C (a.c (k + i)) * pw f i)
theorem Anr (a f : PS R) (k n : Nat) : fR a f (k + 1) n * f + C (a.c k) = fR a f k (n + 1) := by
 unfold fR
 rw [oW, jK, add_comm]
 congr 1
 · rw [pw_zero, mul_one]; rfl
 · refine bS (fun i _ => ?_)
   rw [cV, mul_assoc, show k + 1 + i = k + (i + 1) by omega]
def dG (a f : PS R) : PS R := ⟨fun n => (fR a f 0 (n + 1)).c n⟩
theorem W3 {a f : PS R} (h0 : f.c 0 = 0) {k n N : Nat} (h : n < N) : (fR a f k N).c n = (fR a f k (n + 1)).c n := by
 unfold fR
 rw [sm_c, sm_c]
 refine uA (by omega) (fun i h1 h2 => ?_)
 rw [C_mul, gR h0 i n (by omega), mul_zero]
theorem Z0 {a f : PS R} (h0 : f.c 0 = 0) (N : Nat) : Ag N (fR a f 0 N) (dG a f) := fun _ hi => W3 h0 hi
theorem Anl {a b f g : PS R} {k n N : Nat} (h : ∀ i, k ≤ i → i < k + n → a.c i = b.c i) (h2 : Ag N f g) : Ag N (fR a f k n) (fR b g k n) :=
 Ag.sm (fun i hi => by rw [h (k + i) (by omega) (by omega)]; exact Ag.rfl.mul (h2.pw i))
theorem zU {a b f g : PS R} {N : Nat} (h : Ag N a b) (h2 : Ag N f g) : Ag N (dG a f) (dG b g) := fun i hi =>
 Anl (k := 0) (n := i + 1) (N := i + 1) (fun j h1 h3 => h j (by omega)) (h2.le (by omega)) i (by omega)
def tP (a b : PS R) (i : Nat) : PS R := ⟨fun k => sm (min i (k + 1)) (fun q => a.c q * b.c (k - q))⟩
theorem M2 (a b : PS R) : tP a b 0 = 0 := by ext k; show sm (min 0 (k + 1)) (fun q => a.c q * b.c (k - q)) = 0; rw [Nat.zero_min]; rfl
theorem E1 (a b : PS R) {n i : Nat} (h : n ≤ i) : Ag n (tP a b i) (a * b) := fun k hk => by
 show sm (min i (k + 1)) (fun q => a.c q * b.c (k - q)) = _; rw [Nat.min_eq_right (by omega)]; rfl
theorem Ags (a b : PS R) (i : Nat) {k : Nat} (h : k < i) : (tP a b (i + 1)).c k = (tP a b i).c k := by
 show sm (min (i + 1) (k + 1)) (fun q => a.c q * b.c (k - q)) = sm (min i (k + 1)) (fun q => a.c q * b.c (k - q)); rw [Nat.min_eq_right (by omega), Nat.min_eq_right (by omega)]
theorem Ach (a b : PS R) (i j : Nat) : (tP a b (i + 1)).c (i + j) = (tP a b i).c (i + j) + a.c i * b.c j := by
 show sm (min (i + 1) (i + j + 1)) (fun q => a.c q * b.c (i + j - q)) = sm (min i (i + j + 1)) (fun q => a.c q * b.c (i + j - q)) + _
 rw [Nat.min_eq_left (by omega), Nat.min_eq_left (by omega), cB, show i + j - i = j by omega]
def tQ (a b : PS R) (i j : Nat) : PS R := mix (i + j) (tP a b (i + 1)) (tP a b i)
theorem N9 (a b : PS R) (i : Nat) : tQ a b i 0 = tP a b i := by
 ext k; unfold tQ; rw [eG]; split
 · exact Ags a b i (by omega)
 · rfl
theorem Ail (a b : PS R) (i j : Nat) : (tQ a b i j).c (i + j) = (tP a b i).c (i + j) := by unfold tQ; rw [eG, if_neg (by omega)]
theorem O6 (a b : PS R) (i j : Nat) : tQ a b i (j + 1) = (tQ a b i j).upd (i + j) ((tQ a b i j).c (i + j) + a.c i * b.c j) := by
 rw [Ail, ← Ach]; exact sS _ _ _
theorem A1 (a b : PS R) {n i j : Nat} (h : n ≤ i + j) : Ag n (tQ a b i j) (tP a b (i + 1)) := fun k hk => by unfold tQ; rw [eG, if_pos (by omega)]
theorem Anh (a b : PS R) (i j : Nat) (h : a.c i = 0) : tQ a b i j = tP a b (i + 1) := by
 ext k; unfold tQ; rw [eG]; split
 · rfl
 · rename_i hk
   rw [show k = i + (k - i) by omega, Ach, h, zero_mul, add_zero]
def lJ (u : R) (a : PS R) : Nat → PS R
 | 0 => C u
 | n + 1 => (lJ u a n).upd (n + 1) (-((a * lJ u a n).c (n + 1) * u))
def inv (u : R) (a : PS R) : PS R := ⟨fun n => (lJ u a n).c n⟩
theorem Ai6 (u : R) (a : PS R) : ∀ (n i : Nat), n < i → (lJ u a n).c i = 0 := by
 intro n
 induction n with
 | zero => intro i h; show (C u).c i = 0; rw [dN, if_neg (by omega)]
 | succ n ih => intro i h; show ((lJ u a n).upd _ _).c i = 0; rw [cL, if_neg (by omega), ih i (by omega)]
theorem Aab (u : R) (a : PS R) : ∀ (n i : Nat), i ≤ n → (lJ u a n).c i = (inv u a).c i := by
 intro n
 induction n with
 | zero => intro i h; rw [show i = 0 by omega]; rfl
 | succ n ih =>
   intro i h
   rcases Nat.lt_or_ge n i with h' | h'
   · rw [show i = n + 1 by omega]; rfl
   · rw [← ih i h']; show ((lJ u a n).upd _ _).c i = _; rw [cL, if_neg (by omega)]
theorem Asq (u : R) (a : PS R) (n : Nat) : Ag (n + 1) (lJ u a n) (inv u a) := fun i hi => Aab u a n i (by omega)
theorem An7 (u : R) (a : PS R) (n : Nat) : (inv u a).c (n + 1) = -((a * lJ u a n).c (n + 1) * u) := by
 show ((lJ u a n).upd _ _).c (n + 1) = _
 rw [cL, if_pos rfl]
theorem Aqs (u : R) (a : PS R) (n : Nat) : (a * lJ u a n).c (n + 1) = sm (n + 1) (fun i => a.c (i + 1) * (inv u a).c (n - i)) := by
 rw [cN, oW, Ai6 u a n _ (by omega), mul_zero, zero_add]
 refine bS (fun i hi => ?_)
 rw [show n + 1 - (i + 1) = n - i by omega, Aab u a n _ (by omega)]
def lF (u : R) (a : PS R) : Nat → PS R
 | 0 => 0
 | 1 => (0 : PS R).upd 1 u
 | n + 2 => (lF u a (n + 1)).upd (n + 2) (-((dG a (lF u a (n + 1))).c (n + 2) * u))
def rev (u : R) (a : PS R) : PS R := ⟨fun n => (lF u a n).c n⟩
theorem J5 (u : R) (a : PS R) (n : Nat) (h : 1 ≤ n) : lF u a (n + 1) = (lF u a n).upd (n + 1) (-((dG a (lF u a n)).c (n + 1) * u)) := by
 cases n with
 | zero => omega
 | succ n => rfl
theorem Asy (u : R) (a : PS R) : ∀ (n i : Nat), n < i → (lF u a n).c i = 0 := by
 intro n
 induction n with
 | zero => intro i h; rfl
 | succ n ih =>
   intro i h
   cases n with
   | zero => show ((0 : PS R).upd 1 u).c i = 0; rw [cL, if_neg (by omega)]; rfl
   | succ n => rw [J5 u a _ (by omega), cL, if_neg (by omega), ih i (by omega)]
theorem Adx (u : R) (a : PS R) : ∀ (n i : Nat), i ≤ n → (lF u a n).c i = (rev u a).c i := by
 intro n
 induction n with
 | zero => intro i h; rw [show i = 0 by omega]; rfl
 | succ n ih =>
   intro i h
   rcases Nat.lt_or_ge n i with h' | h'
   · rw [show i = n + 1 by omega]; rfl
   · rw [← ih i h']
     cases n with
     | zero => rw [show i = 0 by omega]; show ((0 : PS R).upd 1 u).c 0 = _; rw [cL, if_neg (by omega)]; rfl
     | succ n => rw [J5 u a _ (by omega), cL, if_neg (by omega)]
theorem Arj (u : R) (a : PS R) (n : Nat) : Ag (n + 1) (lF u a n) (rev u a) := fun i hi => Adx u a n i (by omega)
theorem Ahl (u : R) (a : PS R) (n : Nat) : (lF u a n).c 0 = 0 := Adx u a n 0 (by omega)
end PS
end Go.Fg
namespace Go.Fg
open CR
def sg (b : Bool) (n : Nat) : Int := if b then (n : Int) else -(n : Int)
theorem Afb (b : Bool) (n : Nat) : -(n : Int) ≤ sg b n ∧ sg b n ≤ n := by cases b <;> simp [sg] <;> omega
structure Eu where
 r : Nat
 s : Nat
 x : Nat
 y : Nat
 b : Bool
namespace Eu
def next (e : Eu) : Eu := ⟨e.s, e.r % e.s, e.y, e.x + e.r / e.s * e.y, !e.b⟩
def X (e : Eu) : Int := sg e.b e.x
def Y (e : Eu) : Int := sg (!e.b) e.y
def Ok (m : Nat) (e : Eu) : Prop := 1 ≤ e.r ∧ e.r * e.y + e.s * e.x = m ∧ e.r ≤ m ∧ e.s ≤ m
theorem next_ok {m : Nat} {e : Eu} (h : e.Ok m) (hs : e.s ≠ 0) : e.next.Ok m := by
 obtain ⟨h1, h2, h3, h4⟩ := h
 refine ⟨by show 1 ≤ e.s; omega, ?_, h4, ?_⟩
 · show e.s * (e.x + e.r / e.s * e.y) + e.r % e.s * e.y = m
   rw [← h2, Nat.mul_add, ← Nat.mul_assoc]
   have : e.r * e.y = e.s * (e.r / e.s) * e.y + e.r % e.s * e.y := by rw [← Nat.add_mul, Nat.div_add_mod]
   omega
 · show e.r % e.s ≤ m
   have := Nat.mod_lt e.r (show e.s > 0 by omega)
   omega
theorem Aoe {m : Nat} {e : Eu} (h : e.Ok m) : e.y ≤ m := by
 obtain ⟨h1, h2, _⟩ := h
 have : e.y ≤ e.r * e.y := Nat.le_mul_of_pos_left _ (by omega)
 omega
theorem x_le {m : Nat} {e : Eu} (h : e.Ok m) (hs : e.s ≠ 0) : e.x ≤ m := by
 obtain ⟨h1, h2, _⟩ := h
 have : e.x ≤ e.s * e.x := Nat.le_mul_of_pos_left _ (by omega)
 omega
theorem qy_le {m : Nat} {e : Eu} (h : e.Ok m) (hs : e.s ≠ 0) : e.r / e.s * e.y ≤ m := by
 have h2 : e.next.y ≤ m := Aoe (next_ok h hs)
 have h3 : e.next.y = e.x + e.r / e.s * e.y := rfl
 omega
theorem next_Y (e : Eu) : e.next.Y = e.X - ((e.r / e.s : Nat) : Int) * e.Y := by
 show sg (!(!e.b)) (e.x + e.r / e.s * e.y) = sg e.b e.x - ((e.r / e.s : Nat) : Int) * sg (!e.b) e.y
 rw [Bool.not_not]
 generalize e.r / e.s = q
 have h1 : ((e.x + q * e.y : Nat) : Int) = (e.x : Int) + (q : Int) * (e.y : Int) := by rw [Int.natCast_add, Int.natCast_mul]
 cases e.b
 · simp only [sg, Bool.not_false, if_true, Bool.false_eq_true, if_false, h1]; omega
 · simp only [sg, Bool.not_true, if_true, Bool.false_eq_true, if_false, h1, Int.mul_neg]; omega
theorem next_s (e : Eu) : (e.next.s : Int) = (e.r : Int) - ((e.r / e.s : Nat) : Int) * (e.s : Int) := by
 show ((e.r % e.s : Nat) : Int) = _
 have := Nat.div_add_mod e.r e.s
 have h : (((e.s * (e.r / e.s) + e.r % e.s : Nat)) : Int) = (e.r : Int) := by rw [this]
 rw [Int.natCast_add, Int.natCast_mul] at h
 rw [Int.mul_comm]; omega
theorem next_lt (e : Eu) (hs : e.s ≠ 0) : e.next.s < e.s := Nat.mod_lt _ (by omega)
def run (e : Eu) : Eu := if h : e.s = 0 then e else run e.next
termination_by e.s
decreasing_by exact next_lt e h
theorem run_zero {e : Eu} (h : e.s = 0) : e.run = e := by rw [run, dif_pos h]
theorem run_next {e : Eu} (h : e.s ≠ 0) : e.next.run = e.run := by rw [run.eq_def e, dif_neg h]
end Eu
def rO (m a : Int) : Eu := ⟨m.toNat, (a % m).toNat, 0, 1, false⟩
def aY (m a : Int) : Zm m := Zm.mk m (rO m a).run.X
theorem Aaq {m a : Int} (hm : 2 ≤ m) : (rO m a).Ok m.toNat := by
 have h1 := Int.emod_nonneg a (show m ≠ 0 by omega)
 have h2 := Int.emod_lt_of_pos a (show 0 < m by omega)
 refine ⟨by show 1 ≤ m.toNat; omega, by show m.toNat * 1 + (a % m).toNat * 0 = m.toNat; omega, Nat.le_refl _, by show (a % m).toNat ≤ m.toNat; omega⟩
end Go.Fg
namespace Go.Fg
open CR PS
section
variable {R : Type} [CR R]
def mono (n : Nat) (c : R) : PS R := ⟨fun i => if i = n then c else 0⟩
theorem cK (n : Nat) (c : R) (i : Nat) : (mono n c).c i = if i = n then c else 0 := rfl
theorem Ao2 (n k : Nat) (c d : R) : mono n c * mono k d = mono (n + k) (c * d) := by
 ext i
 rw [cN, cK]
 by_cases h : i = n + k
 · subst h
   rw [if_pos rfl, eQ n (by omega) (fun j _ hj => by rw [cK, if_neg hj, zero_mul]), cK, if_pos rfl, cK, if_pos (by omega)]
 · rw [if_neg h]
   refine dH (fun j hj => ?_)
   rw [cK, cK]
   by_cases h1 : j = n
   · rw [if_neg (show ¬ i - j = k by omega), mul_zero]
   · rw [if_neg h1, zero_mul]
theorem rE (n : Nat) (c : R) (k : Nat) : pw (mono n c) k = mono (k * n) (pw c k) := by
 induction k with
 | zero => ext i; rw [pw_zero, one_c, cK]; simp; rfl
 | succ k ih => rw [cV, ih, Ao2, cV, Nat.succ_mul]
end
end Go.Fg
namespace Go.Fg
open CR PS
section
variable {R : Type} [CR R]
theorem Aao (n : Nat) : mono n (0 : R) = 0 := by ext i; rw [cK]; split <;> rfl
theorem F8 (i : Nat) (p : R) (g : PS R) (a : Nat) : (mono i p * g).c a = if a < i then 0 else p * g.c (a - i) := by
 rw [cN]
 by_cases h : a < i
 · rw [if_pos h]
   exact dH (fun j hj => by rw [cK, if_neg (by omega), zero_mul])
 · rw [if_neg h, eQ i (by omega) (fun j _ hj => by rw [cK, if_neg hj, zero_mul]), cK, if_pos rfl]
def trunc (f : PS (PS R)) (i j : Nat) : PS (PS R) := (mix i f 0).upd i (mix j (f.c i) 0)
theorem Ao4 (f : PS (PS R)) : trunc f 0 0 = 0 := by
 ext a b
 show (if a = 0 then mix 0 (f.c 0) 0 else if a < 0 then f.c a else (0 : PS (PS R)).c a).c b = 0
 split
 · rw [kI]; rfl
 · rw [if_neg (by omega)]; rfl
theorem oR (f : PS (PS R)) (i j a b : Nat) : ((trunc f i j).c a).c b = if a < i ∨ (a = i ∧ b < j) then (f.c a).c b else 0 := by
 unfold trunc
 rw [cL]
 by_cases h : a = i
 · subst h
   rw [if_pos rfl, eG]
   by_cases h2 : b < j
   · rw [if_pos h2, if_pos (.inr ⟨rfl, h2⟩)]
   · rw [if_neg h2, if_neg (by omega)]; rfl
 · rw [if_neg h, eG]
   by_cases h2 : a < i
   · rw [if_pos h2, if_pos (.inl h2)]
   · rw [if_neg h2, if_neg (by omega)]; rfl
theorem Y1 (f : PS (PS R)) (i j : Nat) : trunc f i (j + 1) = trunc f i j + mono i (mono j ((f.c i).c j)) := by
 ext a b
 rw [add_c, add_c, oR, oR, cK]
 by_cases h : a = i
 · subst h
   rw [if_pos rfl, cK]
   by_cases h2 : b = j
   · subst h2
     rw [if_pos rfl, if_pos (by omega), if_neg (by omega), zero_add]
   · rw [if_neg h2, add_zero]
     by_cases h3 : b < j
     · rw [if_pos (by omega), if_pos (by omega)]
     · rw [if_neg (by omega), if_neg (by omega)]
 · rw [if_neg h, lT, add_zero]
   by_cases h3 : a < i
   · rw [if_pos (by omega), if_pos (by omega)]
   · rw [if_neg (by omega), if_neg (by omega)]
theorem Ahg (f : PS (PS R)) (i j : Nat) (h : (f.c i).c j = 0) : trunc f i (j + 1) = trunc f i j := by
 rw [Y1, h, Aao, Aao, add_zero]
def pP (f g : PS (PS R)) (i j : Nat) : PS (PS R) := trunc f i j * g
def pQ (f g : PS (PS R)) (i j k l : Nat) : PS (PS R) := (mix (i + k) (pP f g i (j + 1)) (pP f g i j)).upd (i + k) (mix (j + l) ((pP f g i (j + 1)).c (i + k)) ((pP f g i j).c (i + k)))
theorem yO (f g : PS (PS R)) : pP f g 0 0 = 0 := by unfold pP; rw [Ao4, zero_mul]
theorem P1 (f g : PS (PS R)) (i j : Nat) (h : (f.c i).c j = 0) : pP f g i (j + 1) = pP f g i j := by unfold pP; rw [Ahg f i j h]
theorem I3 (f g : PS (PS R)) (i j a b : Nat) : ((pP f g i (j + 1)).c a).c b = ((pP f g i j).c a).c b + if a < i then 0 else if b < j then 0 else (f.c i).c j * (g.c (a - i)).c (b - j) := by
 unfold pP
 rw [Y1, add_mul, add_c, add_c, F8]
 congr 1
 split
 · rfl
 · rw [F8]
theorem iO (f g : PS (PS R)) (i j k l a b : Nat) : ((pQ f g i j k l).c a).c b = if a < i + k ∨ (a = i + k ∧ b < j + l) then ((pP f g i (j + 1)).c a).c b else ((pP f g i j).c a).c b := by
 unfold pQ
 rw [cL]
 by_cases h : a = i + k
 · rw [if_pos h, h, eG]
   by_cases h2 : b < j + l
   · rw [if_pos h2, if_pos (.inr ⟨rfl, h2⟩)]
   · rw [if_neg h2, if_neg (by omega)]
 · rw [if_neg h, eG]
   by_cases h2 : a < i + k
   · rw [if_pos h2, if_pos (.inl h2)]
   · rw [if_neg h2, if_neg (by omega)]
theorem zY (f g : PS (PS R)) (i j : Nat) : pQ f g i j 0 0 = pP f g i j := by
 ext a b
 rw [iO]
 split
 · rw [I3]
   by_cases h : a < i
   · rw [if_pos h, add_zero]
   · rw [if_neg h, if_pos (by omega), add_zero]
 · rfl
theorem Alj (f g : PS (PS R)) (i j k l : Nat) : ((pQ f g i j k l).c (i + k)).c (j + l) = ((pP f g i j).c (i + k)).c (j + l) := by
 rw [iO, if_neg (by omega)]
theorem B2 (f g : PS (PS R)) (i j k l : Nat) : pQ f g i j k (l + 1) = (pQ f g i j k l).upd (i + k) (((pQ f g i j k l).c (i + k)).upd (j + l) (((pQ f g i j k l).c (i + k)).c (j + l) + (f.c i).c j * (g.c k).c l)) := by
 ext a b
 rw [cL]
 by_cases h : a = i + k
 · rw [if_pos h, cL]
   by_cases h2 : b = j + l
   · subst h h2
     rw [if_pos rfl, Alj, iO, if_pos (by omega), I3, if_neg (by omega), if_neg (by omega), show i + k - i = k by omega, show j + l - j = l by omega]
   · rw [if_neg h2, ← h, iO, iO]
     by_cases h3 : b < j + l
     · rw [if_pos (by omega), if_pos (by omega)]
     · rw [if_neg (by omega), if_neg (by omega)]
 · rw [if_neg h, iO, iO]
   by_cases h3 : a < i + k
   · rw [if_pos (by omega), if_pos (by omega)]
   · rw [if_neg (by omega), if_neg (by omega)]
theorem I9 (f g : PS (PS R)) (i j a b : Nat) (h : b < j) : ((pP f g i (j + 1)).c a).c b = ((pP f g i j).c a).c b := by
 rw [I3, if_pos h]
 split <;> exact add_zero _
def bC (a : PS R) (f : PS (PS R)) (k n : Nat) : PS (PS R) := sm n (fun i => C (C (a.c (k + i))) * pw f i)
theorem Ank (a : PS R) (f : PS (PS R)) (k n : Nat) : bC a f (k + 1) n * f + C (C (a.c k)) = bC a f k (n + 1) := by
 unfold bC
 rw [oW, jK, add_comm]
 congr 1
 · rw [pw_zero, mul_one]; rfl
 · refine bS (fun i _ => ?_)
   rw [cV, mul_assoc, show k + 1 + i = k + (i + 1) by omega]
def dA (a : PS R) : PS (PS R) := ⟨fun i => C (a.c i)⟩
def kH (a : PS R) : PS (PS R) := C a
theorem Anv (a : PS R) (i j : Nat) : ((dA a).c i).c j = if j = 0 then a.c i else 0 := rfl
theorem Ab4 : dA (0 : PS R) = 0 := by ext i j; rw [Anv]; split <;> rfl
def pl (v : Nat → Nat → R) : PS (PS R) := ⟨fun i => ⟨fun j => v i j⟩⟩
theorem tF {f g : PS (PS R)} (h : ∀ i j, (f.c i).c j = (g.c i).c j) : f = g := by ext i j; exact h i j
end
variable {m : Int}
theorem cC.rfl {n : Nat} {f : PS (PS (Zm m))} : cC n f f := fun _ _ _ => Eq.refl _
theorem cC.of_eq {n : Nat} {f g : PS (PS (Zm m))} (h : f = g) : cC n f g := h ▸ cC.rfl
theorem cC.mul {n : Nat} {f g h k : PS (PS (Zm m))} (h1 : cC n f g) (h2 : cC n h k) : cC n (f * h) (g * k) := fun i j hij => by
 rw [cN, cN, sm_c, sm_c]
 refine bS (fun a ha => ?_)
 rw [cN, cN]
 exact bS (fun b hb => by rw [h1 a b (by omega), h2 (i - a) (j - b) (by omega)])
theorem As5 (f : PS (PS (Zm m))) {n i j : Nat} (h : n ≤ i + j) : cC n (trunc f i j) (trunc f (i + 1) 0) := fun a b hab => by
 rw [oR, oR]
 by_cases h1 : a < i + 1
 · rw [if_pos (by omega), if_pos (by omega)]
 · rw [if_neg (by omega), if_neg (by omega)]
theorem Aj7 (f : PS (PS (Zm m))) {n i : Nat} (h : n ≤ i) : cC n (trunc f i 0) f := fun a b hab => by
 rw [oR, if_pos (by omega)]
theorem Afx (f g : PS (PS (Zm m))) {n i j : Nat} (h : n ≤ i + j) : cC n (pP f g i j) (pP f g (i + 1) 0) := (As5 f h).mul cC.rfl
theorem Aee (f g : PS (PS (Zm m))) {n i : Nat} (h : n ≤ i) : cC n (pP f g i 0) (f * g) := (Aj7 f h).mul cC.rfl
theorem Adt (f g : PS (PS (Zm m))) {n i j k l : Nat} (h : n ≤ i + j + k + l) : cC n (pQ f g i j k l) (pQ f g i j (k + 1) 0) := fun a b hab => by
 rw [iO, iO]
 by_cases h1 : a < i + k + 1
 · rw [if_pos (by omega), if_pos (by omega)]
 · rw [if_neg (by omega)]
   split
   · exact (I9 f g i j a b (by omega)).symm
   · exact Eq.refl _
theorem Ada (f g : PS (PS (Zm m))) {n i j k : Nat} (h : n ≤ i + j + k) : cC n (pQ f g i j k 0) (pP f g i (j + 1)) := fun a b hab => by
 rw [iO]
 split
 · exact Eq.refl _
 · exact (I9 f g i j a b (by omega)).symm
def mR (n k : Nat) (f : PS (PS (Zm m))) : List (List Int) := (List.range k).map fun i => L (n - i) (f.c i)
@[simp] theorem Aom (n k : Nat) (f : PS (PS (Zm m))) : (mR n k f).length = k := by simp [mR]
theorem Ag5 (n : Nat) (f : PS (PS (Zm m))) : mR n n f = Tb n f := Eq.refl _
theorem Asi (n k : Nat) (f : PS (PS (Zm m))) : mR n k f ++ [L (n - k) (f.c k)] = mR n (k + 1) f := by simp [mR, List.range_succ]
theorem Af9 {n k : Nat} {f : PS (PS (Zm m))} {l : List Int} (h : l = L (n - k) (f.c k)) : mR n k f ++ [l] = mR n (k + 1) f := by subst h; exact Asi n k f
theorem Aof {n i : Nat} (f : PS (PS (Zm m))) (r : PS (Zm m)) (h : i < n) : (Tb n f).set i (L (n - i) r) = Tb n (f.upd i r) := by
 refine List.ext_getElem (by simp) (fun k h1 h2 => ?_)
 rw [List.getElem_set, L6, L6, cL]
 by_cases e : i = k
 · subst e; rw [if_pos (Eq.refl _), if_pos (Eq.refl _)]
 · rw [if_neg e, if_neg (fun x => e x.symm)]
def bT (f : PS (PS (Zm m))) (i j : Nat) (v : Zm m) : PS (PS (Zm m)) := f.upd i ((f.c i).upd j v)
theorem fP (f : PS (PS (Zm m))) (i j : Nat) (v : Zm m) (a b : Nat) : ((bT f i j v).c a).c b = if a = i ∧ b = j then v else (f.c a).c b := by
 unfold bT
 rw [cL]
 by_cases h : a = i
 · subst h
   rw [if_pos (Eq.refl _), cL]
   by_cases h2 : b = j
   · rw [if_pos h2, if_pos ⟨Eq.refl _, h2⟩]
   · rw [if_neg h2, if_neg (fun x => h2 x.2)]
 · rw [if_neg h, if_neg (fun x => h x.1)]
def iP (f g : PS (PS (Zm m))) (i j : Nat) : PS (PS (Zm m)) := ⟨fun a => ⟨fun b => if a < i ∨ (a = i ∧ b < j) then (f.c a).c b else (g.c a).c b⟩⟩
theorem qG (f g : PS (PS (Zm m))) (i j a b : Nat) : ((iP f g i j).c a).c b = if a < i ∨ (a = i ∧ b < j) then (f.c a).c b else (g.c a).c b := Eq.refl _
theorem Abp (f g : PS (PS (Zm m))) : iP f g 0 0 = g := tF (fun a b => by rw [qG, if_neg (by omega)])
theorem Aqb (f g : PS (PS (Zm m))) (i j : Nat) : ((iP f g i j).c i).c j = (g.c i).c j := by rw [qG, if_neg (by omega)]
theorem Ad8 (f g : PS (PS (Zm m))) (i j : Nat) : iP f g i (j + 1) = bT (iP f g i j) i j ((f.c i).c j) := tF (fun a b => by
 rw [fP, qG, qG]
 by_cases h : a = i ∧ b = j
 · rw [if_pos (by omega), if_pos h, h.1, h.2]
 · rw [if_neg h]
   by_cases h2 : a < i ∨ (a = i ∧ b < j)
   · rw [if_pos h2, if_pos (by omega)]
   · rw [if_neg h2, if_neg (by omega)])
end Go.Fg
namespace Go.Fg
open CR PS
variable {m : Int}
end Go.Fg
namespace Go.Fg
open CR PS
def cX : Nat → Nat → Nat
 | _, 0 => 1
 | 0, _ + 1 => 0
 | n + 1, k + 1 => cX n k + cX n (k + 1)
theorem xT (n : Nat) : cX n 0 = 1 := by cases n <;> rfl
theorem E6 (n k : Nat) : cX (n + 1) (k + 1) = cX n k + cX n (k + 1) := rfl
theorem yJ : ∀ {n k : Nat}, n < k → cX n k = 0
 | 0, k + 1, _ => rfl
 | n + 1, k + 1, h => by rw [E6, yJ (by omega), yJ (by omega)]
theorem Af1 : ∀ n : Nat, cX n n = 1
 | 0 => rfl
 | n + 1 => by rw [E6, Af1 n, yJ (by omega)]
variable {m : Int}
def T1 (n k : Nat) : List Int := (List.range k).map fun i => (cX n i : Int)
@[simp] theorem Ap9 (n k : Nat) : (T1 n k).length = k := by simp [T1]
end Go.Fg
namespace Go.Fg
open CR PS
variable {m : Int}
theorem uG (f : PS (PS (Zm m))) (i : Nat) : (mix i f 0).upd i (f.c i) = mix (i + 1) f 0 := (sS i f 0).symm
end Go.Fg
