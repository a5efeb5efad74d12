/- Coordinates of curves under a law. -/
import Derived.Test.YthpbaehnkmmkgaaGreatAlg21

namespace Go.Fg
set_option linter.unusedVariables false
set_option linter.unusedSectionVars false
namespace PS
variable {R : Type} [CR R]
def cuP (N : Nat) (f : PS (PS R)) (c : Nat → R) : Nat → PS R
  | 0 => 0
  | k + 1 => evT N f (cuP N f c k) (mono (k + 1) (c k))
def cur (N : Nat) (f : PS (PS R)) (a : PS R) : Nat → PS R
  | 0 => 0
  | k + 1 => evT N f (cur N f a k) (mono (k + 1) (a.c (k + 1) - (cur N f a k).c (k + 1)))
def coo (N : Nat) (f : PS (PS R)) (a : PS R) (k : Nat) : R := a.c (k + 1) - (cur N f a k).c (k + 1)
theorem cuP_coo (N : Nat) (f : PS (PS R)) (a : PS R) : ∀ k, cuP N f (coo N f a) k = cur N f a k
  | 0 => rfl
  | k + 1 => by
    show evT N f (cuP N f (coo N f a) k) _ = evT N f (cur N f a k) _
    rw [cuP_coo N f a k]; rfl
section
variable {f : PS (PS R)} {N : Nat} (L : LwN f N)
include L
end
end PS
end Go.Fg

/- Logarithms of laws: derivatives, substitution into a series, the differential. -/
namespace Go.Fg
set_option linter.unusedVariables false
set_option linter.unusedSectionVars false
section
variable {R : Type} [CR R]
def nc (R : Type) [CR R] : Nat → R
  | 0 => 0
  | n + 1 => nc R n + 1
theorem nc_add (a b : Nat) : nc R (a + b) = nc R a + nc R b := by
  induction b with
  | zero => show nc R a = nc R a + 0; rw [add_zero]
  | succ b ih => show nc R (a + b) + 1 = nc R a + (nc R b + 1); rw [ih, CR.add_assoc]
theorem nc_one : nc R 1 = 1 := by show (0 : R) + 1 = 1; exact CR.zero_add 1
end
namespace PS
variable {R : Type} [CR R]
theorem nc_C (k : Nat) : nc (PS R) k = C (nc R k) := by
  induction k with
  | zero => show (0 : PS R) = C 0; rw [C_zero]
  | succ k ih => show nc (PS R) k + 1 = C (nc R k + 1); rw [ih, ← C_add_C, C_one]
def dS (a : PS R) : PS R := ⟨fun n => nc R (n + 1) * a.c (n + 1)⟩
theorem dS_c (a : PS R) (n : Nat) : (dS a).c n = nc R (n + 1) * a.c (n + 1) := rfl
theorem dS_add (a b : PS R) : dS (a + b) = dS a + dS b := by
  ext n; rw [add_c, dS_c, dS_c, dS_c, add_c, CR.mul_add]
theorem dS_zero : dS (0 : PS R) = 0 := by ext n; rw [dS_c, zero_c, zero_c, Go.Fg.mul_zero]
theorem dS_C (r : R) : dS (C r) = 0 := by ext n; rw [dS_c, C_c, if_neg (by omega), zero_c, Go.Fg.mul_zero]
theorem dS_one : dS (1 : PS R) = 0 := by rw [← C_one]; exact dS_C 1
theorem dS_sm (k : Nat) (g : Nat → PS R) : dS (sm k g) = sm k fun i => dS (g i) := by
  induction k with
  | zero => exact dS_zero
  | succ k ih => rw [sm_succ, sm_succ, dS_add, ih]
theorem dS_mul (a b : PS R) : dS (a * b) = dS a * b + a * dS b := by
  ext n
  rw [add_c, dS_c, mul_c, mul_c, mul_c, sm_mul]
  have e : sm (n + 1 + 1) (fun i => nc R (n + 1) * (a.c i * b.c (n + 1 - i))) = sm (n + 1 + 1) (fun i => nc R i * a.c i * b.c (n + 1 - i)) + sm (n + 1 + 1) (fun i => a.c i * (nc R (n + 1 - i) * b.c (n + 1 - i))) := by
    rw [← sm_add]
    refine sm_congr (fun i hi => ?_)
    have : nc R (n + 1) = nc R i + nc R (n + 1 - i) := by rw [← nc_add, show i + (n + 1 - i) = n + 1 by omega]
    rw [this, Go.Fg.add_mul]
    congr 1 <;> ac_rfl
  rw [e]
  congr 1
  · rw [sm_succ_left (n + 1)]
    show (0 : R) * a.c 0 * _ + _ = _
    rw [Go.Fg.zero_mul, Go.Fg.zero_mul, CR.zero_add]
    exact sm_congr (fun i hi => by rw [dS_c, show n + 1 - (i + 1) = n - i by omega])
  · rw [sm_succ (n + 1), show n + 1 - (n + 1) = 0 by omega]
    show _ + a.c (n + 1) * ((0 : R) * b.c 0) = _
    rw [Go.Fg.zero_mul, Go.Fg.mul_zero, Go.Fg.add_zero]
    exact sm_congr (fun i hi => by rw [dS_c, show n + 1 - i = n - i + 1 by omega])
theorem dS_pw (a : PS R) : ∀ k, dS (Go.Fg.pw a (k + 1)) = nc (PS R) (k + 1) * (Go.Fg.pw a k * dS a)
  | 0 => by
    rw [pw_one, pw_zero, CR.one_mul]
    show _ = (0 + 1 : PS R) * _
    rw [CR.zero_add, CR.one_mul]
  | k + 1 => by
    rw [pw_succ a (k + 1), dS_mul, dS_pw a k]
    show _ = (nc (PS R) (k + 1) + 1) * _
    rw [Go.Fg.add_mul, CR.one_mul, pw_succ a k]
    congr 1
    ac_rfl
section
variable {m : Int}
theorem CC_cc (r : Zm m) (g : PS (PS (Zm m))) (i j : Nat) : ((C (C r) * g).c i).c j = r * (g.c i).c j := by rw [C_mul, C_mul]
theorem Ag2.sm_drop {N n k : Nat} {f : Nat → PS (PS (Zm m))} (hk : n ≤ k) (h : ∀ i, n ≤ i → i < k → Ag2 N (f i) 0) : Ag2 N (Go.Fg.sm k f) (Go.Fg.sm n f) := fun i j hij => by
  rw [sm_c, sm_c, sm_c, sm_c]
  exact sm_ext hk (fun q h1 h2 => by rw [h q h1 h2 i j hij]; rfl)
theorem Ag2.low_pw {N k : Nat} {f : PS (PS (Zm m))} (h0 : (f.c 0).c 0 = 0) (h : N ≤ k) (r : Zm m) : Ag2 N (C (C r) * Go.Fg.pw f k) 0 := fun i j hij => by
  rw [CC_cc, pw_low2 h0 k i j (by omega), Go.Fg.mul_zero]; rfl
theorem comp2N_mul {f : PS (PS (Zm m))} (h0 : (f.c 0).c 0 = 0) (a b : PS (Zm m)) : ∀ N, Ag2 N (comp2N (a * b) f 0 N) (comp2N a f 0 N * comp2N b f 0 N)
  | 0 => fun i j hij => absurd hij (by omega)
  | n + 1 => by
    have e1 : comp2N (a * b) f 0 (n + 1) = Go.Fg.sm (n + 1) fun i => Go.Fg.sm (n - i + 1) fun j => C (C (a.c i * b.c j)) * Go.Fg.pw f (i + j) := by
      rw [← sm_tri]
      unfold comp2N
      refine sm_congr (fun k hk => ?_)
      rw [Nat.zero_add, mul_c, C_sm, C_sm, sm_mul_right]
      exact sm_congr (fun i hi => by rw [show i + (k - i) = k by omega])
    have e2 : comp2N a f 0 (n + 1) * comp2N b f 0 (n + 1) = Go.Fg.sm (n + 1) fun i => Go.Fg.sm (n + 1) fun j => C (C (a.c i * b.c j)) * Go.Fg.pw f (i + j) := by
      unfold comp2N
      rw [sm_mul_right]
      refine sm_congr (fun i _ => ?_)
      rw [sm_mul]
      refine sm_congr (fun j _ => ?_)
      rw [Nat.zero_add, Nat.zero_add, ← C_mul_C, ← C_mul_C, pw_add]
      ac_rfl
    rw [e1, e2]
    exact Ag2.sm (fun i hi => (Ag2.sm_drop (by omega) (fun j h1 h2 => Ag2.low_pw h0 (by omega) _)).symm)
theorem comp2N_le {f : PS (PS (Zm m))} (h0 : (f.c 0).c 0 = 0) (a : PS (Zm m)) {K N : Nat} (h : K ≤ N) : Ag2 K (comp2N a f 0 N) (comp2N a f 0 K) :=
  Ag2.sm_drop h (fun i h1 h2 => Ag2.low_pw h0 (by omega) _)
theorem comp2N_one {f : PS (PS (Zm m))} {N : Nat} (hN : 1 ≤ N) : comp2N 1 f 0 N = 1 := by
  unfold comp2N
  rw [sm_one 0 (by omega) (fun i _ h => by rw [Nat.zero_add, one_c, if_neg h, C_zero, C_zero, Go.Fg.zero_mul]), pw_zero, Go.Fg.mul_one]
  rfl
theorem comp2N_pw {f : PS (PS (Zm m))} (h0 : (f.c 0).c 0 = 0) (a : PS (Zm m)) {N : Nat} (hN : 1 ≤ N) : ∀ k, Ag2 N (comp2N (Go.Fg.pw a k) f 0 N) (Go.Fg.pw (comp2N a f 0 N) k)
  | 0 => Ag2.of_eq (comp2N_one hN)
  | k + 1 => (comp2N_mul h0 _ a N).trans ((comp2N_pw h0 a hN k).mul Ag2.rfl)
theorem comp2N_sm {f : PS (PS (Zm m))} (k : Nat) (u : Nat → PS (Zm m)) (N : Nat) : comp2N (Go.Fg.sm k u) f 0 N = Go.Fg.sm k fun i => comp2N (u i) f 0 N := by
  unfold comp2N
  rw [sm_swap]
  refine sm_congr (fun i _ => ?_)
  rw [sm_c, C_sm, C_sm, sm_mul_right]
theorem comp2N_Cmul {f : PS (PS (Zm m))} (r : Zm m) (a : PS (Zm m)) (N : Nat) : comp2N (C r * a) f 0 N = C (C r) * comp2N a f 0 N := by
  unfold comp2N
  rw [sm_mul]
  refine sm_congr (fun i _ => ?_)
  rw [C_mul, ← C_mul_C, ← C_mul_C, CR.mul_assoc]
theorem comp2N_comp {f : PS (PS (Zm m))} (h0 : (f.c 0).c 0 = 0) (e a : PS (Zm m)) {N : Nat} (hN : 1 ≤ N) : Ag2 N (comp2N (compN e a 0 N) f 0 N) (comp2N e (comp2N a f 0 N) 0 N) := by
  unfold compN
  rw [comp2N_sm]
  refine Ag2.sm (fun i _ => ?_)
  rw [comp2N_Cmul]
  exact Ag2.rfl.mul (comp2N_pw h0 a hN i)
theorem nc_mk (k : Nat) : nc (Zm m) k = Zm.mk m k := by
  induction k with
  | zero => rfl
  | succ k ih => show nc (Zm m) k + 1 = _; rw [ih, ← Zm.mk_one, ← Zm.mk_add]; rfl
theorem pw_X (k : Nat) : Go.Fg.pw (X : PS (Zm m)) k = mono k 1 := by
  have : (X : PS (Zm m)) = mono 1 1 := rfl
  rw [this, pw_mono, one_pw, Nat.mul_one]
end
end PS
end Go.Fg
