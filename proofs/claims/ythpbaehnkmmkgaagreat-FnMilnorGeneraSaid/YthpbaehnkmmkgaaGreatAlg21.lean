/- Commutative groups and their multiples; curves under a law are such a group; the inverse of a law; substitution. -/
import Derived.Test.YthpbaehnkmmkgaaGreatAlg11

set_option linter.unusedVariables false
set_option linter.unusedSimpArgs false
set_option linter.unusedSectionVars false
namespace Go.Fg
open CR
structure AG (A : Type) where
  z : A
  ad : A → A → A
  ng : A → A
  assoc : ∀ a b c, ad (ad a b) c = ad a (ad b c)
  comm : ∀ a b, ad a b = ad b a
  zad : ∀ a, ad z a = a
  nad : ∀ a, ad (ng a) a = z
namespace AG
variable {A : Type} (G : AG A)
def nm : Nat → A → A
  | 0, _ => G.z
  | n + 1, a => G.ad (nm n a) a
theorem nm_z : ∀ n, G.nm n G.z = G.z
  | 0 => rfl
  | n + 1 => by rw [nm, nm_z n, G.zad]
end AG
namespace PS
variable {R : Type} [CR R]
theorem comp_E {N : Nat} (a : PS R) {c : PS R} (hc : c.c 0 = 0) : Ag N (comp a c) (E N (axX a) c) := by
  refine (compN_ag hc N).symm.trans (Ag.of_eq ?_)
  unfold compN E
  exact sm_congr (fun i _ => by rw [Nat.zero_add]; rfl)
theorem comp_mul (N : Nat) (a b : PS R) {c : PS R} (hc : c.c 0 = 0) : Ag N (comp (a * b) c) (comp a c * comp b c) := by
  refine (comp_E _ hc).trans ?_
  rw [axX_mul]
  exact (E_mul _ _ hc).trans ((comp_E a hc).symm.mul (comp_E b hc).symm)
theorem comp_pw {N : Nat} (hN : 1 ≤ N) (a : PS R) {c : PS R} (hc : c.c 0 = 0) : ∀ k, Ag N (comp (Go.Fg.pw a k) c) (Go.Fg.pw (comp a c) k)
  | 0 => (comp_E _ hc).trans (by rw [pw_zero, axX_one, E_one hN]; exact Ag.rfl)
  | k + 1 => (comp_mul N _ a hc).trans ((comp_pw hN a hc k).mul Ag.rfl)
theorem comp_C {N : Nat} (hN : 1 ≤ N) (r : R) {c : PS R} (hc : c.c 0 = 0) : Ag N (comp (C r) c) (C r) := by
  refine (comp_E _ hc).trans (Ag.of_eq ?_)
  unfold E
  rw [sm_one 0 (by omega) (fun i _ hne => by show C ((C r).c i) * _ = 0; rw [C_c, if_neg hne, C_zero, Go.Fg.zero_mul])]
  show C ((C r).c 0) * _ = _
  rw [C_c, if_pos rfl, pw_zero, Go.Fg.mul_one]
theorem comp_sm (N k : Nat) (u : Nat → PS R) {c : PS R} (hc : c.c 0 = 0) : Ag N (comp (Go.Fg.sm k u) c) (Go.Fg.sm k fun i => comp (u i) c) := by
  refine (comp_E _ hc).trans ?_
  rw [axX_sm, E_sm]
  exact Ag.sm (fun i _ => (comp_E (u i) hc).symm)
theorem comp_0 (a c : PS R) : (comp a c).c 0 = a.c 0 := by
  show (compN a c 0 1).c 0 = _
  unfold compN
  rw [sm_succ, sm_zero', CR.zero_add, pw_zero, Go.Fg.mul_one, C_c, if_pos rfl]
theorem X_comp (N : Nat) {c : PS R} (hc : c.c 0 = 0) : Ag N (comp X c) c := by
  cases N with
  | zero => exact fun i hi => absurd hi (by omega)
  | succ N =>
    cases N with
    | zero => exact fun i hi => by rw [show i = 0 by omega, comp_0, hc]; rfl
    | succ N =>
      refine (comp_E _ hc).trans (Ag.of_eq ?_)
      unfold E
      rw [sm_one 1 (by omega) (fun i _ hne => by show C (X.c i) * _ = 0; rw [X_c, if_neg hne, C_zero, Go.Fg.zero_mul])]
      show C (X.c 1) * _ = _
      rw [X_c, if_pos rfl, pw_one]
      exact CR.one_mul c
structure LwN (f : PS (PS R)) (N : Nat) : Prop where
  pos : 2 ≤ N
  z0 : (f.c 0).c 0 = 0
  z1 : (f.c 1).c 0 = 1
  zz : ∀ i, i < N → i ≠ 1 → (f.c i).c 0 = 0
  sym : ∀ i j, i + j < N → (f.c i).c j = (f.c j).c i
  as : ∀ p q k, p + q + k < N → Go.Fg.sm (N - k) (fun i => (f.c i).c k * ((Go.Fg.pw f i).c p).c q) = Go.Fg.sm (N - p) (fun j => (f.c p).c j * ((Go.Fg.pw f j).c q).c k)
section
variable {f : PS (PS R)} {N : Nat} (L : LwN f N)
include L
end
def Cv (R : Type) [CR R] (N : Nat) : Type := {a : PS R // a.c 0 = 0 ∧ ∀ i, N ≤ i → a.c i = 0}
def cv (N : Nat) (a : PS R) : Cv R N := ⟨⟨fun i => if i = 0 then 0 else if i < N then a.c i else 0⟩, rfl, fun i hi => by
  show (if i = 0 then 0 else if i < N then a.c i else 0) = 0
  split
  · rfl
  · rw [if_neg (by omega)]⟩
section
variable {f : PS (PS R)} {N : Nat} (L : LwN f N)
end
end PS
end Go.Fg
