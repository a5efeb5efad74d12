import Derived.Test.YtndhpcigpghejaaGreatAlg21
namespace Go.Fg
set_option linter.unusedVariables false
set_option linter.unusedSectionVars false
namespace PS
variable {R : Type} [CR R]
def cur (N : Nat) (f : PS (PS R)) (a : PS R) : Nat → PS R
 | 0 => 0
 | k + 1 => evT N f (cur N f a k) (mono (k + 1) (a.c (k + 1) - (cur N f a k).c (k + 1)))
section
variable {f : PS (PS R)} {N : Nat} (L : LwN f N)
include L
theorem LwN.lead {a b : PS R} (ha : a.c 0 = 0) (hb : b.c 0 = 0) {k : Nat} (hk : k + 1 < N) (h : ∀ i, i ≤ k → b.c i = 0) : Ag (k + 2) (evT N f a b) (a + b) := by
 have e : Ag (k + 2) b (0 + mono (k + 1) (b.c (k + 1))) := fun i hi => by
   rw [add_c, mono_c, zero_c, CR.zero_add]
   by_cases e : i = k + 1
   · rw [if_pos e, e]
   · rw [if_neg e, h i (by omega)]
 have hm : (0 + mono (k + 1) (b.c (k + 1)) : PS R).c 0 = 0 := by rw [← e 0 (by omega), hb]
 have s : ∀ i j, i + j < k + 2 → (f.c i).c j = (f.c j).c i := fun i j hij => L.sym i j (by omega)
 have hz : Ag (k + 2) (evT (k + 2) f a 0) a := (evT_le (by omega) f ha (b := 0) rfl).symm.trans ((L.zero_left ha).le (by omega))
 refine (evT_le (by omega) f ha hb).trans ?_
 refine (evT_congr (fun _ _ _ => rfl) Ag.rfl e).trans ?_
 refine (evT_comm f ha hm s).trans ?_
 refine (evT_pert (by omega) f L.z1 (a := 0) rfl ha _).trans ?_
 refine (Ag.add ((evT_comm f (a := 0) rfl ha s).trans hz) Ag.rfl).trans ?_
 refine Ag.add Ag.rfl (Ag.trans ?_ e.symm)
 exact Ag.of_eq (CR.zero_add _).symm
end
end PS
end Go.Fg
namespace Go.Fg
set_option linter.unusedVariables false
set_option linter.unusedSectionVars false
section
variable {R : Type} [CR R]
def nc (R : Type) [CR R] : Nat → R
 | 0 => 0
 | n + 1 => nc R n + 1
theorem nc_add (a b : Nat) : nc R (a + b) = nc R a + nc R b := by
 induction b with
 | zero => show nc R a = nc R a + 0; rw [add_zero]
 | succ b ih => show nc R (a + b) + 1 = nc R a + (nc R b + 1); rw [ih, CR.add_assoc]
theorem nc_one : nc R 1 = 1 := by show (0 : R) + 1 = 1; exact CR.zero_add 1
end
namespace PS
variable {R : Type} [CR R]
theorem nc_C (k : Nat) : nc (PS R) k = C (nc R k) := by
 induction k with
 | zero => show (0 : PS R) = C 0; rw [C_zero]
 | succ k ih => show nc (PS R) k + 1 = C (nc R k + 1); rw [ih, ← C_add_C, C_one]
section
variable {m : Int}
theorem CC_cc (r : Zm m) (g : PS (PS (Zm m))) (i j : Nat) : ((C (C r) * g).c i).c j = r * (g.c i).c j := by rw [C_mul, C_mul]
theorem comp2N_sm {f : PS (PS (Zm m))} (k : Nat) (u : Nat → PS (Zm m)) (N : Nat) : comp2N (Go.Fg.sm k u) f 0 N = Go.Fg.sm k fun i => comp2N (u i) f 0 N := by
 unfold comp2N
 rw [sm_swap]
 refine sm_congr (fun i _ => ?_)
 rw [sm_c, C_sm, C_sm, sm_mul_right]
theorem nc_mk (k : Nat) : nc (Zm m) k = Zm.mk m k := by
 induction k with
 | zero => rfl
 | succ k ih => show nc (Zm m) k + 1 = _; rw [ih, ← Zm.mk_one, ← Zm.mk_add]; rfl
theorem pw_row (f : PS (PS (Zm m))) : ∀ k, (Go.Fg.pw f k).c 0 = Go.Fg.pw (f.c 0) k
 | 0 => rfl
 | k + 1 => by rw [pw_succ, pw_succ, mul_c0, pw_row f k]
theorem pw_X (k : Nat) : Go.Fg.pw (X : PS (Zm m)) k = mono k 1 := by
 have : (X : PS (Zm m)) = mono 1 1 := rfl
 rw [this, pw_mono, one_pw, Nat.mul_one]
theorem X_0c {f : PS (PS (Zm m))} {N : Nat} (L : LwN f N) : Ag N (f.c 0) X := fun j hj => by
 rw [L.sym 0 j (by omega), X_c]
 by_cases h : j = 1
 · rw [h, if_pos rfl, L.z1]
 · rw [if_neg h, L.zz j hj h]
end
end PS
end Go.Fg
