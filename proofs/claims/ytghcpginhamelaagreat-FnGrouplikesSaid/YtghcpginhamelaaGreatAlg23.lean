import Derived.Test.YtghcpginhamelaaGreatAlg21
namespace Go.Fg
set_option linter.unusedVariables false
set_option linter.unusedSectionVars false
namespace PS
variable {R : Type} [CR R]
def cur (N : Nat) (f : PS (PS R)) (a : PS R) : Nat → PS R
 | 0 => 0
 | k + 1 => bG N f (cur N f a k) (mono (k + 1) (a.c (k + 1) - (cur N f a k).c (k + 1)))
section
variable {f : PS (PS R)} {N : Nat} (L : LwN f N)
include L
theorem LwN.lead {a b : PS R} (ha : a.c 0 = 0) (hb : b.c 0 = 0) {k : Nat} (hk : k + 1 < N) (h : ∀ i, i ≤ k → b.c i = 0) : Ag (k + 2) (bG N f a b) (a + b) := by
 have e : Ag (k + 2) b (0 + mono (k + 1) (b.c (k + 1))) := fun i hi => by
   rw [add_c, cK, lT, CR.zero_add]
   by_cases e : i = k + 1
   · rw [if_pos e, e]
   · rw [if_neg e, h i (by omega)]
 have hm : (0 + mono (k + 1) (b.c (k + 1)) : PS R).c 0 = 0 := by rw [← e 0 (by omega), hb]
 have s : ∀ i j, i + j < k + 2 → (f.c i).c j = (f.c j).c i := fun i j hij => L.sym i j (by omega)
 have hz : Ag (k + 2) (bG (k + 2) f a 0) a := (zQ (by omega) f ha (b := 0) rfl).symm.trans ((L.zero_left ha).le (by omega))
 refine (zQ (by omega) f ha hb).trans ?_
 refine (mO (fun _ _ _ => rfl) Ag.rfl e).trans ?_
 refine (qU f ha hm s).trans ?_
 refine (B4 (by omega) f L.z1 (a := 0) rfl ha _).trans ?_
 refine (Ag.add ((qU f (a := 0) rfl ha s).trans hz) Ag.rfl).trans ?_
 refine Ag.add Ag.rfl (Ag.trans ?_ e.symm)
 exact Ag.of_eq (CR.zero_add _).symm
end
end PS
end Go.Fg
namespace Go.Fg
set_option linter.unusedVariables false
set_option linter.unusedSectionVars false
section
variable {R : Type} [CR R]
def nc (R : Type) [CR R] : Nat → R
 | 0 => 0
 | n + 1 => nc R n + 1
theorem Amj (a b : Nat) : nc R (a + b) = nc R a + nc R b := by
 induction b with
 | zero => show nc R a = nc R a + 0; rw [add_zero]
 | succ b ih => show nc R (a + b) + 1 = nc R a + (nc R b + 1); rw [ih, CR.add_assoc]
theorem Acs : nc R 1 = 1 := by show (0 : R) + 1 = 1; exact CR.zero_add 1
end
namespace PS
variable {R : Type} [CR R]
theorem wI (k : Nat) : nc (PS R) k = C (nc R k) := by
 induction k with
 | zero => show (0 : PS R) = C 0; rw [C_zero]
 | succ k ih => show nc (PS R) k + 1 = C (nc R k + 1); rw [ih, ← qK, Apu]
section
variable {m : Int}
theorem Alk {f : PS (PS (Zm m))} {N : Nat} (hN : 1 ≤ N) : bC 1 f 0 N = 1 := by
 unfold bC
 rw [eQ 0 (by omega) (fun i _ h => by rw [Nat.zero_add, one_c, if_neg h, C_zero, C_zero, Go.Fg.zero_mul]), pw_zero, Go.Fg.mul_one]
 rfl
theorem Aqe (k : Nat) : nc (Zm m) k = Zm.mk m k := by
 induction k with
 | zero => rfl
 | succ k ih => show nc (Zm m) k + 1 = _; rw [ih, ← Zm.mk_one, ← Zm.mk_add]; rfl
end
end PS
end Go.Fg
