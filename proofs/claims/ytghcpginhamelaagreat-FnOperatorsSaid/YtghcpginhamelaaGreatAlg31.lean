import Derived.Test.YtghcpginhamelaaGreatAlg24
namespace Go.Fg
set_option linter.unusedVariables false
set_option linter.unusedSimpArgs false
set_option linter.unusedSectionVars false
namespace AG
variable {A : Type} (G : AG A)
end AG
structure Kil (P : Nat → Prop) : Prop where
 mul : ∀ n k, P n → P (n * k)
 gcd : ∀ n k, P n → P k → P (Nat.gcd n k)
namespace PS
section
variable {m : Int}
end
end PS
end Go.Fg
namespace Go.Fg
set_option linter.unusedVariables false
set_option linter.unusedSimpArgs false
set_option linter.unusedSectionVars false
namespace PS
section
variable {R : Type} [CR R]
theorem J2 (N : Nat) (a b : PS R) (g h : PS (PS R)) : ev N a b (g + h) = ev N a b g + ev N a b h := by
 rw [gV, gV, gV, ← eU]
 refine aR (fun i _ => ?_)
 rw [← eU]
 refine aR (fun j _ => ?_)
 rw [add_c, add_c, ← kL, add_mul]
theorem Av9 (N : Nat) (a b : PS R) : ev N a b 0 = 0 := by
 rw [gV]
 exact cH (fun i _ => cH (fun j _ => by rw [fQ, fQ, C_zero, Go.Fg.zero_mul]))
theorem Ae5 (N : Nat) (a b : PS R) (k : Nat) (u : Nat → PS (PS R)) : ev N a b (Go.Fg.sm k u) = Go.Fg.sm k fun i => ev N a b (u i) := by
 induction k with
 | zero => exact Av9 N a b
 | succ k ih => rw [bF, bF, J2, ih]
theorem Ag6 {N : Nat} (hN : 1 ≤ N) (a b : PS R) (r : R) (g : PS (PS R)) : ev N a b (C (C r) * g) = C r * ev N a b g := by
 rw [gV, gV, fI]
 refine aR (fun i _ => ?_)
 rw [fI]
 refine aR (fun j _ => ?_)
 rw [C_mul, C_mul, ← iC, CR.mul_assoc]
theorem Ads {N : Nat} (hN : 1 ≤ N) {a : PS R} (ha : a.c 0 = 0) (b u : PS R) : Ag N (ev N a b (axX u)) (comp u a) := by
 refine Ag.trans (Ag.of_eq ?_) (jT ha N)
 rw [gV]
 unfold compN
 refine aR (fun i _ => ?_)
 rw [cE 0 (by omega) (fun j _ hne => by rw [show ((axX u).c i).c j = (C (u.c i)).c j from rfl, cO, if_neg hne, C_zero, Go.Fg.zero_mul])]
 rw [show ((axX u).c i).c 0 = u.c i from rfl, pw_zero, Go.Fg.mul_one, Nat.zero_add]
theorem Aao {N : Nat} (hN : 1 ≤ N) (a : PS R) {b : PS R} (hb : b.c 0 = 0) (u : PS R) : Ag N (ev N a b (axY u)) (comp u b) := by
 refine Ag.trans (Ag.of_eq ?_) (jT hb N)
 rw [gV]
 unfold compN
 rw [cE 0 (by omega) (fun i _ hne => cH (fun j _ => by rw [show (axY u).c i = (C u).c i from rfl, cO, if_neg hne, fQ, C_zero, Go.Fg.zero_mul]))]
 refine aR (fun j _ => ?_)
 rw [show ((axY u).c 0).c j = u.c j from rfl, pw_zero, CR.one_mul, Nat.zero_add]
end
section
variable {m : Int}
theorem Avn {N : Nat} {a b : PS (Zm m)} (ha : a.c 0 = 0) (hb : b.c 0 = 0) {g h : PS (PS (Zm m))} (H : aW N g h) : Ag N (ev N a b g) (ev N a b h) :=
 (kC g ha hb).symm.trans ((fW (fun i j hij => H i j hij) Ag.rfl Ag.rfl).trans (kC h ha hb))
theorem Aq7 {N : Nat} (hN : 1 ≤ N) (l : PS (Zm m)) (f : PS (PS (Zm m))) {a b : PS (Zm m)} (ha : a.c 0 = 0) (hb : b.c 0 = 0) :
   Ag N (ev N a b (comp2N l f 0 N)) (compN l (ev N a b f) 0 N) := by
 unfold comp2N compN
 rw [Ae5]
 refine Ag.sm (fun i _ => ?_)
 rw [Ag6 hN]
 exact Ag.rfl.mul (B7 hN f ha hb i)
theorem Awq {N : Nat} (hN : 1 ≤ N) (l : PS (Zm m)) {f : PS (PS (Zm m))} (f0 : (f.c 0).c 0 = 0) {a b : PS (Zm m)} (ha : a.c 0 = 0) (hb : b.c 0 = 0) :
   Ag N (comp l (evT N f a b)) (ev N a b (comp2N l f 0 N)) := by
 refine Ag.trans ?_ (Aq7 hN l f ha hb).symm
 refine (jT (eB f0 ha hb) N).symm.trans ?_
 exact G4 (fun _ _ _ => rfl) (kC f ha hb)
theorem I7 {N : Nat} (hN : 1 ≤ N) {l : PS (Zm m)} {f : PS (PS (Zm m))} (f0 : (f.c 0).c 0 = 0) (h : aW N (comp2N l f 0 N) (axX l + axY l)) {a b : PS (Zm m)} (ha : a.c 0 = 0) (hb : b.c 0 = 0) :
   Ag N (comp l (evT N f a b)) (comp l a + comp l b) := by
 refine (Awq hN l f0 ha hb).trans ((Avn ha hb h).trans ?_)
 rw [J2]
 exact (Ads hN ha b l).add (Aao hN a hb l)
theorem X4 {N : Nat} {l : PS (Zm m)} {f : PS (PS (Zm m))} (L : LwN f N) (l0 : l.c 0 = 0) (h : aW N (comp2N l f 0 N) (axX l + axY l)) (a : Cv (Zm m) N) :
   ∀ n : Nat, Ag N (comp l (L.G.nm n a).1) (C (nc (Zm m) n) * comp l a.1)
 | 0 => by
   refine (iX Ag.rfl (hH (a := (0 : PS (Zm m))) rfl)).trans (Ag.of_eq ?_)
   rw [show nc (Zm m) 0 = 0 from rfl, C_zero, Go.Fg.zero_mul]
   refine PS.ext (fun i => ?_)
   show (compN l 0 0 (i + 1)).c i = 0
   unfold compN
   rw [cE 0 (by omega) (fun j _ hne => by rw [wZ hne, Go.Fg.mul_zero]), l0, C_zero, Go.Fg.zero_mul]; rfl
 | n + 1 => by
   have e0 : (evT N f (L.G.nm n a).1 a.1).c 0 = 0 := L.e0 (L.G.nm n a).2.1 a.2.1
   have hN := L.pos
   refine (iX Ag.rfl (hH e0)).trans ((I7 (by omega) L.z0 h (L.G.nm n a).2.1 a.2.1).trans (((X4 L l0 h a n).add Ag.rfl).trans (Ag.of_eq ?_)))
   show C (nc (Zm m) n) * comp l a.1 + comp l a.1 = C (nc (Zm m) n + 1) * comp l a.1
   rw [← kL, add_mul, I6, CR.one_mul]
end
end PS
end Go.Fg
