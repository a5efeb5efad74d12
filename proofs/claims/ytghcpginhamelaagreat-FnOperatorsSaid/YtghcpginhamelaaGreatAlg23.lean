import Derived.Test.YtghcpginhamelaaGreatAlg21
namespace Go.Fg
set_option linter.unusedVariables false
set_option linter.unusedSectionVars false
namespace PS
variable {R : Type} [CR R]
def cur (N : Nat) (f : PS (PS R)) (a : PS R) : Nat → PS R
 | 0 => 0
 | k + 1 => evT N f (cur N f a k) (mono (k + 1) (a.c (k + 1) - (cur N f a k).c (k + 1)))
section
variable {f : PS (PS R)} {N : Nat} (L : LwN f N)
include L
end
end PS
end Go.Fg
namespace Go.Fg
set_option linter.unusedVariables false
set_option linter.unusedSectionVars false
section
variable {R : Type} [CR R]
def nc (R : Type) [CR R] : Nat → R
 | 0 => 0
 | n + 1 => nc R n + 1
theorem Aew (a b : Nat) : nc R (a + b) = nc R a + nc R b := by
 induction b with
 | zero => show nc R a = nc R a + 0; rw [add_zero]
 | succ b ih => show nc R (a + b) + 1 = nc R a + (nc R b + 1); rw [ih, CR.add_assoc]
theorem wX : nc R 1 = 1 := by show (0 : R) + 1 = 1; exact CR.zero_add 1
end
namespace PS
variable {R : Type} [CR R]
theorem iY (k : Nat) : nc (PS R) k = C (nc R k) := by
 induction k with
 | zero => show (0 : PS R) = C 0; rw [C_zero]
 | succ k ih => show nc (PS R) k + 1 = C (nc R k + 1); rw [ih, ← kL, I6]
def dS (a : PS R) : PS R := ⟨fun n => nc R (n + 1) * a.c (n + 1)⟩
theorem iT (a : PS R) (n : Nat) : (dS a).c n = nc R (n + 1) * a.c (n + 1) := rfl
theorem Aiu (a b : PS R) : dS (a + b) = dS a + dS b := by
 ext n; rw [add_c, iT, iT, iT, add_c, CR.mul_add]
theorem Ar7 : dS (0 : PS R) = 0 := by ext n; rw [iT, fQ, fQ, Go.Fg.mul_zero]
theorem Ag9 (r : R) : dS (C r) = 0 := by ext n; rw [iT, cO, if_neg (by omega), fQ, Go.Fg.mul_zero]
theorem Ao1 (k : Nat) (g : Nat → PS R) : dS (sm k g) = sm k fun i => dS (g i) := by
 induction k with
 | zero => exact Ar7
 | succ k ih => rw [bF, bF, Aiu, ih]
theorem Adl (a b : PS R) : dS (a * b) = dS a * b + a * dS b := by
 ext n
 rw [add_c, iT, bS, bS, bS, fI]
 have e : sm (n + 1 + 1) (fun i => nc R (n + 1) * (a.c i * b.c (n + 1 - i))) = sm (n + 1 + 1) (fun i => nc R i * a.c i * b.c (n + 1 - i)) + sm (n + 1 + 1) (fun i => a.c i * (nc R (n + 1 - i) * b.c (n + 1 - i))) := by
   rw [← eU]
   refine aR (fun i hi => ?_)
   have : nc R (n + 1) = nc R i + nc R (n + 1 - i) := by rw [← Aew, show i + (n + 1 - i) = n + 1 by omega]
   rw [this, Go.Fg.add_mul]
   congr 1 <;> ac_rfl
 rw [e]
 congr 1
 · rw [lP (n + 1)]
   show (0 : R) * a.c 0 * _ + _ = _
   rw [Go.Fg.zero_mul, Go.Fg.zero_mul, CR.zero_add]
   exact aR (fun i hi => by rw [iT, show n + 1 - (i + 1) = n - i by omega])
 · rw [bF (n + 1), show n + 1 - (n + 1) = 0 by omega]
   show _ + a.c (n + 1) * ((0 : R) * b.c 0) = _
   rw [Go.Fg.zero_mul, Go.Fg.mul_zero, Go.Fg.add_zero]
   exact aR (fun i hi => by rw [iT, show n + 1 - i = n - i + 1 by omega])
theorem O7 (a : PS R) : ∀ k, dS (Go.Fg.pw a (k + 1)) = nc (PS R) (k + 1) * (Go.Fg.pw a k * dS a)
 | 0 => by
   rw [pw_one, pw_zero, CR.one_mul]
   show _ = (0 + 1 : PS R) * _
   rw [CR.zero_add, CR.one_mul]
 | k + 1 => by
   rw [bX a (k + 1), Adl, O7 a k]
   show _ = (nc (PS R) (k + 1) + 1) * _
   rw [Go.Fg.add_mul, CR.one_mul, bX a k]
   congr 1
   ac_rfl
theorem Am5 (r : R) (g : PS (PS R)) : dS (C (C r) * g) = C (C r) * dS g := by rw [Adl, Ag9, Go.Fg.zero_mul, CR.zero_add]
theorem Ap0 (a : PS R) (f : PS (PS R)) (K : Nat) : dS (comp2N a f 0 (K + 1)) = comp2N (dS a) f 0 K * dS f := by
 unfold comp2N
 rw [Ao1, lP, fS, Nat.add_zero, pw_zero, Go.Fg.mul_one, Ag9, CR.zero_add]
 refine aR (fun i hi => ?_)
 rw [Am5, O7, iT, Nat.zero_add, Nat.zero_add, iY, iY, ← iC, ← iC]
 ac_rfl
section
variable {m : Int}
theorem mD (r : Zm m) (g : PS (PS (Zm m))) (i j : Nat) : ((C (C r) * g).c i).c j = r * (g.c i).c j := by rw [C_mul, C_mul]
theorem aW.sm_drop {N n k : Nat} {f : Nat → PS (PS (Zm m))} (hk : n ≤ k) (h : ∀ i, n ≤ i → i < k → aW N (f i) 0) : aW N (Go.Fg.sm k f) (Go.Fg.sm n f) := fun i j hij => by
 rw [sm_c, sm_c, sm_c, sm_c]
 exact mL hk (fun q h1 h2 => by rw [h q h1 h2 i j hij]; rfl)
theorem aW.low_pw {N k : Nat} {f : PS (PS (Zm m))} (h0 : (f.c 0).c 0 = 0) (h : N ≤ k) (r : Zm m) : aW N (C (C r) * Go.Fg.pw f k) 0 := fun i j hij => by
 rw [mD, nF h0 k i j (by omega), Go.Fg.mul_zero]; rfl
theorem Ae2 {f : PS (PS (Zm m))} (h0 : (f.c 0).c 0 = 0) (a b : PS (Zm m)) : ∀ N, aW N (comp2N (a * b) f 0 N) (comp2N a f 0 N * comp2N b f 0 N)
 | 0 => fun i j hij => absurd hij (by omega)
 | n + 1 => by
   have e1 : comp2N (a * b) f 0 (n + 1) = Go.Fg.sm (n + 1) fun i => Go.Fg.sm (n - i + 1) fun j => C (C (a.c i * b.c j)) * Go.Fg.pw f (i + j) := by
     rw [← P2]
     unfold comp2N
     refine aR (fun k hk => ?_)
     rw [Nat.zero_add, bS, lN, lN, fS]
     exact aR (fun i hi => by rw [show i + (k - i) = k by omega])
   have e2 : comp2N a f 0 (n + 1) * comp2N b f 0 (n + 1) = Go.Fg.sm (n + 1) fun i => Go.Fg.sm (n + 1) fun j => C (C (a.c i * b.c j)) * Go.Fg.pw f (i + j) := by
     unfold comp2N
     rw [fS]
     refine aR (fun i _ => ?_)
     rw [fI]
     refine aR (fun j _ => ?_)
     rw [Nat.zero_add, Nat.zero_add, ← iC, ← iC, rJ]
     ac_rfl
   rw [e1, e2]
   exact aW.sm (fun i hi => (aW.sm_drop (by omega) (fun j h1 h2 => aW.low_pw h0 (by omega) _)).symm)
theorem Ajv {f : PS (PS (Zm m))} (h0 : (f.c 0).c 0 = 0) (a : PS (Zm m)) {K N : Nat} (h : K ≤ N) : aW K (comp2N a f 0 N) (comp2N a f 0 K) :=
 aW.sm_drop h (fun i h1 h2 => aW.low_pw h0 (by omega) _)
theorem Aaw {f : PS (PS (Zm m))} {N : Nat} (hN : 1 ≤ N) : comp2N 1 f 0 N = 1 := by
 unfold comp2N
 rw [cE 0 (by omega) (fun i _ h => by rw [Nat.zero_add, one_c, if_neg h, C_zero, C_zero, Go.Fg.zero_mul]), pw_zero, Go.Fg.mul_one]
 rfl
theorem G3 {f : PS (PS (Zm m))} (h0 : (f.c 0).c 0 = 0) (a : PS (Zm m)) {N : Nat} (hN : 1 ≤ N) : ∀ k, aW N (comp2N (Go.Fg.pw a k) f 0 N) (Go.Fg.pw (comp2N a f 0 N) k)
 | 0 => aW.of_eq (Aaw hN)
 | k + 1 => (Ae2 h0 _ a N).trans ((G3 h0 a hN k).mul aW.rfl)
theorem uQ {f : PS (PS (Zm m))} (k : Nat) (u : Nat → PS (Zm m)) (N : Nat) : comp2N (Go.Fg.sm k u) f 0 N = Go.Fg.sm k fun i => comp2N (u i) f 0 N := by
 unfold comp2N
 rw [nT]
 refine aR (fun i _ => ?_)
 rw [sm_c, lN, lN, fS]
theorem W4 {f : PS (PS (Zm m))} (r : Zm m) (a : PS (Zm m)) (N : Nat) : comp2N (C r * a) f 0 N = C (C r) * comp2N a f 0 N := by
 unfold comp2N
 rw [fI]
 refine aR (fun i _ => ?_)
 rw [C_mul, ← iC, ← iC, CR.mul_assoc]
theorem Ajr {f : PS (PS (Zm m))} (h0 : (f.c 0).c 0 = 0) (e a : PS (Zm m)) {N : Nat} (hN : 1 ≤ N) : aW N (comp2N (compN e a 0 N) f 0 N) (comp2N e (comp2N a f 0 N) 0 N) := by
 unfold compN
 rw [uQ]
 refine aW.sm (fun i _ => ?_)
 rw [W4]
 exact aW.rfl.mul (G3 h0 a hN i)
theorem Arz (k : Nat) : nc (Zm m) k = Zm.mk m k := by
 induction k with
 | zero => rfl
 | succ k ih => show nc (Zm m) k + 1 = _; rw [ih, ← Zm.mk_one, ← Zm.mk_add]; rfl
theorem H3 (f : PS (PS (Zm m))) : ∀ k, (Go.Fg.pw f k).c 0 = Go.Fg.pw (f.c 0) k
 | 0 => rfl
 | k + 1 => by rw [bX, bX, mul_c0, H3 f k]
theorem Abq (k : Nat) : Go.Fg.pw (X : PS (Zm m)) k = mono k 1 := by
 have : (X : PS (Zm m)) = mono 1 1 := rfl
 rw [this, E0, vI, Nat.mul_one]
theorem Z0 {f : PS (PS (Zm m))} {N : Nat} (L : LwN f N) : Ag N (f.c 0) X := fun j hj => by
 rw [L.sym 0 j (by omega), jD]
 by_cases h : j = 1
 · rw [h, if_pos rfl, L.z1]
 · rw [if_neg h, L.zz j hj h]
theorem Afm {f : PS (PS (Zm m))} {N : Nat} (L : LwN f N) (k : Nat) : Ag N ((Go.Fg.pw f (k + 1)).c 1) (C (nc (Zm m) (k + 1)) * (mono k 1 * f.c 1)) := by
 have e : (dS (Go.Fg.pw f (k + 1))).c 0 = (Go.Fg.pw f (k + 1)).c 1 := by
   rw [iT, Nat.zero_add, wX]; exact CR.one_mul _
 rw [← e, O7, mul_c0, mul_c0, iY, cO, if_pos rfl, H3, iT, Nat.zero_add, wX, CR.one_mul, iY]
 refine Ag.rfl.mul (Ag.mul ?_ Ag.rfl)
 rw [← Abq]
 exact (Z0 L).pw k
theorem LwN.diff {f : PS (PS (Zm m))} {N : Nat} (L : LwN f N) : aW (N - 1) (dS f * axX (f.c 1)) (comp2N (f.c 1) f 0 (N - 1)) := fun q k hqk => by
 have hN := L.pos
 have h := L.as 1 q k (by omega)
 have e2 : ((comp2N (f.c 1) f 0 (N - 1)).c q).c k = Go.Fg.sm (N - 1) (fun j => (f.c 1).c j * ((Go.Fg.pw f j).c q).c k) := by
   unfold comp2N
   rw [sm_c, sm_c]
   exact aR (fun i _ => by rw [mD, Nat.zero_add])
 rw [e2, ← h, bS, sm_c]
 obtain ⟨M, hM⟩ : ∃ M, N - k = M + 1 := ⟨N - k - 1, by omega⟩
 rw [hM, lP M]
 have z : (f.c 0).c k * ((Go.Fg.pw f 0).c 1).c q = 0 := Go.Fg.mul_zero _
 rw [z, CR.zero_add]
 rw [mL (n := q + 1) (k := M) (by omega) (fun i h1 h2 => by
   rw [Afm L i q (by omega), C_mul, tT, if_pos (by omega), Go.Fg.mul_zero, Go.Fg.mul_zero])]
 refine aR (fun i hi => ?_)
 rw [Afm L i q (by omega), C_mul, tT, if_neg (by omega), CR.one_mul, iT, iY]
 show ((C (nc (Zm m) (i + 1)) * f.c (i + 1)) * C ((f.c 1).c (q - i))).c k = _
 rw [CR.mul_comm, C_mul, C_mul]
 ac_rfl
theorem LwN.log {f : PS (PS (Zm m))} {N : Nat} (L : LwN f N) {l q : PS (Zm m)} (hq : Ag (N - 1) (q * f.c 1) 1) (hl : Ag (N - 1) (dS l) q) (h0 : l.c 0 = 0)
   (hu : ∀ i, 1 ≤ i → i < N → ∃ u, nc (Zm m) i * u = 1) : aW N (comp2N l f 0 N) (axX l + axY l) := by
 have hN := L.pos
 obtain ⟨K, rfl⟩ : ∃ K, N = K + 1 := ⟨N - 1, by omega⟩
 rw [Nat.add_sub_cancel] at hq hl
 have hd := L.diff
 rw [Nat.add_sub_cancel] at hd
 have h1 : aW K (dS (comp2N l f 0 (K + 1)) * axX (f.c 1)) 1 := by
   rw [Ap0, CR.mul_assoc]
   refine (aW.mul (L8 (b := q) (fun i _ hi => hl i (by omega)) aW.rfl) hd).trans ?_
   refine (Ae2 L.z0 _ _ K).symm.trans ?_
   refine (L8 (b := 1) (fun i _ hi => hq i (by omega)) aW.rfl).trans (aW.of_eq (Aaw (by omega)))
 have h2 : aW K (axX (f.c 1) * axX q) 1 := by
   rw [← vD, ← vG]
   exact Aue (by rw [CR.mul_comm]; exact hq)
 have h3 : aW K (dS (comp2N l f 0 (K + 1))) (axX q) := by
   have := (h1.mul (aW.rfl (f := axX q)))
   rw [CR.one_mul, CR.mul_assoc] at this
   refine aW.trans ?_ this
   refine (aW.trans (aW.of_eq (Go.Fg.mul_one _).symm) (aW.rfl.mul h2.symm))
 intro i j hij
 rw [add_c, add_c, rX, Ada]
 cases i with
 | zero =>
   rw [if_pos rfl]
   have e : ((comp2N l f 0 (K + 1)).c 0).c j = l.c j := by
     unfold comp2N
     rw [sm_c, sm_c]
     have : ∀ i, ((C (C (l.c (0 + i))) * Go.Fg.pw f i).c 0).c j = if i = j then l.c j else 0 := fun i => by
       rw [mD, H3, (Z0 L).pw i j (by omega), Abq, bO, Nat.zero_add]
       by_cases e : i = j
       · rw [if_pos e, if_pos e.symm, e, Go.Fg.mul_one]
       · rw [if_neg e, if_neg (Ne.symm e), Go.Fg.mul_zero]
     rw [aR (fun i _ => this i), cE j (by omega) (fun i _ h => if_neg h), if_pos rfl]
   rw [e]
   by_cases hj : j = 0
   · rw [if_pos hj, h0, CR.zero_add]
   · rw [if_neg hj, CR.zero_add]
 | succ i =>
   rw [if_neg (Nat.succ_ne_zero i), Go.Fg.add_zero]
   have h4 := h3 i j (by omega)
   rw [iT, iY, C_mul, rX] at h4
   obtain ⟨u, hu⟩ := hu (i + 1) (by omega) (by omega)
   have c : ∀ x y : Zm m, nc (Zm m) (i + 1) * x = nc (Zm m) (i + 1) * y → x = y := fun x y h => by
     have : u * (nc (Zm m) (i + 1) * x) = u * (nc (Zm m) (i + 1) * y) := by rw [h]
     rwa [← CR.mul_assoc, ← CR.mul_assoc, CR.mul_comm u, hu, CR.one_mul, CR.one_mul] at this
   apply c
   rw [h4]
   by_cases hj : j = 0
   · rw [if_pos hj, if_pos hj, ← hl i (by omega), iT]
   · rw [if_neg hj, if_neg hj, Go.Fg.mul_zero]
end
end PS
end Go.Fg
