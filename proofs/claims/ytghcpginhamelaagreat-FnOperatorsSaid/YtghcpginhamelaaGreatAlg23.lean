import Derived.Test.YtghcpginhamelaaGreatAlg21
namespace Go.Fg
set_option linter.unusedVariables false
set_option linter.unusedSectionVars false
namespace PS
variable {R : Type} [CR R]
def cur (N : Nat) (f : PS (PS R)) (a : PS R) : Nat → PS R
 | 0 => 0
 | k + 1 => evT N f (cur N f a k) (mono (k + 1) (a.c (k + 1) - (cur N f a k).c (k + 1)))
section
variable {f : PS (PS R)} {N : Nat} (L : LwN f N)
include L
end
end PS
end Go.Fg
namespace Go.Fg
set_option linter.unusedVariables false
set_option linter.unusedSectionVars false
section
variable {R : Type} [CR R]
def nc (R : Type) [CR R] : Nat → R
 | 0 => 0
 | n + 1 => nc R n + 1
theorem Agb (a b : Nat) : nc R (a + b) = nc R a + nc R b := by
 induction b with
 | zero => show nc R a = nc R a + 0; rw [add_zero]
 | succ b ih => show nc R (a + b) + 1 = nc R a + (nc R b + 1); rw [ih, CR.add_assoc]
theorem xO : nc R 1 = 1 := by show (0 : R) + 1 = 1; exact CR.zero_add 1
end
namespace PS
variable {R : Type} [CR R]
theorem iZ (k : Nat) : nc (PS R) k = C (nc R k) := by
 induction k with
 | zero => show (0 : PS R) = C 0; rw [C_zero]
 | succ k ih => show nc (PS R) k + 1 = C (nc R k + 1); rw [ih, ← lD, J0]
def dS (a : PS R) : PS R := ⟨fun n => nc R (n + 1) * a.c (n + 1)⟩
theorem jH (a : PS R) (n : Nat) : (dS a).c n = nc R (n + 1) * a.c (n + 1) := rfl
theorem Av9 (a b : PS R) : dS (a + b) = dS a + dS b := by
 ext n; rw [add_c, jH, jH, jH, add_c, CR.mul_add]
theorem Avn : dS (0 : PS R) = 0 := by ext n; rw [jH, gD, gD, Go.Fg.mul_zero]
theorem Ahk (r : R) : dS (C r) = 0 := by ext n; rw [jH, cV, if_neg (by omega), gD, Go.Fg.mul_zero]
theorem Axq (k : Nat) (g : Nat → PS R) : dS (sm k g) = sm k fun i => dS (g i) := by
 induction k with
 | zero => exact Avn
 | succ k ih => rw [bH, bH, Av9, ih]
theorem Acr (a b : PS R) : dS (a * b) = dS a * b + a * dS b := by
 ext n
 rw [add_c, jH, bW, bW, bW, fQ]
 have e : sm (n + 1 + 1) (fun i => nc R (n + 1) * (a.c i * b.c (n + 1 - i))) = sm (n + 1 + 1) (fun i => nc R i * a.c i * b.c (n + 1 - i)) + sm (n + 1 + 1) (fun i => a.c i * (nc R (n + 1 - i) * b.c (n + 1 - i))) := by
   rw [← fF]
   refine aR (fun i hi => ?_)
   have : nc R (n + 1) = nc R i + nc R (n + 1 - i) := by rw [← Agb, show i + (n + 1 - i) = n + 1 by omega]
   rw [this, Go.Fg.add_mul]
   congr 1 <;> ac_rfl
 rw [e]
 congr 1
 · rw [lH (n + 1)]
   show (0 : R) * a.c 0 * _ + _ = _
   rw [Go.Fg.zero_mul, Go.Fg.zero_mul, CR.zero_add]
   exact aR (fun i hi => by rw [jH, show n + 1 - (i + 1) = n - i by omega])
 · rw [bH (n + 1), show n + 1 - (n + 1) = 0 by omega]
   show _ + a.c (n + 1) * ((0 : R) * b.c 0) = _
   rw [Go.Fg.zero_mul, Go.Fg.mul_zero, Go.Fg.add_zero]
   exact aR (fun i hi => by rw [jH, show n + 1 - i = n - i + 1 by omega])
theorem V9 (a : PS R) : ∀ k, dS (Go.Fg.pw a (k + 1)) = nc (PS R) (k + 1) * (Go.Fg.pw a k * dS a)
 | 0 => by
   rw [pw_one, pw_zero, CR.one_mul]
   show _ = (0 + 1 : PS R) * _
   rw [CR.zero_add, CR.one_mul]
 | k + 1 => by
   rw [cB a (k + 1), Acr, V9 a k]
   show _ = (nc (PS R) (k + 1) + 1) * _
   rw [Go.Fg.add_mul, CR.one_mul, cB a k]
   congr 1
   ac_rfl
theorem Ak2 (r : R) (g : PS (PS R)) : dS (C (C r) * g) = C (C r) * dS g := by rw [Acr, Ahk, Go.Fg.zero_mul, CR.zero_add]
theorem Auf (a : PS R) (f : PS (PS R)) (K : Nat) : dS (comp2N a f 0 (K + 1)) = comp2N (dS a) f 0 K * dS f := by
 unfold comp2N
 rw [Axq, lH, fY, Nat.add_zero, pw_zero, Go.Fg.mul_one, Ahk, CR.zero_add]
 refine aR (fun i hi => ?_)
 rw [Ak2, V9, jH, Nat.zero_add, Nat.zero_add, iZ, iZ, ← iC, ← iC]
 ac_rfl
section
variable {m : Int}
theorem mI (r : Zm m) (g : PS (PS (Zm m))) (i j : Nat) : ((C (C r) * g).c i).c j = r * (g.c i).c j := by rw [C_mul, C_mul]
theorem aW.sm_drop {N n k : Nat} {f : Nat → PS (PS (Zm m))} (hk : n ≤ k) (h : ∀ i, n ≤ i → i < k → aW N (f i) 0) : aW N (Go.Fg.sm k f) (Go.Fg.sm n f) := fun i j hij => by
 rw [sm_c, sm_c, sm_c, sm_c]
 exact mG hk (fun q h1 h2 => by rw [h q h1 h2 i j hij]; rfl)
theorem aW.low_pw {N k : Nat} {f : PS (PS (Zm m))} (h0 : (f.c 0).c 0 = 0) (h : N ≤ k) (r : Zm m) : aW N (C (C r) * Go.Fg.pw f k) 0 := fun i j hij => by
 rw [mI, oT h0 k i j (by omega), Go.Fg.mul_zero]; rfl
theorem Ahi {f : PS (PS (Zm m))} (h0 : (f.c 0).c 0 = 0) (a b : PS (Zm m)) : ∀ N, aW N (comp2N (a * b) f 0 N) (comp2N a f 0 N * comp2N b f 0 N)
 | 0 => fun i j hij => absurd hij (by omega)
 | n + 1 => by
   have e1 : comp2N (a * b) f 0 (n + 1) = Go.Fg.sm (n + 1) fun i => Go.Fg.sm (n - i + 1) fun j => C (C (a.c i * b.c j)) * Go.Fg.pw f (i + j) := by
     rw [← N2]
     unfold comp2N
     refine aR (fun k hk => ?_)
     rw [Nat.zero_add, bW, lK, lK, fY]
     exact aR (fun i hi => by rw [show i + (k - i) = k by omega])
   have e2 : comp2N a f 0 (n + 1) * comp2N b f 0 (n + 1) = Go.Fg.sm (n + 1) fun i => Go.Fg.sm (n + 1) fun j => C (C (a.c i * b.c j)) * Go.Fg.pw f (i + j) := by
     unfold comp2N
     rw [fY]
     refine aR (fun i _ => ?_)
     rw [fQ]
     refine aR (fun j _ => ?_)
     rw [Nat.zero_add, Nat.zero_add, ← iC, ← iC, tH]
     ac_rfl
   rw [e1, e2]
   exact aW.sm (fun i hi => (aW.sm_drop (by omega) (fun j h1 h2 => aW.low_pw h0 (by omega) _)).symm)
theorem Aq7 {f : PS (PS (Zm m))} (h0 : (f.c 0).c 0 = 0) (a : PS (Zm m)) {K N : Nat} (h : K ≤ N) : aW K (comp2N a f 0 N) (comp2N a f 0 K) :=
 aW.sm_drop h (fun i h1 h2 => aW.low_pw h0 (by omega) _)
theorem Aip {f : PS (PS (Zm m))} {N : Nat} (hN : 1 ≤ N) : comp2N 1 f 0 N = 1 := by
 unfold comp2N
 rw [cL 0 (by omega) (fun i _ h => by rw [Nat.zero_add, one_c, if_neg h, C_zero, C_zero, Go.Fg.zero_mul]), pw_zero, Go.Fg.mul_one]
 rfl
theorem O4 {f : PS (PS (Zm m))} (h0 : (f.c 0).c 0 = 0) (a : PS (Zm m)) {N : Nat} (hN : 1 ≤ N) : ∀ k, aW N (comp2N (Go.Fg.pw a k) f 0 N) (Go.Fg.pw (comp2N a f 0 N) k)
 | 0 => aW.of_eq (Aip hN)
 | k + 1 => (Ahi h0 _ a N).trans ((O4 h0 a hN k).mul aW.rfl)
theorem vA {f : PS (PS (Zm m))} (k : Nat) (u : Nat → PS (Zm m)) (N : Nat) : comp2N (Go.Fg.sm k u) f 0 N = Go.Fg.sm k fun i => comp2N (u i) f 0 N := by
 unfold comp2N
 rw [oE]
 refine aR (fun i _ => ?_)
 rw [sm_c, lK, lK, fY]
theorem N3 {f : PS (PS (Zm m))} (r : Zm m) (a : PS (Zm m)) (N : Nat) : comp2N (C r * a) f 0 N = C (C r) * comp2N a f 0 N := by
 unfold comp2N
 rw [fQ]
 refine aR (fun i _ => ?_)
 rw [C_mul, ← iC, ← iC, CR.mul_assoc]
theorem Ar3 {f : PS (PS (Zm m))} (h0 : (f.c 0).c 0 = 0) (e a : PS (Zm m)) {N : Nat} (hN : 1 ≤ N) : aW N (comp2N (compN e a 0 N) f 0 N) (comp2N e (comp2N a f 0 N) 0 N) := by
 unfold compN
 rw [vA]
 refine aW.sm (fun i _ => ?_)
 rw [N3]
 exact aW.rfl.mul (O4 h0 a hN i)
theorem Avi (k : Nat) : nc (Zm m) k = Zm.mk m k := by
 induction k with
 | zero => rfl
 | succ k ih => show nc (Zm m) k + 1 = _; rw [ih, ← Zm.mk_one, ← Zm.mk_add]; rfl
theorem O3 (f : PS (PS (Zm m))) : ∀ k, (Go.Fg.pw f k).c 0 = Go.Fg.pw (f.c 0) k
 | 0 => rfl
 | k + 1 => by rw [cB, cB, mul_c0, O3 f k]
theorem Abw (k : Nat) : Go.Fg.pw (X : PS (Zm m)) k = mono k 1 := by
 have : (X : PS (Zm m)) = mono 1 1 := rfl
 rw [this, zG, uU, Nat.mul_one]
theorem Acq {f : PS (PS (Zm m))} {N : Nat} (L : LwN f N) : Ag N (f.c 0) X := fun j hj => by
 rw [L.sym 0 j (by omega), jP]
 by_cases h : j = 1
 · rw [h, if_pos rfl, L.z1]
 · rw [if_neg h, L.zz j hj h]
theorem Aa7 {f : PS (PS (Zm m))} {N : Nat} (L : LwN f N) (k : Nat) : Ag N ((Go.Fg.pw f (k + 1)).c 1) (C (nc (Zm m) (k + 1)) * (mono k 1 * f.c 1)) := by
 have e : (dS (Go.Fg.pw f (k + 1))).c 0 = (Go.Fg.pw f (k + 1)).c 1 := by
   rw [jH, Nat.zero_add, xO]; exact CR.one_mul _
 rw [← e, V9, mul_c0, mul_c0, iZ, cV, if_pos rfl, O3, jH, Nat.zero_add, xO, CR.one_mul, iZ]
 refine Ag.rfl.mul (Ag.mul ?_ Ag.rfl)
 rw [← Abw]
 exact (Acq L).pw k
theorem LwN.diff {f : PS (PS (Zm m))} {N : Nat} (L : LwN f N) : aW (N - 1) (dS f * axX (f.c 1)) (comp2N (f.c 1) f 0 (N - 1)) := fun q k hqk => by
 have hN := L.pos
 have h := L.as 1 q k (by omega)
 have e2 : ((comp2N (f.c 1) f 0 (N - 1)).c q).c k = Go.Fg.sm (N - 1) (fun j => (f.c 1).c j * ((Go.Fg.pw f j).c q).c k) := by
   unfold comp2N
   rw [sm_c, sm_c]
   exact aR (fun i _ => by rw [mI, Nat.zero_add])
 rw [e2, ← h, bW, sm_c]
 obtain ⟨M, hM⟩ : ∃ M, N - k = M + 1 := ⟨N - k - 1, by omega⟩
 rw [hM, lH M]
 have z : (f.c 0).c k * ((Go.Fg.pw f 0).c 1).c q = 0 := Go.Fg.mul_zero _
 rw [z, CR.zero_add]
 rw [mG (n := q + 1) (k := M) (by omega) (fun i h1 h2 => by
   rw [Aa7 L i q (by omega), C_mul, vJ, if_pos (by omega), Go.Fg.mul_zero, Go.Fg.mul_zero])]
 refine aR (fun i hi => ?_)
 rw [Aa7 L i q (by omega), C_mul, vJ, if_neg (by omega), CR.one_mul, jH, iZ]
 show ((C (nc (Zm m) (i + 1)) * f.c (i + 1)) * C ((f.c 1).c (q - i))).c k = _
 rw [CR.mul_comm, C_mul, C_mul]
 ac_rfl
theorem LwN.log {f : PS (PS (Zm m))} {N : Nat} (L : LwN f N) {l q : PS (Zm m)} (hq : Ag (N - 1) (q * f.c 1) 1) (hl : Ag (N - 1) (dS l) q) (h0 : l.c 0 = 0)
   (hu : ∀ i, 1 ≤ i → i < N → ∃ u, nc (Zm m) i * u = 1) : aW N (comp2N l f 0 N) (axX l + axY l) := by
 have hN := L.pos
 obtain ⟨K, rfl⟩ : ∃ K, N = K + 1 := ⟨N - 1, by omega⟩
 rw [Nat.add_sub_cancel] at hq hl
 have hd := L.diff
 rw [Nat.add_sub_cancel] at hd
 have h1 : aW K (dS (comp2N l f 0 (K + 1)) * axX (f.c 1)) 1 := by
   rw [Auf, CR.mul_assoc]
   refine (aW.mul (U4 (b := q) (fun i _ hi => hl i (by omega)) aW.rfl) hd).trans ?_
   refine (Ahi L.z0 _ _ K).symm.trans ?_
   refine (U4 (b := 1) (fun i _ hi => hq i (by omega)) aW.rfl).trans (aW.of_eq (Aip (by omega)))
 have h2 : aW K (axX (f.c 1) * axX q) 1 := by
   rw [← uV, ← wC]
   exact Arq (by rw [CR.mul_comm]; exact hq)
 have h3 : aW K (dS (comp2N l f 0 (K + 1))) (axX q) := by
   have := (h1.mul (aW.rfl (f := axX q)))
   rw [CR.one_mul, CR.mul_assoc] at this
   refine aW.trans ?_ this
   refine (aW.trans (aW.of_eq (Go.Fg.mul_one _).symm) (aW.rfl.mul h2.symm))
 intro i j hij
 rw [add_c, add_c, uK, Aaz]
 cases i with
 | zero =>
   rw [if_pos rfl]
   have e : ((comp2N l f 0 (K + 1)).c 0).c j = l.c j := by
     unfold comp2N
     rw [sm_c, sm_c]
     have : ∀ i, ((C (C (l.c (0 + i))) * Go.Fg.pw f i).c 0).c j = if i = j then l.c j else 0 := fun i => by
       rw [mI, O3, (Acq L).pw i j (by omega), Abw, bT, Nat.zero_add]
       by_cases e : i = j
       · rw [if_pos e, if_pos e.symm, e, Go.Fg.mul_one]
       · rw [if_neg e, if_neg (Ne.symm e), Go.Fg.mul_zero]
     rw [aR (fun i _ => this i), cL j (by omega) (fun i _ h => if_neg h), if_pos rfl]
   rw [e]
   by_cases hj : j = 0
   · rw [if_pos hj, h0, CR.zero_add]
   · rw [if_neg hj, CR.zero_add]
 | succ i =>
   rw [if_neg (Nat.succ_ne_zero i), Go.Fg.add_zero]
   have h4 := h3 i j (by omega)
   rw [jH, iZ, C_mul, uK] at h4
   obtain ⟨u, hu⟩ := hu (i + 1) (by omega) (by omega)
   have c : ∀ x y : Zm m, nc (Zm m) (i + 1) * x = nc (Zm m) (i + 1) * y → x = y := fun x y h => by
     have : u * (nc (Zm m) (i + 1) * x) = u * (nc (Zm m) (i + 1) * y) := by rw [h]
     rwa [← CR.mul_assoc, ← CR.mul_assoc, CR.mul_comm u, hu, CR.one_mul, CR.one_mul] at this
   apply c
   rw [h4]
   by_cases hj : j = 0
   · rw [if_pos hj, if_pos hj, ← hl i (by omega), jH]
   · rw [if_neg hj, if_neg hj, Go.Fg.mul_zero]
end
end PS
end Go.Fg
