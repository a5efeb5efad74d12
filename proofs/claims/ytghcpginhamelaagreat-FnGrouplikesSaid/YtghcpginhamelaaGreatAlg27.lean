import Derived.Test.YtghcpginhamelaaGreatAlg24
namespace Go.Fg
set_option linter.unusedVariables false
set_option linter.unusedSimpArgs false
set_option linter.unusedSectionVars false
namespace PS
section
variable {m : Int}
section
variable {f : PS (PS (Zm m))} {n : Nat}
end
end
section
variable {R : Type} [CR R]
theorem Ap5 {q : Nat} (hq : 1 ≤ q) (h : ∀ i, 0 < i → i < q → nc R (cX q i) = 0) (u v : R) : Go.Fg.pw (u + v) q = Go.Fg.pw u q + Go.Fg.pw v q := by
 obtain ⟨k, rfl⟩ : ∃ k, q = k + 1 := ⟨q - 1, by omega⟩
 rw [H3, cB, oW, dH (fun i hi => by rw [h (i + 1) (by omega) (by omega), Go.Fg.zero_mul]), Af1, xT, Acs, CR.one_mul, CR.one_mul, Nat.sub_self, pw_zero, pw_zero, CR.one_mul, Go.Fg.mul_one, Go.Fg.add_zero, Nat.sub_zero, CR.add_comm]
theorem Adu {q : Nat} (hq : 1 ≤ q) (h : ∀ i, 0 < i → i < q → nc R (cX q i) = 0) (k : Nat) (f : Nat → R) : Go.Fg.pw (sm k f) q = sm k fun i => Go.Fg.pw (f i) q := by
 induction k with
 | zero => exact Aaz (by omega)
 | succ k ih => rw [cB, cB, Ap5 hq h, ih]
def dE (a : PS R) : PS (PS R) := ⟨fun i => C (a.c i)⟩
theorem qE (a : PS R) (i : Nat) : (dE a).c i = C (a.c i) := rfl
theorem Adq (a b : PS R) : dE (a * b) = dE a * dE b := vL a b
theorem Acl (a : PS R) (k : Nat) : dE (Go.Fg.pw a k) = Go.Fg.pw (dE a) k := (Ad5 a k).symm
theorem S0 (k : Nat) (u : Nat → PS R) : dE (sm k u) = sm k fun i => dE (u i) := K2 k u
theorem Aox (r : R) : dE (C r) = C (C r) := PS.ext (fun i => by
 show C ((C r).c i) = _
 rw [dN, dN]
 split
 · rfl
 · exact C_zero)
theorem Ajn : dE (X : PS R) = X := PS.ext (fun i => by
 show C ((X : PS R).c i) = _
 rw [qN, qN]
 split
 · rfl
 · exact C_zero)
theorem lS {a : PS R} (h : a.c 0 = 0) : (dE a).c 0 = 0 := by rw [qE, h, C_zero]
theorem P8 {N : Nat} {a b : PS R} (h : Ag N a b) : Ag N (dE a) (dE b) := fun i hi => by rw [qE, qE, h i hi]
theorem Akw (N : Nat) (f : PS (PS R)) (a b : PS R) : bG N (up f) (dE a) (dE b) = dE (bG N f a b) := by
 unfold bG
 rw [S0]
 refine bS (fun i _ => ?_)
 rw [S0]
 refine bS (fun j _ => ?_)
 rw [Adq, Adq, Acl, Acl, Aox, pH]
theorem LwN.up {f : PS (PS R)} {N : Nat} (L : LwN f N) : LwN (up f) N where
 pos := L.pos
 z0 := by rw [pH, L.z0, C_zero]
 z1 := by rw [pH, L.z1]; rfl
 zz i h1 h2 := by rw [pH, L.zz i h1 h2, C_zero]
 sym i j h := by rw [pH, pH, L.sym i j h]
 as p q k h := by
   have e := congrArg C (L.as p q k h)
   rw [oA, oA] at e
   refine Eq.trans (bS (fun i _ => ?_)) (e.trans (bS (fun i _ => ?_)))
   · rw [Ad9, ← nV]; rfl
   · rw [Ad9, ← nV]; rfl
theorem Abq {f : PS (PS R)} {N : Nat} (L : LwN f N) (a : Cv R N) : ∀ k, L.up.G.nm k (cv N (dE a.1)) = cv N (dE (L.G.nm k a).1)
 | 0 => by
   show cv N 0 = cv N (dE (cv N (0 : PS R)).1)
   refine jU (fun i hi => ?_)
   rw [qE, fZ (a := (0 : PS R)) rfl i hi, lT, lT, C_zero]
 | k + 1 => by
   show L.up.G.ad (L.up.G.nm k (cv N (dE a.1))) (cv N (dE a.1)) = cv N (dE (L.G.ad (L.G.nm k a) a).1)
   rw [Abq L a k, L.up.ad_cv (lS (L.G.nm k a).2.1) (lS a.2.1), Akw]
   exact jU (P8 (fZ (L.e0 (L.G.nm k a).2.1 a.2.1)).symm)
theorem Ak0 {f : PS (PS R)} {N : Nat} (L : LwN f N) {r : PS R} {M q : Nat} (hr0 : r.c 0 = 0) (hr : cv N r = L.G.nm M (cv N X)) (hq : 1 ≤ q ∧ q < N) (hl : ∀ i, i < q → r.c i = 0) {i : Nat} (hi : 0 < i ∧ i < q) :
   r.c q * nc R (cX q i) = 0 := by
 have c20 : (mono 1 (X : PS R) : PS (PS R)).c 0 = 0 := rfl
 have X0 : (X : PS (PS R)).c 0 = 0 := rfl
 have hX : cv N (dE (cv N (X : PS R)).1) = cv N (X : PS (PS R)) := jU ((P8 (fZ pZ)).trans (Ag.of_eq Ajn))
 have hN : L.up.G.nm M (cv N (X : PS (PS R))) = cv N (dE r) := by
   rw [← hX, Abq L (cv N X) M, ← hr]
   exact jU (P8 (fZ hr0))
 have w0 := L.up.e0 X0 c20
 have h1 : L.up.G.nm M (cv N (bG N (up f) X (mono 1 X))) = cv N (dG (dE r) (bG N (up f) X (mono 1 X))) := by
   rw [← Aa3 w0, ← L.up.sb_nm w0, hN, N1 (lS hr0)]
 have h2 : L.up.G.nm M (cv N (mono 1 (X : PS R))) = cv N (dG (dE r) (mono 1 X)) := by
   rw [← Aa3 c20, ← L.up.sb_nm c20, hN, N1 (lS hr0)]
 have h3 : cv N (dG (dE r) (bG N (up f) X (mono 1 X))) = cv N (bG N (up f) (dE r) (dG (dE r) (mono 1 X))) := by
   rw [← h1, ← L.up.ad_cv X0 c20, L.up.G.nm_ad, hN, h2, L.up.ad_cv (lS hr0) (sO (lS hr0))]
 have h4 := (Art (sO (lS hr0)) (L.up.e0 (lS hr0) (sO (lS hr0)))).1 h3 q hq.2
 have lowc : ∀ (w : PS (PS R)), w.c 0 = 0 → ∀ j, j ≤ q → (dG (dE r) w).c j = if j = q then C (r.c q) * Go.Fg.pw (w.c 1) q else 0 := fun w hw j hj => by
   rw [← Z0 hw (q + 1) j (by omega)]
   unfold fR
   rw [sm_c, eQ q (by omega) (fun k hk hne => by rw [C_mul, Nat.zero_add, qE, hl k (by omega), C_zero, Go.Fg.zero_mul]), C_mul, Nat.zero_add, qE]
   by_cases e : j = q
   · rw [if_pos e, e, wP hw]
   · rw [if_neg e, gR hw q j (by omega), Go.Fg.mul_zero]
 obtain ⟨k, rfl⟩ : ∃ k, q = k + 1 := ⟨q - 1, by omega⟩
 rw [lowc _ w0 (k + 1) (by omega), if_pos rfl, L.up.lead (lS hr0) (sO (lS hr0)) hq.2 (fun j hj => by rw [lowc _ c20 j (by omega), if_neg (by omega)]) (k + 1) (by omega), add_c, lowc _ c20 (k + 1) (by omega), if_pos rfl, qE] at h4
 have w1 : (bG N (up f) X (mono 1 (X : PS R))).c 1 = X + 1 := by
   rw [L.up.lead X0 c20 (k := 0) (by have := L.pos; omega) (fun j hj => by rw [show j = 0 by omega]; rfl) 1 (by omega), add_c, CR.add_comm]; rfl
 rw [w1] at h4
 have h5 := congrArg (fun z : PS R => z.c i) h4
 simp only [add_c] at h5
 have e1 : (C (r.c (k + 1)) * Go.Fg.pw (X + 1 : PS R) (k + 1)).c i = r.c (k + 1) * nc R (cX (k + 1) i) := by
   rw [C_mul, H3, sm_c]
   congr 1
   rw [eQ i (by omega) (fun a ha hne => by
     rw [wI, C_mul, tN, Go.Fg.mul_one]
     show _ * (Go.Fg.pw (mono 1 1 : PS R) a).c i = 0
     rw [rE, tN, cK, if_neg (by omega), Go.Fg.mul_zero]), wI, C_mul, tN, Go.Fg.mul_one]
   show _ * (Go.Fg.pw (mono 1 1 : PS R) i).c i = _
   rw [rE, tN, cK, if_pos (by omega), Go.Fg.mul_one]
 have e2 : (C (r.c (k + 1))).c i = 0 := by rw [dN, if_neg (by omega)]
 have e3 : (C (r.c (k + 1)) * Go.Fg.pw ((mono 1 (X : PS R) : PS (PS R)).c 1) (k + 1)).c i = 0 := by
   rw [C_mul]
   show _ * (Go.Fg.pw (mono 1 1 : PS R) (k + 1)).c i = 0
   rw [rE, tN, cK, if_neg (by omega), Go.Fg.mul_zero]
 rw [e1, e2, e3, CR.zero_add] at h5
 exact h5
end
end PS
end Go.Fg
namespace Go.Fg
set_option linter.unusedVariables false
set_option linter.unusedSimpArgs false
set_option linter.unusedSectionVars false
namespace PS
section
variable {m : Int}
theorem bF.pw {q : Nat} {f g : PS (PS (Zm m))} (h : bF q f g) : ∀ k, bF q (Go.Fg.pw f k) (Go.Fg.pw g k)
 | 0 => bF.rfl
 | k + 1 => (bF.pw h k).mul h
theorem bF.sm {q k : Nat} {f g : Nat → PS (PS (Zm m))} (h : ∀ i, i < k → bF q (f i) (g i)) : bF q (Go.Fg.sm k f) (Go.Fg.sm k g) := fun i j hi hj => by
 rw [sm_c, sm_c, sm_c, sm_c]
 exact bS (fun a ha => h a ha i j hi hj)
theorem bF.sm_drop {q n k : Nat} {f : Nat → PS (PS (Zm m))} (hk : n ≤ k) (h : ∀ i, n ≤ i → i < k → bF q (f i) 0) : bF q (Go.Fg.sm k f) (Go.Fg.sm n f) := fun i j hi hj => by
 rw [sm_c, sm_c, sm_c, sm_c]
 exact uA hk (fun a h1 h2 => by rw [h a h1 h2 i j hi hj]; rfl)
theorem Aa1 {f : PS (PS (Zm m))} (f0 : (f.c 0).c 0 = 0) {q : Nat} (hq : 1 ≤ q) (h : ∀ i, 0 < i → i < q → nc (Zm m) (cX q i) = 0) : bF q (Go.Fg.pw f q) 0 := by
 have e : bF q f (Go.Fg.sm q fun i => mono i (f.c i)) := fun i j hi hj => by
   rw [sm_c, eQ i hi (fun a _ hne => by rw [cK, if_neg (Ne.symm hne)]), cK, if_pos rfl]
 refine (bF.pw e q).trans ?_
 have hb : ∀ i, 0 < i → i < q → nc (PS (PS (Zm m))) (cX q i) = 0 := fun i h1 h2 => by rw [wI, wI, h i h1 h2, C_zero, C_zero]
 rw [Adu hq hb]
 intro i j hi hj
 rw [sm_c, eQ 0 (by omega) (fun a _ hne => by
   rw [rE, cK, if_neg (by
     intro e2
     have : q * 1 ≤ q * a := Nat.mul_le_mul (Nat.le_refl q) (by omega)
     omega)]), rE, cK, Nat.mul_zero]
 split
 · rw [gR f0 q j hj]; rfl
 · rfl
theorem Aau {f : PS (PS (Zm m))} {q : Nat} (h : bF q (Go.Fg.pw f q) 0) {k : Nat} (hk : q ≤ k) : bF q (Go.Fg.pw f k) 0 := by
 rw [show k = q + (k - q) by omega, B3]
 exact (h.mul bF.rfl).trans (bF.of_eq (Go.Fg.zero_mul _))
theorem Alx {f : PS (PS (Zm m))} {q : Nat} (hv : ∀ k, q ≤ k → bF q (Go.Fg.pw f k) 0) (a b : PS (Zm m)) : bF q (bC (a * b) f 0 q) (bC a f 0 q * bC b f 0 q) := by
 cases q with
 | zero => exact fun i j hi => absurd hi (by omega)
 | succ n =>
   have e1 : bC (a * b) f 0 (n + 1) = Go.Fg.sm (n + 1) fun i => Go.Fg.sm (n - i + 1) fun j => C (C (a.c i * b.c j)) * Go.Fg.pw f (i + j) := by
     rw [← H9]
     unfold bC
     refine bS (fun k hk => ?_)
     rw [Nat.zero_add, cN, oA, oA, jK]
     exact bS (fun i hi => by rw [show i + (k - i) = k by omega])
   have e2 : bC a f 0 (n + 1) * bC b f 0 (n + 1) = Go.Fg.sm (n + 1) fun i => Go.Fg.sm (n + 1) fun j => C (C (a.c i * b.c j)) * Go.Fg.pw f (i + j) := by
     unfold bC
     rw [jK]
     refine bS (fun i _ => ?_)
     rw [nB]
     refine bS (fun j _ => ?_)
     rw [Nat.zero_add, Nat.zero_add, ← nV, ← nV, B3]
     ac_rfl
   rw [e1, e2]
   refine bF.sm (fun i hi => (bF.sm_drop (by omega) (fun j h1 h2 => ?_)).symm)
   exact (bF.mul bF.rfl (hv (i + j) (by omega))).trans (bF.of_eq (Go.Fg.mul_zero _))
end
end PS
end Go.Fg
