import Derived.Test.YtndhpcigpghejaaGreatAlg21
namespace Go.Fg
set_option linter.unusedVariables false
set_option linter.unusedSectionVars false
namespace PS
variable {R : Type} [CR R]
def cuP (N : Nat) (f : PS (PS R)) (c : Nat → R) : Nat → PS R
 | 0 => 0
 | k + 1 => evT N f (cuP N f c k) (mono (k + 1) (c k))
def cur (N : Nat) (f : PS (PS R)) (a : PS R) : Nat → PS R
 | 0 => 0
 | k + 1 => evT N f (cur N f a k) (mono (k + 1) (a.c (k + 1) - (cur N f a k).c (k + 1)))
def coo (N : Nat) (f : PS (PS R)) (a : PS R) (k : Nat) : R := a.c (k + 1) - (cur N f a k).c (k + 1)
theorem cuP_coo (N : Nat) (f : PS (PS R)) (a : PS R) : ∀ k, cuP N f (coo N f a) k = cur N f a k
 | 0 => rfl
 | k + 1 => by
   show evT N f (cuP N f (coo N f a) k) _ = evT N f (cur N f a k) _
   rw [cuP_coo N f a k]; rfl
section
variable {f : PS (PS R)} {N : Nat} (L : LwN f N)
include L
end
end PS
end Go.Fg
namespace Go.Fg
set_option linter.unusedVariables false
set_option linter.unusedSectionVars false
section
variable {R : Type} [CR R]
def nc (R : Type) [CR R] : Nat → R
 | 0 => 0
 | n + 1 => nc R n + 1
theorem nc_add (a b : Nat) : nc R (a + b) = nc R a + nc R b := by
 induction b with
 | zero => show nc R a = nc R a + 0; rw [add_zero]
 | succ b ih => show nc R (a + b) + 1 = nc R a + (nc R b + 1); rw [ih, CR.add_assoc]
theorem nc_one : nc R 1 = 1 := by show (0 : R) + 1 = 1; exact CR.zero_add 1
end
namespace PS
variable {R : Type} [CR R]
theorem nc_C (k : Nat) : nc (PS R) k = C (nc R k) := by
 induction k with
 | zero => show (0 : PS R) = C 0; rw [C_zero]
 | succ k ih => show nc (PS R) k + 1 = C (nc R k + 1); rw [ih, ← C_add_C, C_one]
def dS (a : PS R) : PS R := ⟨fun n => nc R (n + 1) * a.c (n + 1)⟩
theorem dS_c (a : PS R) (n : Nat) : (dS a).c n = nc R (n + 1) * a.c (n + 1) := rfl
theorem dS_add (a b : PS R) : dS (a + b) = dS a + dS b := by
 ext n; rw [add_c, dS_c, dS_c, dS_c, add_c, CR.mul_add]
theorem dS_zero : dS (0 : PS R) = 0 := by ext n; rw [dS_c, zero_c, zero_c, Go.Fg.mul_zero]
theorem dS_C (r : R) : dS (C r) = 0 := by ext n; rw [dS_c, C_c, if_neg (by omega), zero_c, Go.Fg.mul_zero]
theorem dS_sm (k : Nat) (g : Nat → PS R) : dS (sm k g) = sm k fun i => dS (g i) := by
 induction k with
 | zero => exact dS_zero
 | succ k ih => rw [sm_succ, sm_succ, dS_add, ih]
theorem dS_mul (a b : PS R) : dS (a * b) = dS a * b + a * dS b := by
 ext n
 rw [add_c, dS_c, mul_c, mul_c, mul_c, sm_mul]
 have e : sm (n + 1 + 1) (fun i => nc R (n + 1) * (a.c i * b.c (n + 1 - i))) = sm (n + 1 + 1) (fun i => nc R i * a.c i * b.c (n + 1 - i)) + sm (n + 1 + 1) (fun i => a.c i * (nc R (n + 1 - i) * b.c (n + 1 - i))) := by
   rw [← sm_add]
   refine sm_congr (fun i hi => ?_)
   have : nc R (n + 1) = nc R i + nc R (n + 1 - i) := by rw [← nc_add, show i + (n + 1 - i) = n + 1 by omega]
   rw [this, Go.Fg.add_mul]
   congr 1 <;> ac_rfl
 rw [e]
 congr 1
 · rw [sm_succ_left (n + 1)]
   show (0 : R) * a.c 0 * _ + _ = _
   rw [Go.Fg.zero_mul, Go.Fg.zero_mul, CR.zero_add]
   exact sm_congr (fun i hi => by rw [dS_c, show n + 1 - (i + 1) = n - i by omega])
 · rw [sm_succ (n + 1), show n + 1 - (n + 1) = 0 by omega]
   show _ + a.c (n + 1) * ((0 : R) * b.c 0) = _
   rw [Go.Fg.zero_mul, Go.Fg.mul_zero, Go.Fg.add_zero]
   exact sm_congr (fun i hi => by rw [dS_c, show n + 1 - i = n - i + 1 by omega])
theorem dS_pw (a : PS R) : ∀ k, dS (Go.Fg.pw a (k + 1)) = nc (PS R) (k + 1) * (Go.Fg.pw a k * dS a)
 | 0 => by
   rw [pw_one, pw_zero, CR.one_mul]
   show _ = (0 + 1 : PS R) * _
   rw [CR.zero_add, CR.one_mul]
 | k + 1 => by
   rw [pw_succ a (k + 1), dS_mul, dS_pw a k]
   show _ = (nc (PS R) (k + 1) + 1) * _
   rw [Go.Fg.add_mul, CR.one_mul, pw_succ a k]
   congr 1
   ac_rfl
theorem dS_CC (r : R) (g : PS (PS R)) : dS (C (C r) * g) = C (C r) * dS g := by rw [dS_mul, dS_C, Go.Fg.zero_mul, CR.zero_add]
theorem dS_comp2N (a : PS R) (f : PS (PS R)) (K : Nat) : dS (comp2N a f 0 (K + 1)) = comp2N (dS a) f 0 K * dS f := by
 unfold comp2N
 rw [dS_sm, sm_succ_left, sm_mul_right, Nat.add_zero, pw_zero, Go.Fg.mul_one, dS_C, CR.zero_add]
 refine sm_congr (fun i hi => ?_)
 rw [dS_CC, dS_pw, dS_c, Nat.zero_add, Nat.zero_add, nc_C, nc_C, ← C_mul_C, ← C_mul_C]
 ac_rfl
section
variable {m : Int}
theorem CC_cc (r : Zm m) (g : PS (PS (Zm m))) (i j : Nat) : ((C (C r) * g).c i).c j = r * (g.c i).c j := by rw [C_mul, C_mul]
theorem Ag2.sm_drop {N n k : Nat} {f : Nat → PS (PS (Zm m))} (hk : n ≤ k) (h : ∀ i, n ≤ i → i < k → Ag2 N (f i) 0) : Ag2 N (Go.Fg.sm k f) (Go.Fg.sm n f) := fun i j hij => by
 rw [sm_c, sm_c, sm_c, sm_c]
 exact sm_ext hk (fun q h1 h2 => by rw [h q h1 h2 i j hij]; rfl)
theorem Ag2.low_pw {N k : Nat} {f : PS (PS (Zm m))} (h0 : (f.c 0).c 0 = 0) (h : N ≤ k) (r : Zm m) : Ag2 N (C (C r) * Go.Fg.pw f k) 0 := fun i j hij => by
 rw [CC_cc, pw_low2 h0 k i j (by omega), Go.Fg.mul_zero]; rfl
theorem comp2N_mul {f : PS (PS (Zm m))} (h0 : (f.c 0).c 0 = 0) (a b : PS (Zm m)) : ∀ N, Ag2 N (comp2N (a * b) f 0 N) (comp2N a f 0 N * comp2N b f 0 N)
 | 0 => fun i j hij => absurd hij (by omega)
 | n + 1 => by
   have e1 : comp2N (a * b) f 0 (n + 1) = Go.Fg.sm (n + 1) fun i => Go.Fg.sm (n - i + 1) fun j => C (C (a.c i * b.c j)) * Go.Fg.pw f (i + j) := by
     rw [← sm_tri]
     unfold comp2N
     refine sm_congr (fun k hk => ?_)
     rw [Nat.zero_add, mul_c, C_sm, C_sm, sm_mul_right]
     exact sm_congr (fun i hi => by rw [show i + (k - i) = k by omega])
   have e2 : comp2N a f 0 (n + 1) * comp2N b f 0 (n + 1) = Go.Fg.sm (n + 1) fun i => Go.Fg.sm (n + 1) fun j => C (C (a.c i * b.c j)) * Go.Fg.pw f (i + j) := by
     unfold comp2N
     rw [sm_mul_right]
     refine sm_congr (fun i _ => ?_)
     rw [sm_mul]
     refine sm_congr (fun j _ => ?_)
     rw [Nat.zero_add, Nat.zero_add, ← C_mul_C, ← C_mul_C, pw_add]
     ac_rfl
   rw [e1, e2]
   exact Ag2.sm (fun i hi => (Ag2.sm_drop (by omega) (fun j h1 h2 => Ag2.low_pw h0 (by omega) _)).symm)
theorem comp2N_one {f : PS (PS (Zm m))} {N : Nat} (hN : 1 ≤ N) : comp2N 1 f 0 N = 1 := by
 unfold comp2N
 rw [sm_one 0 (by omega) (fun i _ h => by rw [Nat.zero_add, one_c, if_neg h, C_zero, C_zero, Go.Fg.zero_mul]), pw_zero, Go.Fg.mul_one]
 rfl
theorem comp2N_pw {f : PS (PS (Zm m))} (h0 : (f.c 0).c 0 = 0) (a : PS (Zm m)) {N : Nat} (hN : 1 ≤ N) : ∀ k, Ag2 N (comp2N (Go.Fg.pw a k) f 0 N) (Go.Fg.pw (comp2N a f 0 N) k)
 | 0 => Ag2.of_eq (comp2N_one hN)
 | k + 1 => (comp2N_mul h0 _ a N).trans ((comp2N_pw h0 a hN k).mul Ag2.rfl)
theorem comp2N_sm {f : PS (PS (Zm m))} (k : Nat) (u : Nat → PS (Zm m)) (N : Nat) : comp2N (Go.Fg.sm k u) f 0 N = Go.Fg.sm k fun i => comp2N (u i) f 0 N := by
 unfold comp2N
 rw [sm_swap]
 refine sm_congr (fun i _ => ?_)
 rw [sm_c, C_sm, C_sm, sm_mul_right]
theorem comp2N_Cmul {f : PS (PS (Zm m))} (r : Zm m) (a : PS (Zm m)) (N : Nat) : comp2N (C r * a) f 0 N = C (C r) * comp2N a f 0 N := by
 unfold comp2N
 rw [sm_mul]
 refine sm_congr (fun i _ => ?_)
 rw [C_mul, ← C_mul_C, ← C_mul_C, CR.mul_assoc]
theorem comp2N_comp {f : PS (PS (Zm m))} (h0 : (f.c 0).c 0 = 0) (e a : PS (Zm m)) {N : Nat} (hN : 1 ≤ N) : Ag2 N (comp2N (compN e a 0 N) f 0 N) (comp2N e (comp2N a f 0 N) 0 N) := by
 unfold compN
 rw [comp2N_sm]
 refine Ag2.sm (fun i _ => ?_)
 rw [comp2N_Cmul]
 exact Ag2.rfl.mul (comp2N_pw h0 a hN i)
theorem nc_mk (k : Nat) : nc (Zm m) k = Zm.mk m k := by
 induction k with
 | zero => rfl
 | succ k ih => show nc (Zm m) k + 1 = _; rw [ih, ← Zm.mk_one, ← Zm.mk_add]; rfl
theorem pw_row (f : PS (PS (Zm m))) : ∀ k, (Go.Fg.pw f k).c 0 = Go.Fg.pw (f.c 0) k
 | 0 => rfl
 | k + 1 => by rw [pw_succ, pw_succ, mul_c0, pw_row f k]
theorem pw_X (k : Nat) : Go.Fg.pw (X : PS (Zm m)) k = mono k 1 := by
 have : (X : PS (Zm m)) = mono 1 1 := rfl
 rw [this, pw_mono, one_pw, Nat.mul_one]
theorem X_0c {f : PS (PS (Zm m))} {N : Nat} (L : LwN f N) : Ag N (f.c 0) X := fun j hj => by
 rw [L.sym 0 j (by omega), X_c]
 by_cases h : j = 1
 · rw [h, if_pos rfl, L.z1]
 · rw [if_neg h, L.zz j hj h]
theorem pw_c1 {f : PS (PS (Zm m))} {N : Nat} (L : LwN f N) (k : Nat) : Ag N ((Go.Fg.pw f (k + 1)).c 1) (C (nc (Zm m) (k + 1)) * (mono k 1 * f.c 1)) := by
 have e : (dS (Go.Fg.pw f (k + 1))).c 0 = (Go.Fg.pw f (k + 1)).c 1 := by
   rw [dS_c, Nat.zero_add, nc_one]; exact CR.one_mul _
 rw [← e, dS_pw, mul_c0, mul_c0, nc_C, C_c, if_pos rfl, pw_row, dS_c, Nat.zero_add, nc_one, CR.one_mul, nc_C]
 refine Ag.rfl.mul (Ag.mul ?_ Ag.rfl)
 rw [← pw_X]
 exact (X_0c L).pw k
theorem LwN.diff {f : PS (PS (Zm m))} {N : Nat} (L : LwN f N) : Ag2 (N - 1) (dS f * axX (f.c 1)) (comp2N (f.c 1) f 0 (N - 1)) := fun q k hqk => by
 have hN := L.pos
 have h := L.as 1 q k (by omega)
 have e2 : ((comp2N (f.c 1) f 0 (N - 1)).c q).c k = Go.Fg.sm (N - 1) (fun j => (f.c 1).c j * ((Go.Fg.pw f j).c q).c k) := by
   unfold comp2N
   rw [sm_c, sm_c]
   exact sm_congr (fun i _ => by rw [CC_cc, Nat.zero_add])
 rw [e2, ← h, mul_c, sm_c]
 obtain ⟨M, hM⟩ : ∃ M, N - k = M + 1 := ⟨N - k - 1, by omega⟩
 rw [hM, sm_succ_left M]
 have z : (f.c 0).c k * ((Go.Fg.pw f 0).c 1).c q = 0 := Go.Fg.mul_zero _
 rw [z, CR.zero_add]
 rw [sm_ext (n := q + 1) (k := M) (by omega) (fun i h1 h2 => by
   rw [pw_c1 L i q (by omega), C_mul, mono_mul_c, if_pos (by omega), Go.Fg.mul_zero, Go.Fg.mul_zero])]
 refine sm_congr (fun i hi => ?_)
 rw [pw_c1 L i q (by omega), C_mul, mono_mul_c, if_neg (by omega), CR.one_mul, dS_c, nc_C]
 show ((C (nc (Zm m) (i + 1)) * f.c (i + 1)) * C ((f.c 1).c (q - i))).c k = _
 rw [CR.mul_comm, C_mul, C_mul]
 ac_rfl
theorem LwN.log {f : PS (PS (Zm m))} {N : Nat} (L : LwN f N) {l q : PS (Zm m)} (hq : Ag (N - 1) (q * f.c 1) 1) (hl : Ag (N - 1) (dS l) q) (h0 : l.c 0 = 0)
   (hu : ∀ i, 1 ≤ i → i < N → ∃ u, nc (Zm m) i * u = 1) : Ag2 N (comp2N l f 0 N) (axX l + axY l) := by
 have hN := L.pos
 obtain ⟨K, rfl⟩ : ∃ K, N = K + 1 := ⟨N - 1, by omega⟩
 rw [Nat.add_sub_cancel] at hq hl
 have hd := L.diff
 rw [Nat.add_sub_cancel] at hd
 have h1 : Ag2 K (dS (comp2N l f 0 (K + 1)) * axX (f.c 1)) 1 := by
   rw [dS_comp2N, CR.mul_assoc]
   refine (Ag2.mul (comp2N_congr (b := q) (fun i _ hi => hl i (by omega)) Ag2.rfl) hd).trans ?_
   refine (comp2N_mul L.z0 _ _ K).symm.trans ?_
   refine (comp2N_congr (b := 1) (fun i _ hi => hq i (by omega)) Ag2.rfl).trans (Ag2.of_eq (comp2N_one (by omega)))
 have h2 : Ag2 K (axX (f.c 1) * axX q) 1 := by
   rw [← axX_mul, ← axX_one]
   exact axX_ag (by rw [CR.mul_comm]; exact hq)
 have h3 : Ag2 K (dS (comp2N l f 0 (K + 1))) (axX q) := by
   have := (h1.mul (Ag2.rfl (f := axX q)))
   rw [CR.one_mul, CR.mul_assoc] at this
   refine Ag2.trans ?_ this
   refine (Ag2.trans (Ag2.of_eq (Go.Fg.mul_one _).symm) (Ag2.rfl.mul h2.symm))
 intro i j hij
 rw [add_c, add_c, axX_c, axY_c]
 cases i with
 | zero =>
   rw [if_pos rfl]
   have e : ((comp2N l f 0 (K + 1)).c 0).c j = l.c j := by
     unfold comp2N
     rw [sm_c, sm_c]
     have : ∀ i, ((C (C (l.c (0 + i))) * Go.Fg.pw f i).c 0).c j = if i = j then l.c j else 0 := fun i => by
       rw [CC_cc, pw_row, (X_0c L).pw i j (by omega), pw_X, mono_c, Nat.zero_add]
       by_cases e : i = j
       · rw [if_pos e, if_pos e.symm, e, Go.Fg.mul_one]
       · rw [if_neg e, if_neg (Ne.symm e), Go.Fg.mul_zero]
     rw [sm_congr (fun i _ => this i), sm_one j (by omega) (fun i _ h => if_neg h), if_pos rfl]
   rw [e]
   by_cases hj : j = 0
   · rw [if_pos hj, h0, CR.zero_add]
   · rw [if_neg hj, CR.zero_add]
 | succ i =>
   rw [if_neg (Nat.succ_ne_zero i), Go.Fg.add_zero]
   have h4 := h3 i j (by omega)
   rw [dS_c, nc_C, C_mul, axX_c] at h4
   obtain ⟨u, hu⟩ := hu (i + 1) (by omega) (by omega)
   have c : ∀ x y : Zm m, nc (Zm m) (i + 1) * x = nc (Zm m) (i + 1) * y → x = y := fun x y h => by
     have : u * (nc (Zm m) (i + 1) * x) = u * (nc (Zm m) (i + 1) * y) := by rw [h]
     rwa [← CR.mul_assoc, ← CR.mul_assoc, CR.mul_comm u, hu, CR.one_mul, CR.one_mul] at this
   apply c
   rw [h4]
   by_cases hj : j = 0
   · rw [if_pos hj, if_pos hj, ← hl i (by omega), dS_c]
   · rw [if_neg hj, if_neg hj, Go.Fg.mul_zero]
end
end PS
end Go.Fg
