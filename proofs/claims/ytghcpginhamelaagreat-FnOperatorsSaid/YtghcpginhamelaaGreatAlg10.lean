import Derived.Test.YtghcpginhamelaaGreatAlg9
set_option linter.unusedVariables false
set_option linter.unusedSimpArgs false
set_option linter.unusedSectionVars false
namespace Go.Fg
open CR PS
variable {m : Int}
def cZ (k : Nat) (ρ a : PS (Zm m)) : PS (Zm m) := ⟨fun j => if j < k then (if j = 0 then 0 else a.c (j - 1)) + a.c (k - 1) * ρ.c j else 0⟩
def bP (k : Nat) (ρ : PS (Zm m)) : Nat → PS (Zm m) → PS (Zm m)
 | 0, b => b
 | i + 1, b => cZ k ρ (bP k ρ i b)
def kZ (k : Nat) (ρ a b : PS (Zm m)) (i : Nat) : PS (Zm m) := sm i fun i => PS.C (a.c i) * bP k ρ i b
def dC (k : Nat) (ρ a b : PS (Zm m)) : PS (Zm m) := kZ k ρ a b k
theorem dI (k : Nat) (ρ a : PS (Zm m)) (j : Nat) : (cZ k ρ a).c j = if j < k then (if j = 0 then 0 else a.c (j - 1)) + a.c (k - 1) * ρ.c j else 0 := Eq.refl _
theorem At3 (k : Nat) (ρ a b : PS (Zm m)) : kZ k ρ a b 0 = 0 := Eq.refl _
theorem Ast (k : Nat) (ρ a b : PS (Zm m)) (i : Nat) : kZ k ρ a b (i + 1) = kZ k ρ a b i + PS.C (a.c i) * bP k ρ i b := Eq.refl _
theorem Aqn (k : Nat) (ρ a b : PS (Zm m)) (i j : Nat) : (kZ k ρ a b i).c j = sm i fun i => a.c i * (bP k ρ i b).c j := by
 unfold kZ; rw [sm_c]; exact aR (fun i _ => C_mul _ _ _)
theorem eM (k : Nat) (ρ a b : PS (Zm m)) (j : Nat) : (dC k ρ a b).c j = sm k fun i => a.c i * (bP k ρ i b).c j := Aqn k ρ a b k j
theorem C2 {k i : Nat} (ρ : PS (Zm m)) (h : i < k) (j : Nat) : (bP k ρ i (1 : PS (Zm m))).c j = if j = i then 1 else 0 := by
 induction i generalizing j with
 | zero => exact PS.one_c j
 | succ i ih =>
   show (cZ k ρ (bP k ρ i 1)).c j = _
   rw [dI]
   by_cases hj : j < k
   · rw [if_pos hj, ih (by omega), ih (by omega), if_neg (show ¬ k - 1 = i by omega), Go.Fg.zero_mul, Go.Fg.add_zero]
     by_cases h0 : j = 0
     · rw [if_pos h0, if_neg (by omega)]
     · rw [if_neg h0]
       by_cases h1 : j = i + 1
       · rw [if_pos (by omega), if_pos h1]
       · rw [if_neg (by omega), if_neg h1]
   · rw [if_neg hj, if_neg (by omega)]
theorem Ait (k : Nat) (ρ a : PS (Zm m)) (x : Zm m) : cZ k ρ (PS.C x * a) = PS.C x * cZ k ρ a := by
 ext j
 rw [C_mul, dI, dI, C_mul, C_mul]
 by_cases hj : j < k
 · rw [if_pos hj, if_pos hj, CR.mul_add]
   by_cases h0 : j = 0
   · rw [if_pos h0, if_pos h0, Go.Fg.mul_zero, CR.mul_assoc]
   · rw [if_neg h0, if_neg h0, CR.mul_assoc]
 · rw [if_neg hj, if_neg hj, Go.Fg.mul_zero]
theorem Aff (k : Nat) (ρ a : PS (Zm m)) (x : Zm m) (i : Nat) : bP k ρ i (PS.C x * a) = PS.C x * bP k ρ i a := by
 induction i with
 | zero => exact Eq.refl _
 | succ i ih => show cZ k ρ (bP k ρ i _) = PS.C x * cZ k ρ (bP k ρ i a); rw [ih, Ait]
theorem J7 (k : Nat) (ρ s : PS (Zm m)) (x : Zm m) {j : Nat} (hj : j < k) : (dC k ρ s (PS.C x)).c j = (PS.C x * s).c j := by
 rw [eM, C_mul, cE j hj (fun i hi hne => ?_)]
 · rw [← Go.Fg.mul_one (PS.C x), Aff, C_mul, C2 ρ hj, if_pos (Eq.refl _), Go.Fg.mul_one, CR.mul_comm]
 · rw [← Go.Fg.mul_one (PS.C x), Aff, C_mul, C2 ρ hi, if_neg (fun e => hne e.symm), Go.Fg.mul_zero, Go.Fg.mul_zero]
theorem Aoo (k : Nat) (ρ b : PS (Zm m)) (i : Nat) : bP k ρ i (cZ k ρ b) = cZ k ρ (bP k ρ i b) := by
 induction i with
 | zero => exact Eq.refl _
 | succ i ih => show cZ k ρ (bP k ρ i (cZ k ρ b)) = _; rw [ih]; exact Eq.refl _
theorem Adb (k : Nat) (ρ a : PS (Zm m)) {j : Nat} (hj : j < k) : (dC k ρ a (cZ k ρ 1)).c j = (cZ k ρ a).c j := by
 rw [eM, dI, if_pos hj]
 rw [aR (g := fun i => a.c i * ((if j = 0 then 0 else if j - 1 = i then 1 else 0) + (if k - 1 = i then 1 else 0) * ρ.c j)) (fun i hi => by
   rw [Aoo, dI, if_pos hj, C2 ρ hi, C2 ρ hi])]
 rw [aR (g := fun i => (if j = 0 then 0 else if j - 1 = i then a.c i else 0) + (if k - 1 = i then a.c i * ρ.c j else 0)) (fun i hi => by
   rw [CR.mul_add]
   congr 1
   · by_cases h0 : j = 0
     · rw [if_pos h0, if_pos h0, Go.Fg.mul_zero]
     · rw [if_neg h0, if_neg h0]
       by_cases h1 : j - 1 = i
       · rw [if_pos h1, if_pos h1, Go.Fg.mul_one]
       · rw [if_neg h1, if_neg h1, Go.Fg.mul_zero]
   · by_cases h1 : k - 1 = i
     · rw [if_pos h1, if_pos h1, CR.one_mul]
     · rw [if_neg h1, if_neg h1, Go.Fg.zero_mul, Go.Fg.mul_zero])]
 rw [eU]
 congr 1
 · by_cases h0 : j = 0
   · rw [if_pos h0]
     exact cH (fun i _ => by rw [if_pos h0])
   · rw [if_neg h0, cE (j - 1) (by omega) (fun i _ hne => by rw [if_neg h0, if_neg (fun e => hne e.symm)]), if_neg h0, if_pos (Eq.refl _)]
 · rw [cE (k - 1) (by omega) (fun i _ hne => by rw [if_neg (fun e => hne e.symm)]), if_pos (Eq.refl _)]
theorem Alf {k : Nat} {ρ a b : PS (Zm m)} (h : Ag k a b) : Ag k (cZ k ρ a) (cZ k ρ b) := fun j hj => by
 rw [dI, dI, if_pos hj, if_pos hj, h (k - 1) (by omega)]
 by_cases h0 : j = 0
 · rw [if_pos h0, if_pos h0]
 · rw [if_neg h0, if_neg h0, h (j - 1) (by omega)]
theorem Avi {k : Nat} {ρ a b : PS (Zm m)} (h : Ag k a b) (i : Nat) : Ag k (bP k ρ i a) (bP k ρ i b) := by
 induction i with
 | zero => exact h
 | succ i ih => exact Alf ih
theorem tZ {k : Nat} {ρ a b a' b' : PS (Zm m)} (h : Ag k a a') (h2 : Ag k b b') : Ag k (dC k ρ a b) (dC k ρ a' b') := fun j hj => by
 rw [eM, eM]
 exact aR (fun i hi => by rw [h i hi, Avi h2 i j hj])
def gH (k : Nat) (ρ : PS (Zm m)) (f g : PS (PS (Zm m))) (i j : Nat) : PS (PS (Zm m)) :=
 ⟨fun n => sm i (fun a => if a ≤ n then dC k ρ (f.c a) (g.c (n - a)) else 0) + (if i ≤ n ∧ n - i < j then dC k ρ (f.c i) (g.c (n - i)) else 0)⟩
def fJ (k : Nat) (ρ : PS (Zm m)) (N : Nat) (f g : PS (PS (Zm m))) : PS (PS (Zm m)) := gH k ρ f g N 0
theorem lO (k : Nat) (ρ : PS (Zm m)) (f g : PS (PS (Zm m))) (i j n : Nat) : (gH k ρ f g i j).c n = sm i (fun a => if a ≤ n then dC k ρ (f.c a) (g.c (n - a)) else 0) + (if i ≤ n ∧ n - i < j then dC k ρ (f.c i) (g.c (n - i)) else 0) := Eq.refl _
theorem Ae6 (k : Nat) (ρ : PS (Zm m)) (f g : PS (PS (Zm m))) : gH k ρ f g 0 0 = 0 := by
 refine PS.ext (fun n => ?_)
 rw [lO, fD, if_neg (by omega)]
 exact CR.zero_add _
theorem Agf (k : Nat) (ρ : PS (Zm m)) (f g : PS (PS (Zm m))) (i j : Nat) : gH k ρ f g i (j + 1) = (gH k ρ f g i j).upd (i + j) ((gH k ρ f g i j).c (i + j) + dC k ρ (f.c i) (g.c j)) := by
 refine PS.ext (fun n => ?_)
 rw [bY, lO, lO, lO]
 by_cases h : n = i + j
 · subst h
   rw [if_pos (Eq.refl _), if_pos (by omega), if_neg (by omega), Go.Fg.add_zero, show i + j - i = j by omega]
 · rw [if_neg h]
   by_cases h1 : i ≤ n ∧ n - i < j
   · rw [if_pos h1, if_pos (by omega)]
   · rw [if_neg h1, if_neg (by omega)]
theorem Abo (k : Nat) (ρ : PS (Zm m)) (f g : PS (PS (Zm m))) {N i j : Nat} (h : N ≤ i + j) : ∀ n, n < N → (gH k ρ f g i j).c n = (gH k ρ f g (i + 1) 0).c n := fun n hn => by
 rw [lO, lO, bF, if_neg (show ¬ (i + 1 ≤ n ∧ n - (i + 1) < 0) by omega), Go.Fg.add_zero]
 congr 1
 by_cases h1 : i ≤ n
 · rw [if_pos ⟨h1, by omega⟩, if_pos h1]
 · rw [if_neg (by omega), if_neg h1]
def dV (k : Nat) (ρ : PS (Zm m)) (N : Nat) (a : PS (PS (Zm m))) : Nat → PS (PS (Zm m))
 | 0 => 1
 | i + 1 => fJ k ρ N (dV k ρ N a i) a
def dP (k : Nat) (ρ : PS (Zm m)) (N : Nat) (f a b : PS (PS (Zm m))) (i j : Nat) : PS (PS (Zm m)) :=
 sm i (fun i => sm (N - i) fun j => PS.C (PS.C ((f.c i).c j)) * fJ k ρ N (dV k ρ N a i) (dV k ρ N b j)) + sm j fun j => PS.C (PS.C ((f.c i).c j)) * fJ k ρ N (dV k ρ N a i) (dV k ρ N b j)
def gE (k : Nat) (ρ : PS (Zm m)) (N : Nat) (f a b : PS (PS (Zm m))) : PS (PS (Zm m)) := dP k ρ N f a b N 0
theorem Agv (k : Nat) (ρ : PS (Zm m)) (N : Nat) (f a b : PS (PS (Zm m))) : dP k ρ N f a b 0 0 = 0 := by
 unfold dP; exact CR.zero_add _
theorem N7 (k : Nat) (ρ : PS (Zm m)) (N : Nat) (f a b : PS (PS (Zm m))) (i j : Nat) : dP k ρ N f a b i (j + 1) = dP k ρ N f a b i j + PS.C (PS.C ((f.c i).c j)) * fJ k ρ N (dV k ρ N a i) (dV k ρ N b j) := by
 unfold dP; rw [bF, CR.add_assoc]
theorem Aci (k : Nat) (ρ : PS (Zm m)) (N : Nat) (f a b : PS (PS (Zm m))) (i j : Nat) (h : (f.c i).c j = 0) : dP k ρ N f a b i (j + 1) = dP k ρ N f a b i j := by
 rw [N7, h, PS.C_zero, PS.C_zero, Go.Fg.zero_mul, Go.Fg.add_zero]
theorem Y5 (k : Nat) (ρ : PS (Zm m)) (N : Nat) (f a b : PS (PS (Zm m))) {i j : Nat} (h : j = N - i) : dP k ρ N f a b i j = dP k ρ N f a b (i + 1) 0 := by
 subst h
 unfold dP
 rw [bF]
 exact (Go.Fg.add_zero _).symm
theorem mD (z : Zm m) (f : PS (PS (Zm m))) (i j : Nat) : ((PS.C (PS.C z) * f).c i).c j = z * (f.c i).c j := by
 rw [C_mul, C_mul]
def iD (k : Nat) (ρ s : PS (Zm m)) : Nat → PS (Zm m)
 | 0 => 1
 | j + 1 => dC k ρ (iD k ρ s j) s
def jN (k : Nat) (ρ s a : PS (Zm m)) : PS (PS (Zm m)) := ⟨fun j => PS.C (a.c j) * iD k ρ s j⟩
def dF (k : Nat) (ρ : PS (Zm m)) (N : Nat) (f : PS (PS (Zm m))) (a : PS (Zm m)) : Nat → PS (PS (Zm m))
 | 0 => 0
 | i + 1 => gE k ρ N f (dF k ρ N f a i) (jN k ρ (bP k ρ i 1) a)
def kN : Nat → Nat
 | 2 => 1
 | 3 => 2
 | 4 => 2
 | _ => 4
def bR : Nat → List Int
 | 2 => [-1]
 | 3 => [-1, -1]
 | 4 => [-1, 0]
 | _ => [-1, -1, -1, -1]
def jB : Nat → List Int
 | 2 => [1]
 | 3 => [1, 1]
 | 4 => [1, 0]
 | _ => [1, 1, 1, 1]
def fZ (k : Nat) (a b : PS (Zm m)) (i j : Nat) : PS (Zm m) :=
 ⟨fun n => sm i (fun x => if x ≤ n ∧ n - x < k then a.c x * b.c (n - x) else 0) + (if i ≤ n ∧ n - i < j then a.c i * b.c (n - i) else 0)⟩
theorem kB (k : Nat) (a b : PS (Zm m)) (i j n : Nat) : (fZ k a b i j).c n = sm i (fun x => if x ≤ n ∧ n - x < k then a.c x * b.c (n - x) else 0) + (if i ≤ n ∧ n - i < j then a.c i * b.c (n - i) else 0) := Eq.refl _
theorem Aqo (k : Nat) (a b : PS (Zm m)) : fZ k a b 0 0 = 0 := by
 ext n
 rw [kB, fD, if_neg (by omega)]
 exact CR.zero_add _
theorem Awg (k : Nat) (a b : PS (Zm m)) (i j : Nat) : fZ k a b i (j + 1) = (fZ k a b i j).upd (i + j) ((fZ k a b i j).c (i + j) + a.c i * b.c j) := by
 ext n
 rw [bY, kB, kB, kB]
 by_cases h : n = i + j
 · subst h
   rw [if_pos (Eq.refl _), if_pos (by omega), if_neg (by omega), Go.Fg.add_zero, show i + j - i = j by omega]
 · rw [if_neg h]
   by_cases h1 : i ≤ n ∧ n - i < j
   · rw [if_pos h1, if_pos (by omega)]
   · rw [if_neg h1, if_neg (by omega)]
theorem X7 (k : Nat) (a b : PS (Zm m)) (i : Nat) : fZ k a b i k = fZ k a b (i + 1) 0 := by
 ext n
 rw [kB, kB, bF, if_neg (show ¬ (i + 1 ≤ n ∧ n - (i + 1) < 0) by omega), Go.Fg.add_zero]
def iS (k : Nat) (φ g : PS (Zm m)) (i j : Nat) : PS (Zm m) := ⟨fun n => if i - k ≤ n ∧ n < i - k + j then g.c n - g.c i * φ.c (n - (i - k)) else g.c n⟩
theorem nK (k : Nat) (φ g : PS (Zm m)) (i j n : Nat) : (iS k φ g i j).c n = if i - k ≤ n ∧ n < i - k + j then g.c n - g.c i * φ.c (n - (i - k)) else g.c n := Eq.refl _
theorem Awr (k : Nat) (φ g : PS (Zm m)) (i : Nat) : iS k φ g i 0 = g := by
 ext n; rw [nK, if_neg (by omega)]
theorem Atj (k : Nat) (φ g : PS (Zm m)) {i j : Nat} (hi : k ≤ i) (hj : j < k) : iS k φ g i (j + 1) = (iS k φ g i j).upd (i - k + j) ((iS k φ g i j).c (i - k + j) - (iS k φ g i j).c i * φ.c j) := by
 ext n
 rw [bY, nK, nK, nK, nK]
 by_cases h : n = i - k + j
 · subst h
   rw [if_pos (Eq.refl _), if_pos (by omega), if_neg (by omega), if_neg (by omega), show i - k + j - (i - k) = j by omega]
 · rw [if_neg h]
   by_cases h1 : i - k ≤ n ∧ n < i - k + j
   · rw [if_pos h1, if_pos (by omega)]
   · rw [if_neg h1, if_neg (by omega)]
def kK (k : Nat) (φ g : PS (Zm m)) : Nat → PS (Zm m)
 | 0 => g
 | r + 1 => iS k φ (kK k φ g r) (2 * k - 1 - r) k
theorem Aqz {n : Nat} (hn : 2 ≤ n ∧ n ≤ 5) (a b : PS (Zm m)) {j : Nat} (hj : j < kN n) :
   (kK (kN n) (rd m (jB n)) (fZ (kN n) a b (kN n) 0) (kN n)).c j = (dC (kN n) (rd m (bR n)) a b).c j := by
 have hA : ∀ (a : PS (Zm m)) i, ∃ x, a.c i = Zm.mk m x := fun a i => ⟨_, (Zm.mk_val _).symm⟩
 obtain ⟨x0, e0⟩ := hA a 0
 obtain ⟨x1, e1⟩ := hA a 1
 obtain ⟨x2, e2⟩ := hA a 2
 obtain ⟨x3, e3⟩ := hA a 3
 obtain ⟨y0, g0⟩ := hA b 0
 obtain ⟨y1, g1⟩ := hA b 1
 obtain ⟨y2, g2⟩ := hA b 2
 obtain ⟨y3, g3⟩ := hA b 3
 rcases (show n = 2 ∨ n = 3 ∨ n = 4 ∨ n = 5 by omega) with rfl | rfl | rfl | rfl
 · obtain rfl : j = 0 := by simp only [kN] at hj; omega
   simp [kN, jB, bR, kK, nK, kB, eM, bP, dI, sm, rd, e0, g0]
   simp only [← Zm.mk_mul, ← Zm.mk_add, ← Zm.mk_sub, ← Zm.mk_neg, ← Zm.mk_zero]
   exact congrArg _ (by grind)
 · rcases (show j = 0 ∨ j = 1 by simp only [kN] at hj; omega) with rfl | rfl
   all_goals
     simp [kN, jB, bR, kK, nK, kB, eM, bP, dI, sm, rd, e0, g0, e1, g1]
     simp only [← Zm.mk_mul, ← Zm.mk_add, ← Zm.mk_sub, ← Zm.mk_neg, ← Zm.mk_zero]
     exact congrArg _ (by grind)
 · rcases (show j = 0 ∨ j = 1 by simp only [kN] at hj; omega) with rfl | rfl
   all_goals
     simp [kN, jB, bR, kK, nK, kB, eM, bP, dI, sm, rd, e0, g0, e1, g1]
     simp only [← Zm.mk_mul, ← Zm.mk_add, ← Zm.mk_sub, ← Zm.mk_neg, ← Zm.mk_zero]
     exact congrArg _ (by grind)
 · rcases (show j = 0 ∨ j = 1 ∨ j = 2 ∨ j = 3 by simp only [kN] at hj; omega) with rfl | rfl | rfl | rfl
   all_goals
     simp [kN, jB, bR, kK, nK, kB, eM, bP, dI, sm, rd, e0, g0, e1, g1, e2, g2, e3, g3]
     simp only [← Zm.mk_mul, ← Zm.mk_add, ← Zm.mk_sub, ← Zm.mk_neg, ← Zm.mk_zero]
     exact congrArg _ (by grind)
end Go.Fg
