import Derived.Test.YtghcpginhamelaaGreatAlg9
set_option linter.unusedVariables false
set_option linter.unusedSimpArgs false
set_option linter.unusedSectionVars false
namespace Go.Fg
open CR PS
variable {m : Int}
def dK (k : Nat) (ρ a : PS (Zm m)) : PS (Zm m) := ⟨fun j => if j < k then (if j = 0 then 0 else a.c (j - 1)) + a.c (k - 1) * ρ.c j else 0⟩
def bS (k : Nat) (ρ : PS (Zm m)) : Nat → PS (Zm m) → PS (Zm m)
 | 0, b => b
 | i + 1, b => dK k ρ (bS k ρ i b)
def lF (k : Nat) (ρ a b : PS (Zm m)) (i : Nat) : PS (Zm m) := sm i fun i => PS.C (a.c i) * bS k ρ i b
def dI (k : Nat) (ρ a b : PS (Zm m)) : PS (Zm m) := lF k ρ a b k
theorem dV (k : Nat) (ρ a : PS (Zm m)) (j : Nat) : (dK k ρ a).c j = if j < k then (if j = 0 then 0 else a.c (j - 1)) + a.c (k - 1) * ρ.c j else 0 := Eq.refl _
theorem Ano (k : Nat) (ρ a b : PS (Zm m)) : lF k ρ a b 0 = 0 := Eq.refl _
theorem Aqo (k : Nat) (ρ a b : PS (Zm m)) (i : Nat) : lF k ρ a b (i + 1) = lF k ρ a b i + PS.C (a.c i) * bS k ρ i b := Eq.refl _
theorem Apa (k : Nat) (ρ a b : PS (Zm m)) (i j : Nat) : (lF k ρ a b i).c j = sm i fun i => a.c i * (bS k ρ i b).c j := by
 unfold lF; rw [sm_c]; exact aR (fun i _ => C_mul _ _ _)
theorem fA (k : Nat) (ρ a b : PS (Zm m)) (j : Nat) : (dI k ρ a b).c j = sm k fun i => a.c i * (bS k ρ i b).c j := Apa k ρ a b k j
theorem G7 {k i : Nat} (ρ : PS (Zm m)) (h : i < k) (j : Nat) : (bS k ρ i (1 : PS (Zm m))).c j = if j = i then 1 else 0 := by
 induction i generalizing j with
 | zero => exact PS.one_c j
 | succ i ih =>
   show (dK k ρ (bS k ρ i 1)).c j = _
   rw [dV]
   by_cases hj : j < k
   · rw [if_pos hj, ih (by omega), ih (by omega), if_neg (show ¬ k - 1 = i by omega), Go.Fg.zero_mul, Go.Fg.add_zero]
     by_cases h0 : j = 0
     · rw [if_pos h0, if_neg (by omega)]
     · rw [if_neg h0]
       by_cases h1 : j = i + 1
       · rw [if_pos (by omega), if_pos h1]
       · rw [if_neg (by omega), if_neg h1]
   · rw [if_neg hj, if_neg (by omega)]
theorem Au1 (k : Nat) (ρ a : PS (Zm m)) (x : Zm m) : dK k ρ (PS.C x * a) = PS.C x * dK k ρ a := by
 ext j
 rw [C_mul, dV, dV, C_mul, C_mul]
 by_cases hj : j < k
 · rw [if_pos hj, if_pos hj, CR.mul_add]
   by_cases h0 : j = 0
   · rw [if_pos h0, if_pos h0, Go.Fg.mul_zero, CR.mul_assoc]
   · rw [if_neg h0, if_neg h0, CR.mul_assoc]
 · rw [if_neg hj, if_neg hj, Go.Fg.mul_zero]
theorem Ahy (k : Nat) (ρ a : PS (Zm m)) (x : Zm m) (i : Nat) : bS k ρ i (PS.C x * a) = PS.C x * bS k ρ i a := by
 induction i with
 | zero => exact Eq.refl _
 | succ i ih => show dK k ρ (bS k ρ i _) = PS.C x * dK k ρ (bS k ρ i a); rw [ih, Au1]
theorem O2 (k : Nat) (ρ s : PS (Zm m)) (x : Zm m) {j : Nat} (hj : j < k) : (dI k ρ s (PS.C x)).c j = (PS.C x * s).c j := by
 rw [fA, C_mul, cL j hj (fun i hi hne => ?_)]
 · rw [← Go.Fg.mul_one (PS.C x), Ahy, C_mul, G7 ρ hj, if_pos (Eq.refl _), Go.Fg.mul_one, CR.mul_comm]
 · rw [← Go.Fg.mul_one (PS.C x), Ahy, C_mul, G7 ρ hi, if_neg (fun e => hne e.symm), Go.Fg.mul_zero, Go.Fg.mul_zero]
theorem Awn (k : Nat) (ρ b : PS (Zm m)) (i : Nat) : bS k ρ i (dK k ρ b) = dK k ρ (bS k ρ i b) := by
 induction i with
 | zero => exact Eq.refl _
 | succ i ih => show dK k ρ (bS k ρ i (dK k ρ b)) = _; rw [ih]; exact Eq.refl _
theorem Aet (k : Nat) (ρ a : PS (Zm m)) {j : Nat} (hj : j < k) : (dI k ρ a (dK k ρ 1)).c j = (dK k ρ a).c j := by
 rw [fA, dV, if_pos hj]
 rw [aR (g := fun i => a.c i * ((if j = 0 then 0 else if j - 1 = i then 1 else 0) + (if k - 1 = i then 1 else 0) * ρ.c j)) (fun i hi => by
   rw [Awn, dV, if_pos hj, G7 ρ hi, G7 ρ hi])]
 rw [aR (g := fun i => (if j = 0 then 0 else if j - 1 = i then a.c i else 0) + (if k - 1 = i then a.c i * ρ.c j else 0)) (fun i hi => by
   rw [CR.mul_add]
   congr 1
   · by_cases h0 : j = 0
     · rw [if_pos h0, if_pos h0, Go.Fg.mul_zero]
     · rw [if_neg h0, if_neg h0]
       by_cases h1 : j - 1 = i
       · rw [if_pos h1, if_pos h1, Go.Fg.mul_one]
       · rw [if_neg h1, if_neg h1, Go.Fg.mul_zero]
   · by_cases h1 : k - 1 = i
     · rw [if_pos h1, if_pos h1, CR.one_mul]
     · rw [if_neg h1, if_neg h1, Go.Fg.zero_mul, Go.Fg.mul_zero])]
 rw [fF]
 congr 1
 · by_cases h0 : j = 0
   · rw [if_pos h0]
     exact cN (fun i _ => by rw [if_pos h0])
   · rw [if_neg h0, cL (j - 1) (by omega) (fun i _ hne => by rw [if_neg h0, if_neg (fun e => hne e.symm)]), if_neg h0, if_pos (Eq.refl _)]
 · rw [cL (k - 1) (by omega) (fun i _ hne => by rw [if_neg (fun e => hne e.symm)]), if_pos (Eq.refl _)]
theorem Apr {k : Nat} {ρ a b : PS (Zm m)} (h : Ag k a b) : Ag k (dK k ρ a) (dK k ρ b) := fun j hj => by
 rw [dV, dV, if_pos hj, if_pos hj, h (k - 1) (by omega)]
 by_cases h0 : j = 0
 · rw [if_pos h0, if_pos h0]
 · rw [if_neg h0, if_neg h0, h (j - 1) (by omega)]
theorem Any {k : Nat} {ρ a b : PS (Zm m)} (h : Ag k a b) (i : Nat) : Ag k (bS k ρ i a) (bS k ρ i b) := by
 induction i with
 | zero => exact h
 | succ i ih => exact Apr ih
theorem uN {k : Nat} {ρ a b a' b' : PS (Zm m)} (h : Ag k a a') (h2 : Ag k b b') : Ag k (dI k ρ a b) (dI k ρ a' b') := fun j hj => by
 rw [fA, fA]
 exact aR (fun i hi => by rw [h i hi, Any h2 i j hj])
def gL (k : Nat) (ρ : PS (Zm m)) (f g : PS (PS (Zm m))) (i j : Nat) : PS (PS (Zm m)) :=
 ⟨fun n => sm i (fun a => if a ≤ n then dI k ρ (f.c a) (g.c (n - a)) else 0) + (if i ≤ n ∧ n - i < j then dI k ρ (f.c i) (g.c (n - i)) else 0)⟩
def fW (k : Nat) (ρ : PS (Zm m)) (N : Nat) (f g : PS (PS (Zm m))) : PS (PS (Zm m)) := gL k ρ f g N 0
theorem lG (k : Nat) (ρ : PS (Zm m)) (f g : PS (PS (Zm m))) (i j n : Nat) : (gL k ρ f g i j).c n = sm i (fun a => if a ≤ n then dI k ρ (f.c a) (g.c (n - a)) else 0) + (if i ≤ n ∧ n - i < j then dI k ρ (f.c i) (g.c (n - i)) else 0) := Eq.refl _
theorem Ae8 (k : Nat) (ρ : PS (Zm m)) (f g : PS (PS (Zm m))) : gL k ρ f g 0 0 = 0 := by
 refine PS.ext (fun n => ?_)
 rw [lG, fI, if_neg (by omega)]
 exact CR.zero_add _
theorem Aex (k : Nat) (ρ : PS (Zm m)) (f g : PS (PS (Zm m))) (i j : Nat) : gL k ρ f g i (j + 1) = (gL k ρ f g i j).upd (i + j) ((gL k ρ f g i j).c (i + j) + dI k ρ (f.c i) (g.c j)) := by
 refine PS.ext (fun n => ?_)
 rw [cD, lG, lG, lG]
 by_cases h : n = i + j
 · subst h
   rw [if_pos (Eq.refl _), if_pos (by omega), if_neg (by omega), Go.Fg.add_zero, show i + j - i = j by omega]
 · rw [if_neg h]
   by_cases h1 : i ≤ n ∧ n - i < j
   · rw [if_pos h1, if_pos (by omega)]
   · rw [if_neg h1, if_neg (by omega)]
theorem Aac (k : Nat) (ρ : PS (Zm m)) (f g : PS (PS (Zm m))) {N i j : Nat} (h : N ≤ i + j) : ∀ n, n < N → (gL k ρ f g i j).c n = (gL k ρ f g (i + 1) 0).c n := fun n hn => by
 rw [lG, lG, bH, if_neg (show ¬ (i + 1 ≤ n ∧ n - (i + 1) < 0) by omega), Go.Fg.add_zero]
 congr 1
 by_cases h1 : i ≤ n
 · rw [if_pos ⟨h1, by omega⟩, if_pos h1]
 · rw [if_neg (by omega), if_neg h1]
def eC (k : Nat) (ρ : PS (Zm m)) (N : Nat) (a : PS (PS (Zm m))) : Nat → PS (PS (Zm m))
 | 0 => 1
 | i + 1 => fW k ρ N (eC k ρ N a i) a
def eB (k : Nat) (ρ : PS (Zm m)) (N : Nat) (f a b : PS (PS (Zm m))) (i j : Nat) : PS (PS (Zm m)) :=
 sm i (fun i => sm (N - i) fun j => PS.C (PS.C ((f.c i).c j)) * fW k ρ N (eC k ρ N a i) (eC k ρ N b j)) + sm j fun j => PS.C (PS.C ((f.c i).c j)) * fW k ρ N (eC k ρ N a i) (eC k ρ N b j)
def gR (k : Nat) (ρ : PS (Zm m)) (N : Nat) (f a b : PS (PS (Zm m))) : PS (PS (Zm m)) := eB k ρ N f a b N 0
theorem Aa6 (k : Nat) (ρ : PS (Zm m)) (N : Nat) (f a b : PS (PS (Zm m))) : eB k ρ N f a b 0 0 = 0 := by
 unfold eB; exact CR.zero_add _
theorem P3 (k : Nat) (ρ : PS (Zm m)) (N : Nat) (f a b : PS (PS (Zm m))) (i j : Nat) : eB k ρ N f a b i (j + 1) = eB k ρ N f a b i j + PS.C (PS.C ((f.c i).c j)) * fW k ρ N (eC k ρ N a i) (eC k ρ N b j) := by
 unfold eB; rw [bH, CR.add_assoc]
theorem Abn (k : Nat) (ρ : PS (Zm m)) (N : Nat) (f a b : PS (PS (Zm m))) (i j : Nat) (h : (f.c i).c j = 0) : eB k ρ N f a b i (j + 1) = eB k ρ N f a b i j := by
 rw [P3, h, PS.C_zero, PS.C_zero, Go.Fg.zero_mul, Go.Fg.add_zero]
theorem Ace (k : Nat) (ρ : PS (Zm m)) (N : Nat) (f a b : PS (PS (Zm m))) {i j : Nat} (h : j = N - i) : eB k ρ N f a b i j = eB k ρ N f a b (i + 1) 0 := by
 subst h
 unfold eB
 rw [bH]
 exact (Go.Fg.add_zero _).symm
theorem mI (z : Zm m) (f : PS (PS (Zm m))) (i j : Nat) : ((PS.C (PS.C z) * f).c i).c j = z * (f.c i).c j := by
 rw [C_mul, C_mul]
def iG (k : Nat) (ρ s : PS (Zm m)) : Nat → PS (Zm m)
 | 0 => 1
 | j + 1 => dI k ρ (iG k ρ s j) s
def kA (k : Nat) (ρ s a : PS (Zm m)) : PS (PS (Zm m)) := ⟨fun j => PS.C (a.c j) * iG k ρ s j⟩
def dJ (k : Nat) (ρ : PS (Zm m)) (N : Nat) (f : PS (PS (Zm m))) (a : PS (Zm m)) : Nat → PS (PS (Zm m))
 | 0 => 0
 | i + 1 => gR k ρ N f (dJ k ρ N f a i) (kA k ρ (bS k ρ i 1) a)
def kN : Nat → Nat
 | 2 => 1
 | 3 => 2
 | 4 => 2
 | _ => 4
def bX : Nat → List Int
 | 2 => [-1]
 | 3 => [-1, -1]
 | 4 => [-1, 0]
 | _ => [-1, -1, -1, -1]
def jZ : Nat → List Int
 | 2 => [1]
 | 3 => [1, 1]
 | 4 => [1, 0]
 | _ => [1, 1, 1, 1]
def gH (k : Nat) (a b : PS (Zm m)) (i j : Nat) : PS (Zm m) :=
 ⟨fun n => sm i (fun x => if x ≤ n ∧ n - x < k then a.c x * b.c (n - x) else 0) + (if i ≤ n ∧ n - i < j then a.c i * b.c (n - i) else 0)⟩
theorem kW (k : Nat) (a b : PS (Zm m)) (i j n : Nat) : (gH k a b i j).c n = sm i (fun x => if x ≤ n ∧ n - x < k then a.c x * b.c (n - x) else 0) + (if i ≤ n ∧ n - i < j then a.c i * b.c (n - i) else 0) := Eq.refl _
theorem Auc (k : Nat) (a b : PS (Zm m)) : gH k a b 0 0 = 0 := by
 ext n
 rw [kW, fI, if_neg (by omega)]
 exact CR.zero_add _
theorem Awu (k : Nat) (a b : PS (Zm m)) (i j : Nat) : gH k a b i (j + 1) = (gH k a b i j).upd (i + j) ((gH k a b i j).c (i + j) + a.c i * b.c j) := by
 ext n
 rw [cD, kW, kW, kW]
 by_cases h : n = i + j
 · subst h
   rw [if_pos (Eq.refl _), if_pos (by omega), if_neg (by omega), Go.Fg.add_zero, show i + j - i = j by omega]
 · rw [if_neg h]
   by_cases h1 : i ≤ n ∧ n - i < j
   · rw [if_pos h1, if_pos (by omega)]
   · rw [if_neg h1, if_neg (by omega)]
theorem Af8 (k : Nat) (a b : PS (Zm m)) (i : Nat) : gH k a b i k = gH k a b (i + 1) 0 := by
 ext n
 rw [kW, kW, bH, if_neg (show ¬ (i + 1 ≤ n ∧ n - (i + 1) < 0) by omega), Go.Fg.add_zero]
def jD (k : Nat) (φ g : PS (Zm m)) (i j : Nat) : PS (Zm m) := ⟨fun n => if i - k ≤ n ∧ n < i - k + j then g.c n - g.c i * φ.c (n - (i - k)) else g.c n⟩
theorem oS (k : Nat) (φ g : PS (Zm m)) (i j n : Nat) : (jD k φ g i j).c n = if i - k ≤ n ∧ n < i - k + j then g.c n - g.c i * φ.c (n - (i - k)) else g.c n := Eq.refl _
theorem Aq8 (k : Nat) (φ g : PS (Zm m)) (i : Nat) : jD k φ g i 0 = g := by
 ext n; rw [oS, if_neg (by omega)]
theorem Auu (k : Nat) (φ g : PS (Zm m)) {i j : Nat} (hi : k ≤ i) (hj : j < k) : jD k φ g i (j + 1) = (jD k φ g i j).upd (i - k + j) ((jD k φ g i j).c (i - k + j) - (jD k φ g i j).c i * φ.c j) := by
 ext n
 rw [cD, oS, oS, oS, oS]
 by_cases h : n = i - k + j
 · subst h
   rw [if_pos (Eq.refl _), if_pos (by omega), if_neg (by omega), if_neg (by omega), show i - k + j - (i - k) = j by omega]
 · rw [if_neg h]
   by_cases h1 : i - k ≤ n ∧ n < i - k + j
   · rw [if_pos h1, if_pos (by omega)]
   · rw [if_neg h1, if_neg (by omega)]
def kY (k : Nat) (φ g : PS (Zm m)) : Nat → PS (Zm m)
 | 0 => g
 | r + 1 => jD k φ (kY k φ g r) (2 * k - 1 - r) k
theorem Arh {n : Nat} (hn : 2 ≤ n ∧ n ≤ 5) (a b : PS (Zm m)) {j : Nat} (hj : j < kN n) :
   (kY (kN n) (rd m (jZ n)) (gH (kN n) a b (kN n) 0) (kN n)).c j = (dI (kN n) (rd m (bX n)) a b).c j := by
 have hA : ∀ (a : PS (Zm m)) i, ∃ x, a.c i = Zm.mk m x := fun a i => ⟨_, (Zm.mk_val _).symm⟩
 obtain ⟨x0, e0⟩ := hA a 0
 obtain ⟨x1, e1⟩ := hA a 1
 obtain ⟨x2, e2⟩ := hA a 2
 obtain ⟨x3, e3⟩ := hA a 3
 obtain ⟨y0, g0⟩ := hA b 0
 obtain ⟨y1, g1⟩ := hA b 1
 obtain ⟨y2, g2⟩ := hA b 2
 obtain ⟨y3, g3⟩ := hA b 3
 rcases (show n = 2 ∨ n = 3 ∨ n = 4 ∨ n = 5 by omega) with rfl | rfl | rfl | rfl
 · obtain rfl : j = 0 := by simp only [kN] at hj; omega
   simp [kN, jZ, bX, kY, oS, kW, fA, bS, dV, sm, rd, e0, g0]
   simp only [← Zm.mk_mul, ← Zm.mk_add, ← Zm.mk_sub, ← Zm.mk_neg, ← Zm.mk_zero]
   exact congrArg _ (by grind)
 · rcases (show j = 0 ∨ j = 1 by simp only [kN] at hj; omega) with rfl | rfl
   all_goals
     simp [kN, jZ, bX, kY, oS, kW, fA, bS, dV, sm, rd, e0, g0, e1, g1]
     simp only [← Zm.mk_mul, ← Zm.mk_add, ← Zm.mk_sub, ← Zm.mk_neg, ← Zm.mk_zero]
     exact congrArg _ (by grind)
 · rcases (show j = 0 ∨ j = 1 by simp only [kN] at hj; omega) with rfl | rfl
   all_goals
     simp [kN, jZ, bX, kY, oS, kW, fA, bS, dV, sm, rd, e0, g0, e1, g1]
     simp only [← Zm.mk_mul, ← Zm.mk_add, ← Zm.mk_sub, ← Zm.mk_neg, ← Zm.mk_zero]
     exact congrArg _ (by grind)
 · rcases (show j = 0 ∨ j = 1 ∨ j = 2 ∨ j = 3 by simp only [kN] at hj; omega) with rfl | rfl | rfl | rfl
   all_goals
     simp [kN, jZ, bX, kY, oS, kW, fA, bS, dV, sm, rd, e0, g0, e1, g1, e2, g2, e3, g3]
     simp only [← Zm.mk_mul, ← Zm.mk_add, ← Zm.mk_sub, ← Zm.mk_neg, ← Zm.mk_zero]
     exact congrArg _ (by grind)
end Go.Fg
