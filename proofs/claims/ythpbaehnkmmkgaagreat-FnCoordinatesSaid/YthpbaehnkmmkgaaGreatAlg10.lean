import Derived.Test.YthpbaehnkmmkgaaGreatAlg9
set_option linter.unusedVariables false
set_option linter.unusedSimpArgs false
set_option linter.unusedSectionVars false
namespace Go.Fg
open CR PS
variable {m : Int}
def tnR (k : Nat) (ρ a : PS (Zm m)) : PS (Zm m) := ⟨fun j => if j < k then (if j = 0 then 0 else a.c (j - 1)) + a.c (k - 1) * ρ.c j else 0⟩
def tnI (k : Nat) (ρ : PS (Zm m)) : Nat → PS (Zm m) → PS (Zm m)
 | 0, b => b
 | i + 1, b => tnR k ρ (tnI k ρ i b)
def rtP (k : Nat) (ρ a b : PS (Zm m)) (i : Nat) : PS (Zm m) := sm i fun i => PS.C (a.c i) * tnI k ρ i b
def rtM (k : Nat) (ρ a b : PS (Zm m)) : PS (Zm m) := rtP k ρ a b k
theorem tnR_c (k : Nat) (ρ a : PS (Zm m)) (j : Nat) : (tnR k ρ a).c j = if j < k then (if j = 0 then 0 else a.c (j - 1)) + a.c (k - 1) * ρ.c j else 0 := Eq.refl _
theorem rtP_zero (k : Nat) (ρ a b : PS (Zm m)) : rtP k ρ a b 0 = 0 := Eq.refl _
theorem rtP_succ (k : Nat) (ρ a b : PS (Zm m)) (i : Nat) : rtP k ρ a b (i + 1) = rtP k ρ a b i + PS.C (a.c i) * tnI k ρ i b := Eq.refl _
theorem rtP_c (k : Nat) (ρ a b : PS (Zm m)) (i j : Nat) : (rtP k ρ a b i).c j = sm i fun i => a.c i * (tnI k ρ i b).c j := by
 unfold rtP; rw [sm_c]; exact sm_congr (fun i _ => C_mul _ _ _)
theorem rtM_c (k : Nat) (ρ a b : PS (Zm m)) (j : Nat) : (rtM k ρ a b).c j = sm k fun i => a.c i * (tnI k ρ i b).c j := rtP_c k ρ a b k j
theorem tnI_one {k i : Nat} (ρ : PS (Zm m)) (h : i < k) (j : Nat) : (tnI k ρ i (1 : PS (Zm m))).c j = if j = i then 1 else 0 := by
 induction i generalizing j with
 | zero => exact PS.one_c j
 | succ i ih =>
   show (tnR k ρ (tnI k ρ i 1)).c j = _
   rw [tnR_c]
   by_cases hj : j < k
   · rw [if_pos hj, ih (by omega), ih (by omega), if_neg (show ¬ k - 1 = i by omega), Go.Fg.zero_mul, Go.Fg.add_zero]
     by_cases h0 : j = 0
     · rw [if_pos h0, if_neg (by omega)]
     · rw [if_neg h0]
       by_cases h1 : j = i + 1
       · rw [if_pos (by omega), if_pos h1]
       · rw [if_neg (by omega), if_neg h1]
   · rw [if_neg hj, if_neg (by omega)]
theorem tnR_C (k : Nat) (ρ a : PS (Zm m)) (x : Zm m) : tnR k ρ (PS.C x * a) = PS.C x * tnR k ρ a := by
 ext j
 rw [C_mul, tnR_c, tnR_c, C_mul, C_mul]
 by_cases hj : j < k
 · rw [if_pos hj, if_pos hj, CR.mul_add]
   by_cases h0 : j = 0
   · rw [if_pos h0, if_pos h0, Go.Fg.mul_zero, CR.mul_assoc]
   · rw [if_neg h0, if_neg h0, CR.mul_assoc]
 · rw [if_neg hj, if_neg hj, Go.Fg.mul_zero]
theorem tnI_C (k : Nat) (ρ a : PS (Zm m)) (x : Zm m) (i : Nat) : tnI k ρ i (PS.C x * a) = PS.C x * tnI k ρ i a := by
 induction i with
 | zero => exact Eq.refl _
 | succ i ih => show tnR k ρ (tnI k ρ i _) = PS.C x * tnR k ρ (tnI k ρ i a); rw [ih, tnR_C]
theorem rtM_C (k : Nat) (ρ s : PS (Zm m)) (x : Zm m) {j : Nat} (hj : j < k) : (rtM k ρ s (PS.C x)).c j = (PS.C x * s).c j := by
 rw [rtM_c, C_mul, sm_one j hj (fun i hi hne => ?_)]
 · rw [← Go.Fg.mul_one (PS.C x), tnI_C, C_mul, tnI_one ρ hj, if_pos (Eq.refl _), Go.Fg.mul_one, CR.mul_comm]
 · rw [← Go.Fg.mul_one (PS.C x), tnI_C, C_mul, tnI_one ρ hi, if_neg (fun e => hne e.symm), Go.Fg.mul_zero, Go.Fg.mul_zero]
theorem tnI_succ' (k : Nat) (ρ b : PS (Zm m)) (i : Nat) : tnI k ρ i (tnR k ρ b) = tnR k ρ (tnI k ρ i b) := by
 induction i with
 | zero => exact Eq.refl _
 | succ i ih => show tnR k ρ (tnI k ρ i (tnR k ρ b)) = _; rw [ih]; exact Eq.refl _
theorem rtM_root (k : Nat) (ρ a : PS (Zm m)) {j : Nat} (hj : j < k) : (rtM k ρ a (tnR k ρ 1)).c j = (tnR k ρ a).c j := by
 rw [rtM_c, tnR_c, if_pos hj]
 rw [sm_congr (g := fun i => a.c i * ((if j = 0 then 0 else if j - 1 = i then 1 else 0) + (if k - 1 = i then 1 else 0) * ρ.c j)) (fun i hi => by
   rw [tnI_succ', tnR_c, if_pos hj, tnI_one ρ hi, tnI_one ρ hi])]
 rw [sm_congr (g := fun i => (if j = 0 then 0 else if j - 1 = i then a.c i else 0) + (if k - 1 = i then a.c i * ρ.c j else 0)) (fun i hi => by
   rw [CR.mul_add]
   congr 1
   · by_cases h0 : j = 0
     · rw [if_pos h0, if_pos h0, Go.Fg.mul_zero]
     · rw [if_neg h0, if_neg h0]
       by_cases h1 : j - 1 = i
       · rw [if_pos h1, if_pos h1, Go.Fg.mul_one]
       · rw [if_neg h1, if_neg h1, Go.Fg.mul_zero]
   · by_cases h1 : k - 1 = i
     · rw [if_pos h1, if_pos h1, CR.one_mul]
     · rw [if_neg h1, if_neg h1, Go.Fg.zero_mul, Go.Fg.mul_zero])]
 rw [sm_add]
 congr 1
 · by_cases h0 : j = 0
   · rw [if_pos h0]
     exact sm_zero (fun i _ => by rw [if_pos h0])
   · rw [if_neg h0, sm_one (j - 1) (by omega) (fun i _ hne => by rw [if_neg h0, if_neg (fun e => hne e.symm)]), if_neg h0, if_pos (Eq.refl _)]
 · rw [sm_one (k - 1) (by omega) (fun i _ hne => by rw [if_neg (fun e => hne e.symm)]), if_pos (Eq.refl _)]
def prP (k : Nat) (ρ : PS (Zm m)) (f g : PS (PS (Zm m))) (i j : Nat) : PS (PS (Zm m)) :=
 ⟨fun n => sm i (fun a => if a ≤ n then rtM k ρ (f.c a) (g.c (n - a)) else 0) + (if i ≤ n ∧ n - i < j then rtM k ρ (f.c i) (g.c (n - i)) else 0)⟩
def prM (k : Nat) (ρ : PS (Zm m)) (N : Nat) (f g : PS (PS (Zm m))) : PS (PS (Zm m)) := prP k ρ f g N 0
theorem prP_c (k : Nat) (ρ : PS (Zm m)) (f g : PS (PS (Zm m))) (i j n : Nat) : (prP k ρ f g i j).c n = sm i (fun a => if a ≤ n then rtM k ρ (f.c a) (g.c (n - a)) else 0) + (if i ≤ n ∧ n - i < j then rtM k ρ (f.c i) (g.c (n - i)) else 0) := Eq.refl _
theorem prP_zero (k : Nat) (ρ : PS (Zm m)) (f g : PS (PS (Zm m))) : prP k ρ f g 0 0 = 0 := by
 refine PS.ext (fun n => ?_)
 rw [prP_c, sm_zero', if_neg (by omega)]
 exact CR.zero_add _
theorem prP_step (k : Nat) (ρ : PS (Zm m)) (f g : PS (PS (Zm m))) (i j : Nat) : prP k ρ f g i (j + 1) = (prP k ρ f g i j).upd (i + j) ((prP k ρ f g i j).c (i + j) + rtM k ρ (f.c i) (g.c j)) := by
 refine PS.ext (fun n => ?_)
 rw [upd_c, prP_c, prP_c, prP_c]
 by_cases h : n = i + j
 · subst h
   rw [if_pos (Eq.refl _), if_pos (by omega), if_neg (by omega), Go.Fg.add_zero, show i + j - i = j by omega]
 · rw [if_neg h]
   by_cases h1 : i ≤ n ∧ n - i < j
   · rw [if_pos h1, if_pos (by omega)]
   · rw [if_neg h1, if_neg (by omega)]
theorem prP_row (k : Nat) (ρ : PS (Zm m)) (f g : PS (PS (Zm m))) {N i j : Nat} (h : N ≤ i + j) : ∀ n, n < N → (prP k ρ f g i j).c n = (prP k ρ f g (i + 1) 0).c n := fun n hn => by
 rw [prP_c, prP_c, sm_succ, if_neg (show ¬ (i + 1 ≤ n ∧ n - (i + 1) < 0) by omega), Go.Fg.add_zero]
 congr 1
 by_cases h1 : i ≤ n
 · rw [if_pos ⟨h1, by omega⟩, if_pos h1]
 · rw [if_neg (by omega), if_neg h1]
def pwR (k : Nat) (ρ : PS (Zm m)) (N : Nat) (a : PS (PS (Zm m))) : Nat → PS (PS (Zm m))
 | 0 => 1
 | i + 1 => prM k ρ N (pwR k ρ N a i) a
def puP (k : Nat) (ρ : PS (Zm m)) (N : Nat) (f a b : PS (PS (Zm m))) (i j : Nat) : PS (PS (Zm m)) :=
 sm i (fun i => sm (N - i) fun j => PS.C (PS.C ((f.c i).c j)) * prM k ρ N (pwR k ρ N a i) (pwR k ρ N b j)) + sm j fun j => PS.C (PS.C ((f.c i).c j)) * prM k ρ N (pwR k ρ N a i) (pwR k ρ N b j)
def puS (k : Nat) (ρ : PS (Zm m)) (N : Nat) (f a b : PS (PS (Zm m))) : PS (PS (Zm m)) := puP k ρ N f a b N 0
theorem puP_zero (k : Nat) (ρ : PS (Zm m)) (N : Nat) (f a b : PS (PS (Zm m))) : puP k ρ N f a b 0 0 = 0 := by
 unfold puP; exact CR.zero_add _
theorem puP_step (k : Nat) (ρ : PS (Zm m)) (N : Nat) (f a b : PS (PS (Zm m))) (i j : Nat) : puP k ρ N f a b i (j + 1) = puP k ρ N f a b i j + PS.C (PS.C ((f.c i).c j)) * prM k ρ N (pwR k ρ N a i) (pwR k ρ N b j) := by
 unfold puP; rw [sm_succ, CR.add_assoc]
theorem puP_skip (k : Nat) (ρ : PS (Zm m)) (N : Nat) (f a b : PS (PS (Zm m))) (i j : Nat) (h : (f.c i).c j = 0) : puP k ρ N f a b i (j + 1) = puP k ρ N f a b i j := by
 rw [puP_step, h, PS.C_zero, PS.C_zero, Go.Fg.zero_mul, Go.Fg.add_zero]
theorem puP_row (k : Nat) (ρ : PS (Zm m)) (N : Nat) (f a b : PS (PS (Zm m))) {i j : Nat} (h : j = N - i) : puP k ρ N f a b i j = puP k ρ N f a b (i + 1) 0 := by
 subst h
 unfold puP
 rw [sm_succ]
 exact (Go.Fg.add_zero _).symm
theorem CC_cc (z : Zm m) (f : PS (PS (Zm m))) (i j : Nat) : ((PS.C (PS.C z) * f).c i).c j = z * (f.c i).c j := by
 rw [C_mul, C_mul]
def spR (k : Nat) (ρ s : PS (Zm m)) : Nat → PS (Zm m)
 | 0 => 1
 | j + 1 => rtM k ρ (spR k ρ s j) s
def cuR (k : Nat) (ρ s a : PS (Zm m)) : PS (PS (Zm m)) := ⟨fun j => PS.C (a.c j) * spR k ρ s j⟩
def frT (k : Nat) (ρ : PS (Zm m)) (N : Nat) (f : PS (PS (Zm m))) (a : PS (Zm m)) : Nat → PS (PS (Zm m))
 | 0 => 0
 | i + 1 => puS k ρ N f (frT k ρ N f a i) (cuR k ρ (tnI k ρ i 1) a)
def kN : Nat → Nat
 | 2 => 1
 | 3 => 2
 | 4 => 2
 | _ => 4
def rlN : Nat → List Int
 | 2 => [-1]
 | 3 => [-1, -1]
 | 4 => [-1, 0]
 | _ => [-1, -1, -1, -1]
def flN : Nat → List Int
 | 2 => [1]
 | 3 => [1, 1]
 | 4 => [1, 0]
 | _ => [1, 1, 1, 1]
def fuP (k : Nat) (a b : PS (Zm m)) (i j : Nat) : PS (Zm m) :=
 ⟨fun n => sm i (fun x => if x ≤ n ∧ n - x < k then a.c x * b.c (n - x) else 0) + (if i ≤ n ∧ n - i < j then a.c i * b.c (n - i) else 0)⟩
theorem fuP_c (k : Nat) (a b : PS (Zm m)) (i j n : Nat) : (fuP k a b i j).c n = sm i (fun x => if x ≤ n ∧ n - x < k then a.c x * b.c (n - x) else 0) + (if i ≤ n ∧ n - i < j then a.c i * b.c (n - i) else 0) := Eq.refl _
theorem fuP_zero (k : Nat) (a b : PS (Zm m)) : fuP k a b 0 0 = 0 := by
 ext n
 rw [fuP_c, sm_zero', if_neg (by omega)]
 exact CR.zero_add _
theorem fuP_step (k : Nat) (a b : PS (Zm m)) (i j : Nat) : fuP k a b i (j + 1) = (fuP k a b i j).upd (i + j) ((fuP k a b i j).c (i + j) + a.c i * b.c j) := by
 ext n
 rw [upd_c, fuP_c, fuP_c, fuP_c]
 by_cases h : n = i + j
 · subst h
   rw [if_pos (Eq.refl _), if_pos (by omega), if_neg (by omega), Go.Fg.add_zero, show i + j - i = j by omega]
 · rw [if_neg h]
   by_cases h1 : i ≤ n ∧ n - i < j
   · rw [if_pos h1, if_pos (by omega)]
   · rw [if_neg h1, if_neg (by omega)]
theorem fuP_row (k : Nat) (a b : PS (Zm m)) (i : Nat) : fuP k a b i k = fuP k a b (i + 1) 0 := by
 ext n
 rw [fuP_c, fuP_c, sm_succ, if_neg (show ¬ (i + 1 ≤ n ∧ n - (i + 1) < 0) by omega), Go.Fg.add_zero]
def rdP (k : Nat) (φ g : PS (Zm m)) (i j : Nat) : PS (Zm m) := ⟨fun n => if i - k ≤ n ∧ n < i - k + j then g.c n - g.c i * φ.c (n - (i - k)) else g.c n⟩
theorem rdP_c (k : Nat) (φ g : PS (Zm m)) (i j n : Nat) : (rdP k φ g i j).c n = if i - k ≤ n ∧ n < i - k + j then g.c n - g.c i * φ.c (n - (i - k)) else g.c n := Eq.refl _
theorem rdP_zero (k : Nat) (φ g : PS (Zm m)) (i : Nat) : rdP k φ g i 0 = g := by
 ext n; rw [rdP_c, if_neg (by omega)]
theorem rdP_step (k : Nat) (φ g : PS (Zm m)) {i j : Nat} (hi : k ≤ i) (hj : j < k) : rdP k φ g i (j + 1) = (rdP k φ g i j).upd (i - k + j) ((rdP k φ g i j).c (i - k + j) - (rdP k φ g i j).c i * φ.c j) := by
 ext n
 rw [upd_c, rdP_c, rdP_c, rdP_c, rdP_c]
 by_cases h : n = i - k + j
 · subst h
   rw [if_pos (Eq.refl _), if_pos (by omega), if_neg (by omega), if_neg (by omega), show i - k + j - (i - k) = j by omega]
 · rw [if_neg h]
   by_cases h1 : i - k ≤ n ∧ n < i - k + j
   · rw [if_pos h1, if_pos (by omega)]
   · rw [if_neg h1, if_neg (by omega)]
def rdI (k : Nat) (φ g : PS (Zm m)) : Nat → PS (Zm m)
 | 0 => g
 | r + 1 => rdP k φ (rdI k φ g r) (2 * k - 1 - r) k
theorem rd_eq {n : Nat} (hn : 2 ≤ n ∧ n ≤ 5) (a b : PS (Zm m)) {j : Nat} (hj : j < kN n) :
   (rdI (kN n) (rd m (flN n)) (fuP (kN n) a b (kN n) 0) (kN n)).c j = (rtM (kN n) (rd m (rlN n)) a b).c j := by
 have hA : ∀ (a : PS (Zm m)) i, ∃ x, a.c i = Zm.mk m x := fun a i => ⟨_, (Zm.mk_val _).symm⟩
 obtain ⟨x0, e0⟩ := hA a 0
 obtain ⟨x1, e1⟩ := hA a 1
 obtain ⟨x2, e2⟩ := hA a 2
 obtain ⟨x3, e3⟩ := hA a 3
 obtain ⟨y0, g0⟩ := hA b 0
 obtain ⟨y1, g1⟩ := hA b 1
 obtain ⟨y2, g2⟩ := hA b 2
 obtain ⟨y3, g3⟩ := hA b 3
 rcases (show n = 2 ∨ n = 3 ∨ n = 4 ∨ n = 5 by omega) with rfl | rfl | rfl | rfl
 · obtain rfl : j = 0 := by simp only [kN] at hj; omega
   simp [kN, flN, rlN, rdI, rdP_c, fuP_c, rtM_c, tnI, tnR_c, sm, rd, e0, g0]
   simp only [← Zm.mk_mul, ← Zm.mk_add, ← Zm.mk_sub, ← Zm.mk_neg, ← Zm.mk_zero]
   exact congrArg _ (by grind)
 · rcases (show j = 0 ∨ j = 1 by simp only [kN] at hj; omega) with rfl | rfl
   all_goals
     simp [kN, flN, rlN, rdI, rdP_c, fuP_c, rtM_c, tnI, tnR_c, sm, rd, e0, g0, e1, g1]
     simp only [← Zm.mk_mul, ← Zm.mk_add, ← Zm.mk_sub, ← Zm.mk_neg, ← Zm.mk_zero]
     exact congrArg _ (by grind)
 · rcases (show j = 0 ∨ j = 1 by simp only [kN] at hj; omega) with rfl | rfl
   all_goals
     simp [kN, flN, rlN, rdI, rdP_c, fuP_c, rtM_c, tnI, tnR_c, sm, rd, e0, g0, e1, g1]
     simp only [← Zm.mk_mul, ← Zm.mk_add, ← Zm.mk_sub, ← Zm.mk_neg, ← Zm.mk_zero]
     exact congrArg _ (by grind)
 · rcases (show j = 0 ∨ j = 1 ∨ j = 2 ∨ j = 3 by simp only [kN] at hj; omega) with rfl | rfl | rfl | rfl
   all_goals
     simp [kN, flN, rlN, rdI, rdP_c, fuP_c, rtM_c, tnI, tnR_c, sm, rd, e0, g0, e1, g1, e2, g2, e3, g3]
     simp only [← Zm.mk_mul, ← Zm.mk_add, ← Zm.mk_sub, ← Zm.mk_neg, ← Zm.mk_zero]
     exact congrArg _ (by grind)
end Go.Fg
