import Derived.Test.YtndhpcigpghejaaGreatAlg23
namespace Go.Fg
set_option linter.unusedVariables false
set_option linter.unusedSectionVars false
namespace PS
variable {R : Type} [CR R]
theorem ag_all {a b : PS R} (h : ∀ N, Ag N a b) : a = b := PS.ext (fun n => h (n + 1) n (by omega))
theorem comp_mulX (a b : PS R) {c : PS R} (hc : c.c 0 = 0) : comp (a * b) c = comp a c * comp b c := ag_all (fun N => comp_mul N a b hc)
theorem comp_addX (a b : PS R) {c : PS R} (hc : c.c 0 = 0) : comp (a + b) c = comp a c + comp b c := ag_all (fun N => by
 refine (comp_E _ hc).trans ?_
 rw [axX_add, E_add]
 exact (comp_E a hc).symm.add (comp_E b hc).symm)
theorem comp_CX (r : R) {c : PS R} (hc : c.c 0 = 0) : comp (C r) c = C r := ag_all (fun N => (comp_C (N := N + 1) (by omega) r hc).le (by omega))
theorem comp_pwX (a : PS R) {c : PS R} (hc : c.c 0 = 0) (k : Nat) : comp (Go.Fg.pw a k) c = Go.Fg.pw (comp a c) k := ag_all (fun N => (comp_pw (N := N + 1) (by omega) a hc k).le (by omega))
theorem X_compX {c : PS R} (hc : c.c 0 = 0) : comp X c = c := ag_all (fun N => X_comp N hc)
theorem compN_compX {a : PS R} (N : Nat) {b c : PS R} (hc : c.c 0 = 0) : comp (compN a b 0 N) c = compN a (comp b c) 0 N := by
 unfold compN
 refine ag_all (fun K => (comp_sm K N _ hc).trans (Ag.of_eq (sm_congr (fun i _ => ?_))))
 rw [comp_mulX _ _ hc, comp_CX _ hc, comp_pwX _ hc]
theorem comp_comp (a : PS R) {b c : PS R} (hb : b.c 0 = 0) (hc : c.c 0 = 0) : comp (comp a b) c = comp a (comp b c) := ag_all (fun N =>
 (comp_congr (compN_ag hb N).symm Ag.rfl).trans ((Ag.of_eq (compN_compX N hc)).trans (compN_ag (by rw [comp_0, hb]) N)))
theorem comp_pert (a : PS R) {b : PS R} (hb : b.c 0 = 0) (n : Nat) (hn : 1 ≤ n) (v : R) : Ag (n + 1) (comp a (b + mono n v)) (comp a b + mono n (a.c 1 * v)) := by
 have hb' : (b + mono n v).c 0 = 0 := by rw [add_c, hb, mono_c, if_neg (by omega), CR.zero_add]
 refine (compN_ag hb' (n + 1)).symm.trans (Ag.trans ?_ ((compN_ag hb (n + 1)).add Ag.rfl))
 have hs : compN a b 0 (n + 1) + mono n (a.c 1 * v) = Go.Fg.sm (n + 1) fun i => C (a.c (0 + i)) * Go.Fg.pw b i + (if i = 1 then mono n (a.c 1 * v) else 0) := by
   rw [sm_add, sm_one (f := fun i => if i = 1 then mono n (a.c 1 * v) else 0) 1 (by omega) (fun i _ h => if_neg h), if_pos rfl]; rfl
 rw [hs]
 refine Ag.sm (fun i hi => ?_)
 by_cases e : i = 1
 · rw [if_pos e, e, pw_one, pw_one, CR.mul_add, Nat.zero_add]
   refine Ag.rfl.add (Ag.of_eq ?_)
   ext j
   rw [C_mul, mono_c, mono_c]
   split
   · rfl
   · exact Go.Fg.mul_zero _
 · rw [if_neg e, Go.Fg.add_zero]
   exact Ag.rfl.mul (pw_pert hn hb v i e)
theorem revP_comp {u : R} {a : PS R} (h0 : a.c 0 = 0) (h : a.c 1 * u = 1) : ∀ n, Ag (n + 1) (comp a (revP u a n)) X
 | 0 => fun i hi => by rw [show i = 0 by omega, comp_0, h0]; rfl
 | n + 1 => by
   have c0 := revP_c0 u a n
   have ih := revP_comp h0 h n
   have e : revP u a (n + 1) = revP u a n + mono (n + 1) ((revP u a (n + 1)).c (n + 1)) := by
     ext i
     rw [add_c, mono_c]
     by_cases e : i = n + 1
     · rw [if_pos e, e, revP_high u a n (n + 1) (by omega), CR.zero_add]
     · rw [if_neg e, Go.Fg.add_zero]
       rcases Nat.lt_or_ge i (n + 1) with h1 | h1
       · rw [revP_c u a (n + 1) i (by omega), revP_c u a n i (by omega)]
       · rw [revP_high u a (n + 1) i (by omega), revP_high u a n i (by omega)]
   refine (Ag.of_eq (by rw [← e])).trans (((comp_pert a c0 (n + 1) (by omega) ((revP u a (n + 1)).c (n + 1)))).trans (fun i hi => ?_))
   rw [add_c, mono_c]
   by_cases e2 : i = n + 1
   · rw [if_pos e2, e2]
     cases n with
     | zero =>
       have r1 : (revP u a (0 + 1)).c (0 + 1) = u := by show ((0 : PS R).upd 1 u).c 1 = u; rw [upd_c, if_pos rfl]
       rw [r1, h]
       have r0 : (comp a (revP u a 0)).c (0 + 1) = 0 := by
         have : revP u a 0 = 0 := rfl
         rw [this, ← compN_ag (N := 2) (f := 0) rfl 1 (by omega)]
         unfold compN
         rw [sm_c]
         exact sm_zero (fun i _ => by
           cases i with
           | zero => rw [C_mul, pw_zero, one_c, if_neg (by omega), Go.Fg.mul_zero]
           | succ i => rw [zero_pw (by omega), Go.Fg.mul_zero]; rfl)
       rw [r0, CR.zero_add]; rfl
     | succ n =>
       have r1 : (revP u a (n + 1 + 1)).c (n + 1 + 1) = -((comp a (revP u a (n + 1))).c (n + 1 + 1) * u) := by
         rw [revP_two u a _ (by omega), upd_c, if_pos rfl]
       rw [r1, Go.Fg.mul_neg, CR.mul_comm _ u, ← CR.mul_assoc, h, CR.one_mul, Go.Fg.add_neg, X_c, if_neg (by omega)]
   · rw [if_neg e2, ih i (by omega), Go.Fg.add_zero]
theorem comp_rev {u : R} {a : PS R} (h0 : a.c 0 = 0) (h : a.c 1 * u = 1) : comp a (rev u a) = X := ag_all (fun N => (comp_congr Ag.rfl ((revP_ag u a N).symm.le (by omega))).trans ((revP_comp h0 h N).le (by omega)))
theorem comp_Xr (a : PS R) : comp a X = a := PS.ext (fun i => by
 show (compN a X 0 (i + 1)).c i = _
 unfold compN
 have e : ∀ k, (C (a.c (0 + k)) * Go.Fg.pw (X : PS R) k).c i = if i = k then a.c k else 0 := fun k => by
   have : (X : PS R) = mono 1 1 := rfl
   rw [C_mul, this, pw_mono, one_pw, mono_c, Nat.mul_one, Nat.zero_add]
   split
   · exact Go.Fg.mul_one _
   · exact Go.Fg.mul_zero _
 rw [sm_c, sm_congr (fun k _ => e k), sm_one i (by omega) (fun k _ h => if_neg (Ne.symm h)), if_pos rfl])
theorem rev_comp {u : R} {a : PS R} (h0 : a.c 0 = 0) (h : a.c 1 * u = 1) : comp (rev u a) a = X := by
 have h1 := comp_rev h0 h
 have h2 : comp (rev u a) (rev (a.c 1) (rev u a)) = X := comp_rev (rev_c0 u a) (by rw [rev_c1, CR.mul_comm, h])
 have c0 := rev_c0 (a.c 1) (rev u a)
 have e : a = rev (a.c 1) (rev u a) := by
   have := comp_comp a (rev_c0 u a) c0
   rw [h1, h2, X_compX c0] at this
   rw [this, comp_Xr]
 rw [← e] at h2
 exact h2
section
variable {m : Int}
end
end PS
end Go.Fg
namespace Go.Fg
set_option linter.unusedVariables false
set_option linter.unusedSectionVars false
section
variable {R : Type} [CR R]
end
namespace PS
variable {R : Type} [CR R]
theorem axX_pw (a : PS R) : ∀ k, Go.Fg.pw (axX a) k = axX (Go.Fg.pw a k)
 | 0 => axX_one.symm
 | k + 1 => by rw [pw_succ, pw_succ, axX_pw a k, axX_mul]
theorem mul_C_c (g : PS R) (r : R) (n : Nat) : (g * C r).c n = g.c n * r := by rw [CR.mul_comm, C_mul, CR.mul_comm]
theorem xy_c (u v : PS R) (i j : Nat) : ((axX u * axY v).c i).c j = u.c i * v.c j := by
 show ((axX u * C v).c i).c j = _
 rw [mul_C_c]
 show (C (u.c i) * v).c j = _
 rw [C_mul]
section
variable {m : Int}
theorem axs_0 {l : PS (Zm m)} (h0 : l.c 0 = 0) : ((axX l + axY l).c 0).c 0 = 0 := by
 rw [add_c, add_c, axX_c, axY_c, if_pos rfl, h0, CR.zero_add]
def logL (e l : PS (Zm m)) (N : Nat) : PS (PS (Zm m)) := comp2N e (axX l + axY l) 0 N
theorem comp2N_X {f : PS (PS (Zm m))} {N : Nat} (hN : 2 ≤ N) : comp2N X f 0 N = f := by
 unfold comp2N
 rw [sm_one 1 (by omega) (fun i _ h => by rw [Nat.zero_add, X_c, if_neg h, C_zero, C_zero, Go.Fg.zero_mul]), pw_one, Nat.zero_add, X_c, if_pos rfl]
 show (1 : PS (PS (Zm m))) * f = f
 rw [CR.one_mul]
theorem logL_log {e l : PS (Zm m)} (e0 : e.c 0 = 0) (l0 : l.c 0 = 0) {N : Nat} (hN : 2 ≤ N) (h : Ag N (comp l e) X) : Ag2 N (comp2N l (logL e l N) 0 N) (axX l + axY l) := by
 refine (comp2N_comp (axs_0 l0) l e (by omega)).symm.trans ?_
 refine (comp2N_congr (b := X) (fun i _ hi => ((compN_ag e0 N).trans h) i (by omega)) Ag2.rfl).trans (Ag2.of_eq (comp2N_X hN))
theorem log_law {f : PS (PS (Zm m))} {e l : PS (Zm m)} (f0 : (f.c 0).c 0 = 0) (l0 : l.c 0 = 0) {N : Nat} (hN : 2 ≤ N) (h1 : Ag N (comp e l) X) (h : Ag2 N (comp2N l f 0 N) (axX l + axY l)) : Ag2 N (logL e l N) f := by
 refine Ag2.trans ?_ (Ag2.of_eq (comp2N_X (f := f) hN))
 refine Ag2.trans ?_ (comp2N_congr (a := compN e l 0 N) (fun i _ hi => ((compN_ag l0 N).trans h1) i (by omega)) Ag2.rfl)
 refine Ag2.trans ?_ (comp2N_comp f0 e l (by omega)).symm
 exact (comp2N_congr (fun _ _ _ => rfl) h).symm
end
end PS
end Go.Fg
namespace Go.Fg
set_option linter.unusedVariables false
set_option linter.unusedSectionVars false
namespace PS
variable {m : Int}
end PS
end Go.Fg
namespace Go.Fg
set_option linter.unusedVariables false
set_option linter.unusedSimpArgs false
set_option linter.unusedSectionVars false
namespace PS
section
variable {R : Type} [CR R]
end
section
variable {m : Int}
theorem nc_invN (hm : 2 ≤ m) {k i : Nat} (h : unitsB m k = true) (hi : 1 ≤ i ∧ i ≤ k) : nc (Zm m) i * invN m (i : Int) = 1 := by
 rw [nc_mk]; exact units_inv hm h hi
theorem invN_1 (hm : 2 ≤ m) : invN m 1 = 1 := invN_eq hm (show Zm.mk m 1 * 1 = 1 from Go.Fg.mul_one _)
theorem invN_v1 (hm : 2 ≤ m) : invN m (1 : Zm m).val = 1 := by rw [Zm.val_one (by omega)]; exact invN_1 hm
theorem int_dS (hm : 2 ≤ m) {l : PS (Zm m)} (h0 : l.c 0 = 0) {k : Nat} (h : unitsB m k = true) : Ag (k + 1) (intS (dS l)) l := fun i hi => by
 cases i with
 | zero => rw [intS_zero, h0]
 | succ i =>
   have := nc_invN hm h (i := i + 1) (by omega)
   rw [intS_succ, dS_c, CR.mul_comm (nc (Zm m) (i + 1)) (l.c (i + 1)), CR.mul_assoc, show ((i : Int) + 1) = ((i + 1 : Nat) : Int) by omega, this, Go.Fg.mul_one]
theorem dS_int (hm : 2 ≤ m) (b : PS (Zm m)) {k : Nat} (h : unitsB m k = true) : Ag k (dS (intS b)) b := fun i hi => by
 have := nc_invN hm h (i := i + 1) (by omega)
 rw [dS_c, intS_succ, show ((i : Int) + 1) = ((i + 1 : Nat) : Int) by omega, CR.mul_comm (b.c i), ← CR.mul_assoc, this, CR.one_mul]
theorem intS_1 (hm : 2 ≤ m) {b : PS (Zm m)} (h : b.c 0 = 1) : (intS b).c 1 = 1 := by
 rw [show (intS b).c 1 = b.c 0 * invN m ((0 : Nat) + 1 : Int) from rfl, h, CR.one_mul]; exact invN_1 hm
end
end PS
end Go.Fg
namespace Go.Fg
set_option linter.unusedVariables false
set_option linter.unusedSimpArgs false
set_option linter.unusedSectionVars false
namespace PS
section
variable {R : Type} [CR R]
theorem comp_smX {b : PS R} (hb : b.c 0 = 0) (k : Nat) (u : Nat → PS R) : comp (Go.Fg.sm k u) b = Go.Fg.sm k fun i => comp (u i) b := by
 induction k with
 | zero => exact zero_comp b
 | succ k ih => rw [sm_succ, sm_succ, comp_addX _ _ hb, ih]
def mapY (b : PS R) (F : PS (PS R)) : PS (PS R) := ⟨fun i => comp (F.c i) b⟩
theorem mapY_add {b : PS R} (hb : b.c 0 = 0) (F G : PS (PS R)) : mapY b (F + G) = mapY b F + mapY b G := PS.ext (fun i => comp_addX _ _ hb)
theorem mapY_mul {b : PS R} (hb : b.c 0 = 0) (F G : PS (PS R)) : mapY b (F * G) = mapY b F * mapY b G := PS.ext (fun i => by
 show comp ((F * G).c i) b = (mapY b F * mapY b G).c i
 rw [mul_c, mul_c, comp_smX hb]
 exact sm_congr (fun j _ => comp_mulX _ _ hb))
theorem mapY_C {b : PS R} (g : PS R) : mapY b (C g) = C (comp g b) := PS.ext (fun i => by
 show comp ((C g).c i) b = _
 rw [C_c, C_c]
 split
 · rfl
 · exact zero_comp b)
theorem axX_0 {a : PS R} (ha : a.c 0 = 0) : (axX a).c 0 = 0 := by show C (a.c 0) = 0; rw [ha, C_zero]
def sb2 (a b : PS R) (F : PS (PS R)) : PS (PS R) := comp (mapY b F) (axX a)
variable {a b : PS R}
theorem sb2_add (ha : a.c 0 = 0) (hb : b.c 0 = 0) (F G : PS (PS R)) : sb2 a b (F + G) = sb2 a b F + sb2 a b G := by
 unfold sb2; rw [mapY_add hb, comp_addX _ _ (axX_0 ha)]
theorem sb2_mul (ha : a.c 0 = 0) (hb : b.c 0 = 0) (F G : PS (PS R)) : sb2 a b (F * G) = sb2 a b F * sb2 a b G := by
 unfold sb2; rw [mapY_mul hb, comp_mulX _ _ (axX_0 ha)]
theorem sb2_axY (ha : a.c 0 = 0) (l : PS R) : sb2 a b (axY l) = axY (comp l b) := by
 unfold sb2 axY
 rw [mapY_C, comp_CX _ (axX_0 ha)]
theorem sb2_CC (ha : a.c 0 = 0) (hb : b.c 0 = 0) (r : R) : sb2 a b (C (C r)) = C (C r) := by
 have := sb2_axY (b := b) ha (C r)
 unfold axY at this
 rw [this, comp_CX _ hb]
theorem sb2_one (ha : a.c 0 = 0) (hb : b.c 0 = 0) : sb2 a b 1 = 1 := by
 have := sb2_CC ha hb (1 : R)
 rwa [C_one, C_one] at this
theorem sb2_zero (ha : a.c 0 = 0) (hb : b.c 0 = 0) : sb2 a b 0 = 0 := by
 have := sb2_CC ha hb (0 : R)
 rwa [C_zero, C_zero] at this
theorem sb2_pw (ha : a.c 0 = 0) (hb : b.c 0 = 0) (F : PS (PS R)) : ∀ k, sb2 a b (Go.Fg.pw F k) = Go.Fg.pw (sb2 a b F) k
 | 0 => sb2_one ha hb
 | k + 1 => by rw [pw_succ, pw_succ, sb2_mul ha hb, sb2_pw ha hb F k]
theorem sb2_sm (ha : a.c 0 = 0) (hb : b.c 0 = 0) (k : Nat) (u : Nat → PS (PS R)) : sb2 a b (Go.Fg.sm k u) = Go.Fg.sm k fun i => sb2 a b (u i) := by
 induction k with
 | zero => exact sb2_zero ha hb
 | succ k ih => rw [sm_succ, sm_succ, sb2_add ha hb, ih]
theorem sb2_c (a b : PS R) (F : PS (PS R)) (p q : Nat) : ((sb2 a b F).c p).c q = Go.Fg.sm (p + 1) fun i => Go.Fg.sm (q + 1) fun j => (F.c i).c j * ((Go.Fg.pw a i).c p * (Go.Fg.pw b j).c q) := by
 show ((compN (mapY b F) (axX a) 0 (p + 1)).c p).c q = _
 unfold compN
 rw [sm_c, sm_c]
 refine sm_congr (fun i _ => ?_)
 rw [C_mul, axX_pw, Nat.zero_add]
 show (comp (F.c i) b * C ((Go.Fg.pw a i).c p)).c q = _
 rw [mul_C_c]
 show (compN (F.c i) b 0 (q + 1)).c q * (Go.Fg.pw a i).c p = _
 unfold compN
 rw [sm_c, sm_mul_right]
 refine sm_congr (fun j _ => ?_)
 rw [C_mul, Nat.zero_add, CR.mul_assoc, CR.mul_comm ((Go.Fg.pw b j).c q)]
theorem sb2_axX (ha : a.c 0 = 0) (hb : b.c 0 = 0) (l : PS R) : sb2 a b (axX l) = axX (comp l a) := by
 refine PS.ext (fun p => PS.ext (fun q => ?_))
 rw [sb2_c]
 show _ = (C ((comp l a).c p)).c q
 have e : ∀ i, (Go.Fg.sm (q + 1) fun j => ((axX l).c i).c j * ((Go.Fg.pw a i).c p * (Go.Fg.pw b j).c q)) = l.c i * ((Go.Fg.pw a i).c p * (C (1 : R)).c q) := fun i => by
   rw [sm_one 0 (by omega) (fun j _ hne => by rw [show ((axX l).c i).c j = (C (l.c i)).c j from rfl, C_c, if_neg hne, Go.Fg.zero_mul])]
   rfl
 rw [sm_congr (fun i _ => e i)]
 show _ = (C ((compN l a 0 (p + 1)).c p)).c q
 unfold compN
 rw [sm_c, C_c, C_c]
 split
 · refine sm_congr (fun i _ => ?_)
   rw [C_mul, Nat.zero_add, Go.Fg.mul_one]
 · exact sm_zero (fun i _ => by rw [Go.Fg.mul_zero, Go.Fg.mul_zero])
end
section
variable {m : Int} {a b : PS (Zm m)}
theorem sb2_ag {N : Nat} {F G : PS (PS (Zm m))} (h : Ag2 N F G) : Ag2 N (sb2 a b F) (sb2 a b G) := fun p q hpq => by
 rw [sb2_c, sb2_c]
 exact sm_congr (fun i hi => sm_congr (fun j hj => by rw [h i j (by omega)]))
theorem sb2_comp2N (ha : a.c 0 = 0) (hb : b.c 0 = 0) (l : PS (Zm m)) (F : PS (PS (Zm m))) (K : Nat) : sb2 a b (comp2N l F 0 K) = comp2N l (sb2 a b F) 0 K := by
 unfold comp2N
 rw [sb2_sm ha hb]
 refine sm_congr (fun i _ => ?_)
 rw [sb2_mul ha hb, sb2_CC ha hb, sb2_pw ha hb]
theorem log_turned {f : PS (PS (Zm m))} {l g : PS (Zm m)} {N : Nat} (hg : g.c 0 = 0) (h : Ag2 N (comp2N l f 0 N) (axX l + axY l)) (hl : Ag N (comp l g) X) :
   Ag2 N (comp2N l (sb2 g g f) 0 N) (axX X + axY X) := by
 have h1 := sb2_ag (a := g) (b := g) h
 rw [sb2_comp2N hg hg, sb2_add hg hg, sb2_axX hg hg, sb2_axY hg] at h1
 exact h1.trans (Ag2.add (axX_ag hl) (axY_ag hl))
end
end PS
end Go.Fg
