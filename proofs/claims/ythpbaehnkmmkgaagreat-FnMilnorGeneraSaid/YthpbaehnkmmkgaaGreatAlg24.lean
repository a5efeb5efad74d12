/- Substitution and reversion of series, Lagrange's inversion. -/
import Derived.Test.YthpbaehnkmmkgaaGreatAlg23

namespace Go.Fg
set_option linter.unusedVariables false
set_option linter.unusedSectionVars false
namespace PS
variable {R : Type} [CR R]
theorem ag_all {a b : PS R} (h : ∀ N, Ag N a b) : a = b := PS.ext (fun n => h (n + 1) n (by omega))
theorem comp_mulX (a b : PS R) {c : PS R} (hc : c.c 0 = 0) : comp (a * b) c = comp a c * comp b c := ag_all (fun N => comp_mul N a b hc)
theorem comp_addX (a b : PS R) {c : PS R} (hc : c.c 0 = 0) : comp (a + b) c = comp a c + comp b c := ag_all (fun N => by
  refine (comp_E _ hc).trans ?_
  rw [axX_add, E_add]
  exact (comp_E a hc).symm.add (comp_E b hc).symm)
theorem comp_CX (r : R) {c : PS R} (hc : c.c 0 = 0) : comp (C r) c = C r := ag_all (fun N => (comp_C (N := N + 1) (by omega) r hc).le (by omega))
theorem comp_oneX {c : PS R} (hc : c.c 0 = 0) : comp 1 c = 1 := by rw [← C_one]; exact comp_CX 1 hc
theorem comp_pwX (a : PS R) {c : PS R} (hc : c.c 0 = 0) (k : Nat) : comp (Go.Fg.pw a k) c = Go.Fg.pw (comp a c) k := ag_all (fun N => (comp_pw (N := N + 1) (by omega) a hc k).le (by omega))
theorem X_compX {c : PS R} (hc : c.c 0 = 0) : comp X c = c := ag_all (fun N => X_comp N hc)
theorem compN_compX {a : PS R} (N : Nat) {b c : PS R} (hc : c.c 0 = 0) : comp (compN a b 0 N) c = compN a (comp b c) 0 N := by
  unfold compN
  refine ag_all (fun K => (comp_sm K N _ hc).trans (Ag.of_eq (sm_congr (fun i _ => ?_))))
  rw [comp_mulX _ _ hc, comp_CX _ hc, comp_pwX _ hc]
theorem comp_comp (a : PS R) {b c : PS R} (hb : b.c 0 = 0) (hc : c.c 0 = 0) : comp (comp a b) c = comp a (comp b c) := ag_all (fun N =>
  (comp_congr (compN_ag hb N).symm Ag.rfl).trans ((Ag.of_eq (compN_compX N hc)).trans (compN_ag (by rw [comp_0, hb]) N)))
theorem dS_comp (a : PS R) {c : PS R} (hc : c.c 0 = 0) : dS (comp a c) = comp (dS a) c * dS c := ag_all (fun N => by
  have h1 : Ag N (dS (comp a c)) (dS (compN a c 0 (N + 1))) := fun i hi => by
    rw [dS_c, dS_c, compN_ag hc (N + 1) (i + 1) (by omega)]
  refine h1.trans ?_
  refine Ag.trans (Ag.of_eq ?_) ((compN_ag hc N).mul Ag.rfl)
  unfold compN
  rw [dS_sm, sm_succ_left, sm_mul_right, Nat.add_zero, pw_zero, Go.Fg.mul_one, dS_C, CR.zero_add]
  refine sm_congr (fun i hi => ?_)
  rw [dS_mul, dS_C, Go.Fg.zero_mul, CR.zero_add, dS_pw, dS_c, Nat.zero_add, Nat.zero_add, nc_C, ← C_mul_C]
  ac_rfl)
theorem dS_X : dS (X : PS R) = 1 := by
  ext n
  rw [dS_c, X_c, one_c]
  cases n with
  | zero => rw [if_pos rfl, if_pos rfl, Nat.zero_add, nc_one, CR.one_mul]
  | succ n => rw [if_neg (by omega), if_neg (by omega), Go.Fg.mul_zero]
theorem comp_pert (a : PS R) {b : PS R} (hb : b.c 0 = 0) (n : Nat) (hn : 1 ≤ n) (v : R) : Ag (n + 1) (comp a (b + mono n v)) (comp a b + mono n (a.c 1 * v)) := by
  have hb' : (b + mono n v).c 0 = 0 := by rw [add_c, hb, mono_c, if_neg (by omega), CR.zero_add]
  refine (compN_ag hb' (n + 1)).symm.trans (Ag.trans ?_ ((compN_ag hb (n + 1)).add Ag.rfl))
  have hs : compN a b 0 (n + 1) + mono n (a.c 1 * v) = Go.Fg.sm (n + 1) fun i => C (a.c (0 + i)) * Go.Fg.pw b i + (if i = 1 then mono n (a.c 1 * v) else 0) := by
    rw [sm_add, sm_one (f := fun i => if i = 1 then mono n (a.c 1 * v) else 0) 1 (by omega) (fun i _ h => if_neg h), if_pos rfl]; rfl
  rw [hs]
  refine Ag.sm (fun i hi => ?_)
  by_cases e : i = 1
  · rw [if_pos e, e, pw_one, pw_one, CR.mul_add, Nat.zero_add]
    refine Ag.rfl.add (Ag.of_eq ?_)
    ext j
    rw [C_mul, mono_c, mono_c]
    split
    · rfl
    · exact Go.Fg.mul_zero _
  · rw [if_neg e, Go.Fg.add_zero]
    exact Ag.rfl.mul (pw_pert hn hb v i e)
theorem revP_comp {u : R} {a : PS R} (h0 : a.c 0 = 0) (h : a.c 1 * u = 1) : ∀ n, Ag (n + 1) (comp a (revP u a n)) X
  | 0 => fun i hi => by rw [show i = 0 by omega, comp_0, h0]; rfl
  | n + 1 => by
    have c0 := revP_c0 u a n
    have ih := revP_comp h0 h n
    have e : revP u a (n + 1) = revP u a n + mono (n + 1) ((revP u a (n + 1)).c (n + 1)) := by
      ext i
      rw [add_c, mono_c]
      by_cases e : i = n + 1
      · rw [if_pos e, e, revP_high u a n (n + 1) (by omega), CR.zero_add]
      · rw [if_neg e, Go.Fg.add_zero]
        rcases Nat.lt_or_ge i (n + 1) with h1 | h1
        · rw [revP_c u a (n + 1) i (by omega), revP_c u a n i (by omega)]
        · rw [revP_high u a (n + 1) i (by omega), revP_high u a n i (by omega)]
    refine (Ag.of_eq (by rw [← e])).trans (((comp_pert a c0 (n + 1) (by omega) ((revP u a (n + 1)).c (n + 1)))).trans (fun i hi => ?_))
    rw [add_c, mono_c]
    by_cases e2 : i = n + 1
    · rw [if_pos e2, e2]
      cases n with
      | zero =>
        have r1 : (revP u a (0 + 1)).c (0 + 1) = u := by show ((0 : PS R).upd 1 u).c 1 = u; rw [upd_c, if_pos rfl]
        rw [r1, h]
        have r0 : (comp a (revP u a 0)).c (0 + 1) = 0 := by
          have : revP u a 0 = 0 := rfl
          rw [this, ← compN_ag (N := 2) (f := 0) rfl 1 (by omega)]
          unfold compN
          rw [sm_c]
          exact sm_zero (fun i _ => by
            cases i with
            | zero => rw [C_mul, pw_zero, one_c, if_neg (by omega), Go.Fg.mul_zero]
            | succ i => rw [zero_pw (by omega), Go.Fg.mul_zero]; rfl)
        rw [r0, CR.zero_add]; rfl
      | succ n =>
        have r1 : (revP u a (n + 1 + 1)).c (n + 1 + 1) = -((comp a (revP u a (n + 1))).c (n + 1 + 1) * u) := by
          rw [revP_two u a _ (by omega), upd_c, if_pos rfl]
        rw [r1, Go.Fg.mul_neg, CR.mul_comm _ u, ← CR.mul_assoc, h, CR.one_mul, Go.Fg.add_neg, X_c, if_neg (by omega)]
    · rw [if_neg e2, ih i (by omega), Go.Fg.add_zero]
theorem comp_rev {u : R} {a : PS R} (h0 : a.c 0 = 0) (h : a.c 1 * u = 1) : comp a (rev u a) = X := ag_all (fun N => (comp_congr Ag.rfl ((revP_ag u a N).symm.le (by omega))).trans ((revP_comp h0 h N).le (by omega)))
theorem comp_Xr (a : PS R) : comp a X = a := PS.ext (fun i => by
  show (compN a X 0 (i + 1)).c i = _
  unfold compN
  have e : ∀ k, (C (a.c (0 + k)) * Go.Fg.pw (X : PS R) k).c i = if i = k then a.c k else 0 := fun k => by
    have : (X : PS R) = mono 1 1 := rfl
    rw [C_mul, this, pw_mono, one_pw, mono_c, Nat.mul_one, Nat.zero_add]
    split
    · exact Go.Fg.mul_one _
    · exact Go.Fg.mul_zero _
  rw [sm_c, sm_congr (fun k _ => e k), sm_one i (by omega) (fun k _ h => if_neg (Ne.symm h)), if_pos rfl])
theorem rev_comp {u : R} {a : PS R} (h0 : a.c 0 = 0) (h : a.c 1 * u = 1) : comp (rev u a) a = X := by
  have h1 := comp_rev h0 h
  have h2 : comp (rev u a) (rev (a.c 1) (rev u a)) = X := comp_rev (rev_c0 u a) (by rw [rev_c1, CR.mul_comm, h])
  have c0 := rev_c0 (a.c 1) (rev u a)
  have e : a = rev (a.c 1) (rev u a) := by
    have := comp_comp a (rev_c0 u a) c0
    rw [h1, h2, X_compX c0] at this
    rw [this, comp_Xr]
  rw [← e] at h2
  exact h2
section
variable {m : Int}
def lfz (a : PS (Zm m)) : PS (Zm 0) := ⟨fun i => Zm.mk 0 (a.c i).val⟩
def red (m : Int) (z : Zm 0) : Zm m := Zm.mk m z.val
def Mp (m : Int) (a : PS (Zm 0)) : PS (Zm m) := ⟨fun i => red m (a.c i)⟩
theorem red_add (a b : Zm 0) : red m (a + b) = red m a + red m b := by
  unfold red; rw [Zm.val_add, Int.emod_zero, Zm.mk_add]
theorem red_mul (a b : Zm 0) : red m (a * b) = red m a * red m b := by
  unfold red; rw [Zm.val_mul, Int.emod_zero, Zm.mk_mul]
theorem red_sm (n : Nat) (f : Nat → Zm 0) : red m (Go.Fg.sm n f) = Go.Fg.sm n fun i => red m (f i) := by
  induction n with
  | zero => show red m (Zm.mk 0 0) = 0; unfold red; rw [Zm.val_mk, Int.emod_zero, Zm.mk_zero]
  | succ n ih => rw [sm_succ, sm_succ, red_add, ih]
theorem red_nc (k : Nat) : red m (nc (Zm 0) k) = nc (Zm m) k := by
  rw [nc_mk, nc_mk]; unfold red; rw [Zm.val_mk, Int.emod_zero]
theorem Mp_lfz (a : PS (Zm m)) : Mp m (lfz a) = a := PS.ext (fun i => by
  show Zm.mk m (Zm.mk 0 (a.c i).val).val = _
  rw [Zm.val_mk, Int.emod_zero, Zm.mk_val])
theorem Mp_mul (a b : PS (Zm 0)) : Mp m (a * b) = Mp m a * Mp m b := PS.ext (fun n => by
  show red m ((a * b).c n) = _
  rw [mul_c, mul_c, red_sm]
  exact sm_congr (fun i _ => red_mul _ _))
theorem Mp_one : Mp m (1 : PS (Zm 0)) = 1 := PS.ext (fun n => by
  show red m ((1 : PS (Zm 0)).c n) = _
  rw [one_c, one_c]
  split
  · have := red_nc (m := m) 1; rwa [nc_one, nc_one] at this
  · have := red_nc (m := m) 0; exact this)
theorem Mp_pw (a : PS (Zm 0)) : ∀ k, Mp m (Go.Fg.pw a k) = Go.Fg.pw (Mp m a) k
  | 0 => Mp_one
  | k + 1 => by rw [pw_succ, pw_succ, Mp_mul, Mp_pw a k]
theorem Mp_dS (a : PS (Zm 0)) : Mp m (dS a) = dS (Mp m a) := PS.ext (fun n => by
  show red m ((dS a).c n) = _
  rw [dS_c, dS_c, red_mul, red_nc]; rfl)
theorem cancelZ {k : Nat} (hk : 1 ≤ k) {x y : Zm 0} (h : nc (Zm 0) k * x = nc (Zm 0) k * y) : x = y := by
  apply Zm.val_inj
  have := congrArg Zm.val h
  rw [Zm.val_mul, Zm.val_mul, nc_mk, Zm.val_mk] at this
  simp only [Int.emod_zero] at this
  exact Int.eq_of_mul_eq_mul_left (by omega) this
theorem resid (Q : PS (Zm m)) (t : Nat) : (Go.Fg.pw Q t * dS Q).c t = (Go.Fg.pw Q (t + 1)).c (t + 1) := by
  have h : (Go.Fg.pw (lfz Q) t * dS (lfz Q)).c t = (Go.Fg.pw (lfz Q) (t + 1)).c (t + 1) := by
    apply cancelZ (k := t + 1) (by omega)
    have : (dS (Go.Fg.pw (lfz Q) (t + 1))).c t = nc (Zm 0) (t + 1) * (Go.Fg.pw (lfz Q) t * dS (lfz Q)).c t := by rw [dS_pw, nc_C, C_mul]
    rw [← this, dS_c]
  have := congrArg (red m) h
  have e1 : red m ((Go.Fg.pw (lfz Q) t * dS (lfz Q)).c t) = (Mp m (Go.Fg.pw (lfz Q) t * dS (lfz Q))).c t := rfl
  have e2 : red m ((Go.Fg.pw (lfz Q) (t + 1)).c (t + 1)) = (Mp m (Go.Fg.pw (lfz Q) (t + 1))).c (t + 1) := rfl
  rwa [e1, e2, Mp_mul, Mp_pw, Mp_dS, Mp_pw, Mp_lfz] at this
theorem resid_e {Q U : PS (Zm m)} (h : Q * U = 1) (s : Nat) : (Go.Fg.pw Q (s + 1) * dS (X * U)).c s = if s = 0 then 1 else 0 := by
  have hd : Q * dS U = -(dS Q * U) := by
    have := dS_mul Q U
    rw [h, dS_one] at this
    exact neg_unique (by rw [← this])
  have e1 : dS (X * U) = U + X * dS U := by rw [dS_mul, dS_X, CR.one_mul]
  have e2 : Go.Fg.pw Q (s + 1) * dS (X * U) = Go.Fg.pw Q s + X * (Go.Fg.pw Q s * (Q * dS U)) := by
    rw [e1, CR.mul_add, pw_succ, CR.mul_assoc (Go.Fg.pw Q s) Q U, h, Go.Fg.mul_one]
    congr 1; ac_rfl
  rw [e2, hd, add_c]
  cases s with
  | zero => rw [X_mul_zero, Go.Fg.add_zero, pw_zero, one_c]
  | succ t =>
    have e3 : Go.Fg.pw Q (t + 1) * -(dS Q * U) = -(Go.Fg.pw Q t * dS Q) := by
      rw [Go.Fg.mul_neg, pw_succ]
      congr 1
      have : Go.Fg.pw Q t * Q * (dS Q * U) = Go.Fg.pw Q t * dS Q * (Q * U) := by ac_rfl
      rw [this, h, Go.Fg.mul_one]
    rw [X_mul_succ, e3, neg_c, resid, Go.Fg.add_neg, if_neg (by omega)]
theorem lagrange {Q U l : PS (Zm m)} (h : Q * U = 1) (hl0 : l.c 0 = 0) (hl : comp l (X * U) = X) (H : PS (Zm m)) (i : Nat) : (Go.Fg.pw Q (i + 1) * comp H (X * U)).c i = (H * dS l).c i := by
  have e0 : (X * U : PS (Zm m)).c 0 = 0 := X_mul_zero U
  have h1 : comp (dS l) (X * U) * dS (X * U) = 1 := by rw [← dS_comp l e0, hl, dS_X]
  have h2 : comp H (X * U) = comp (H * dS l) (X * U) * dS (X * U) := by rw [comp_mulX _ _ e0, CR.mul_assoc, h1, Go.Fg.mul_one]
  generalize H * dS l = G at h2 ⊢
  rw [h2]
  have h3 : Ag (i + 1) (Go.Fg.pw Q (i + 1) * (comp G (X * U) * dS (X * U))) (Go.Fg.sm (i + 1) fun k => C (G.c k) * (mono k 1 * (Go.Fg.pw Q (i - k + 1) * dS (X * U)))) := by
    refine (Ag.rfl.mul ((compN_ag e0 (i + 1)).symm.mul Ag.rfl)).trans (Ag.of_eq ?_)
    unfold compN
    rw [sm_mul_right, sm_mul]
    refine sm_congr (fun k hk => ?_)
    have e : Go.Fg.pw Q (i + 1) = Go.Fg.pw Q k * Go.Fg.pw Q (i - k + 1) := by rw [← pw_add, show k + (i - k + 1) = i + 1 by omega]
    have e4 : Go.Fg.pw Q k * Go.Fg.pw U k = 1 := by rw [← pw_mul_base, h, one_pw]
    rw [e, pw_mul_base, pw_X, Nat.zero_add]
    have : Go.Fg.pw Q k * Go.Fg.pw Q (i - k + 1) * (C (G.c k) * (mono k 1 * Go.Fg.pw U k) * dS (X * U)) = (Go.Fg.pw Q k * Go.Fg.pw U k) * (C (G.c k) * (mono k 1 * (Go.Fg.pw Q (i - k + 1) * dS (X * U)))) := by ac_rfl
    rw [this, e4, CR.one_mul]
  rw [h3 i (by omega), sm_c, sm_one i (by omega) (fun k hk hne => by
    rw [C_mul, mono_mul_c, if_neg (by omega), CR.one_mul, resid_e h, if_neg (by omega), Go.Fg.mul_zero]), C_mul, mono_mul_c, if_neg (by omega), CR.one_mul, resid_e h, if_pos (by omega), Go.Fg.mul_one]
end
end PS
end Go.Fg

/- The law of a logarithm; the binomial theorem. -/
namespace Go.Fg
set_option linter.unusedVariables false
set_option linter.unusedSectionVars false
section
variable {R : Type} [CR R]
theorem nc_sum_mul (a b : Nat) (x : R) : nc R (a + b) * x = nc R a * x + nc R b * x := by rw [nc_add, add_mul]
theorem binom (u v : R) : ∀ s, pw (u + v) s = sm (s + 1) fun a => nc R (bin s a) * (pw u a * pw v (s - a))
  | 0 => by
    rw [sm_succ, sm_zero', CR.zero_add, bin_zero, nc_one]
    show (1 : R) = 1 * (1 * 1)
    rw [CR.one_mul, CR.one_mul]
  | s + 1 => by
    rw [pw_succ, binom u v s, sm_mul_right]
    have e : ∀ a, nc R (bin s a) * (pw u a * pw v (s - a)) * (u + v) = nc R (bin s a) * (pw u (a + 1) * pw v (s - a)) + nc R (bin s a) * (pw u a * (pw v (s - a) * v)) := fun a => by
      rw [CR.mul_add, pw_succ u a]
      congr 1 <;> ac_rfl
    rw [sm_congr (fun a _ => e a), sm_add]
    have e1 : sm (s + 1) (fun a => nc R (bin s a) * (pw u (a + 1) * pw v (s - a))) = sm (s + 1 + 1) (fun a => match a with | 0 => 0 | a + 1 => nc R (bin s a) * (pw u (a + 1) * pw v (s - a))) := by
      rw [sm_succ_left (s + 1), CR.zero_add]
    have e2 : sm (s + 1) (fun a => nc R (bin s a) * (pw u a * (pw v (s - a) * v))) = sm (s + 1 + 1) (fun a => nc R (bin s a) * (pw u a * pw v (s + 1 - a))) := by
      rw [sm_succ (s + 1), bin_gt (by omega)]
      show _ = _ + (0 : R) * _
      rw [zero_mul, add_zero]
      exact sm_congr (fun a ha => by rw [show s + 1 - a = s - a + 1 by omega, pw_succ v])
    rw [e1, e2, ← sm_add]
    refine sm_congr (fun a ha => ?_)
    cases a with
    | zero => rw [CR.zero_add, bin_zero, bin_zero]
    | succ a => rw [bin_succ, nc_sum_mul, show s + 1 - (a + 1) = s - a by omega]
end
namespace PS
variable {R : Type} [CR R]
def jX (g : PS (PS R)) : PS (PS (PS R)) := ⟨fun i => axX (g.c i)⟩
theorem jX_add (g h : PS (PS R)) : jX (g + h) = jX g + jX h := PS.ext (fun i => axX_add _ _)
theorem jX_mul (g h : PS (PS R)) : jX (g * h) = jX g * jX h := PS.ext (fun n => by
  show axX ((g * h).c n) = _
  rw [mul_c, mul_c, axX_sm]
  exact sm_congr (fun i _ => axX_mul _ _))
theorem axX_00 : axX (0 : PS R) = 0 := by
  have h := axX_add (0 : PS R) 0
  rw [CR.zero_add] at h
  have : axX (0 : PS R) + 0 = axX (0 : PS R) + axX 0 := by rw [← h, Go.Fg.add_zero]
  exact (add_left_cancel this).symm
theorem jX_one : jX (1 : PS (PS R)) = 1 := PS.ext (fun n => by
  show axX ((1 : PS (PS R)).c n) = _
  rw [one_c, one_c]
  split
  · exact axX_one
  · exact axX_00)
theorem jX_pw (g : PS (PS R)) : ∀ k, jX (Go.Fg.pw g k) = Go.Fg.pw (jX g) k
  | 0 => jX_one
  | k + 1 => by rw [pw_succ, pw_succ, jX_mul, jX_pw g k]
theorem C_pw (r : R) : ∀ k, Go.Fg.pw (C r) k = C (Go.Fg.pw r k)
  | 0 => C_one.symm
  | k + 1 => by rw [pw_succ, pw_succ, C_pw r k, C_mul_C]
theorem axX_pw (a : PS R) : ∀ k, Go.Fg.pw (axX a) k = axX (Go.Fg.pw a k)
  | 0 => axX_one.symm
  | k + 1 => by rw [pw_succ, pw_succ, axX_pw a k, axX_mul]
theorem axY_pw (a : PS R) (k : Nat) : Go.Fg.pw (axY a) k = axY (Go.Fg.pw a k) := C_pw a k
theorem mul_C_c (g : PS R) (r : R) (n : Nat) : (g * C r).c n = g.c n * r := by rw [CR.mul_comm, C_mul, CR.mul_comm]
theorem xy_c (u v : PS R) (i j : Nat) : ((axX u * axY v).c i).c j = u.c i * v.c j := by
  show ((axX u * C v).c i).c j = _
  rw [mul_C_c]
  show (C (u.c i) * v).c j = _
  rw [C_mul]
theorem pw_ax (l : PS R) (s i j : Nat) : ((Go.Fg.pw (axX l + axY l) s).c i).c j = sm (s + 1) fun a => nc R (bin s a) * ((Go.Fg.pw l a).c i * (Go.Fg.pw l (s - a)).c j) := by
  rw [binom, sm_c, sm_c]
  refine sm_congr (fun a _ => ?_)
  rw [nc_C, nc_C, C_mul, C_mul, axX_pw, axY_pw, xy_c]
theorem pw_ax3 (l : PS R) (s p q k : Nat) :
    sm (s + 1) (fun a => nc R (bin s a) * (((Go.Fg.pw (axX l + axY l) a).c p).c q * (Go.Fg.pw l (s - a)).c k)) =
    sm (s + 1) (fun a => nc R (bin s a) * ((Go.Fg.pw l a).c p * ((Go.Fg.pw (axX l + axY l) (s - a)).c q).c k)) := by
  have e1 : jX (axX l) = (⟨fun i => C (C (l.c i))⟩ : PS (PS (PS R))) := PS.ext (fun i => by
    show axX (C (l.c i)) = _
    refine PS.ext (fun j => ?_)
    show C ((C (l.c i)).c j) = _
    rw [C_c, C_c]
    split
    · rfl
    · exact C_zero)
  have e2 : jX (axY l) = C (axX l) := PS.ext (fun i => by
    show axX ((C l).c i) = _
    rw [C_c, C_c]
    split
    · rfl
    · exact axX_00)
  have e3 : Go.Fg.pw (jX (axX l + axY l) + C (axY l)) s = Go.Fg.pw (jX (axX l) + C (axX l + axY l)) s := by
    rw [jX_add, e2, CR.add_assoc, C_add_C]
  have h : (((Go.Fg.pw (jX (axX l + axY l) + C (axY l)) s).c p).c q).c k = (((Go.Fg.pw (jX (axX l) + C (axX l + axY l)) s).c p).c q).c k := by rw [e3]
  rw [binom, binom, sm_c, sm_c, sm_c, sm_c, sm_c, sm_c] at h
  have l1 : ∀ a, (((nc (PS (PS (PS R))) (bin s a) * (Go.Fg.pw (jX (axX l + axY l)) a * Go.Fg.pw (C (axY l)) (s - a))).c p).c q).c k = nc R (bin s a) * (((Go.Fg.pw (axX l + axY l) a).c p).c q * (Go.Fg.pw l (s - a)).c k) := fun a => by
    rw [nc_C, nc_C, nc_C, C_mul, C_mul, C_mul, ← jX_pw, C_pw, mul_C_c]
    show _ * ((axX ((Go.Fg.pw (axX l + axY l) a).c p) * Go.Fg.pw (axY l) (s - a)).c q).c k = _
    rw [axY_pw, xy_c]
  have l2 : ∀ a, (((nc (PS (PS (PS R))) (bin s a) * (Go.Fg.pw (jX (axX l)) a * Go.Fg.pw (C (axX l + axY l)) (s - a))).c p).c q).c k = nc R (bin s a) * ((Go.Fg.pw l a).c p * ((Go.Fg.pw (axX l + axY l) (s - a)).c q).c k) := fun a => by
    rw [nc_C, nc_C, nc_C, C_mul, C_mul, C_mul, C_pw, mul_C_c, ← jX_pw, axX_pw]
    show _ * ((axX (C ((Go.Fg.pw l a).c p)) * _).c q).c k = _
    have : axX (C ((Go.Fg.pw l a).c p)) = C (C ((Go.Fg.pw l a).c p)) := PS.ext (fun j => by
      show C ((C ((Go.Fg.pw l a).c p)).c j) = _
      rw [C_c, C_c]
      split
      · rfl
      · exact C_zero)
    rw [this, C_mul, C_mul]
  rw [sm_congr (fun a _ => l1 a), sm_congr (fun a _ => l2 a)] at h
  exact h
section
variable {m : Int}
theorem axs_0 {l : PS (Zm m)} (h0 : l.c 0 = 0) : ((axX l + axY l).c 0).c 0 = 0 := by
  rw [add_c, add_c, axX_c, axY_c, if_pos rfl, h0, CR.zero_add]
def logL (e l : PS (Zm m)) (N : Nat) : PS (PS (Zm m)) := comp2N e (axX l + axY l) 0 N
theorem logL_c (e l : PS (Zm m)) (N i j : Nat) : ((logL e l N).c i).c j = sm N fun s => e.c s * sm (s + 1) fun a => nc (Zm m) (bin s a) * ((Go.Fg.pw l a).c i * (Go.Fg.pw l (s - a)).c j) := by
  unfold logL comp2N
  rw [sm_c, sm_c]
  exact sm_congr (fun s _ => by rw [CC_cc, pw_ax, Nat.zero_add])
theorem comp2N_X {f : PS (PS (Zm m))} {N : Nat} (hN : 2 ≤ N) : comp2N X f 0 N = f := by
  unfold comp2N
  rw [sm_one 1 (by omega) (fun i _ h => by rw [Nat.zero_add, X_c, if_neg h, C_zero, C_zero, Go.Fg.zero_mul]), pw_one, Nat.zero_add, X_c, if_pos rfl]
  show (1 : PS (PS (Zm m))) * f = f
  rw [CR.one_mul]
theorem logL_log {e l : PS (Zm m)} (e0 : e.c 0 = 0) (l0 : l.c 0 = 0) {N : Nat} (hN : 2 ≤ N) (h : Ag N (comp l e) X) : Ag2 N (comp2N l (logL e l N) 0 N) (axX l + axY l) := by
  refine (comp2N_comp (axs_0 l0) l e (by omega)).symm.trans ?_
  refine (comp2N_congr (b := X) (fun i _ hi => ((compN_ag e0 N).trans h) i (by omega)) Ag2.rfl).trans (Ag2.of_eq (comp2N_X hN))
theorem bin_col {s i : Nat} {l : PS (Zm m)} (l0 : l.c 0 = 0) : (sm (s + 1) fun a => nc (Zm m) (bin s a) * ((Go.Fg.pw l a).c i * (Go.Fg.pw l (s - a)).c 0)) = (Go.Fg.pw l s).c i := by
  rw [sm_one s (by omega) (fun a ha hne => by rw [pw_low l0 (s - a) 0 (by omega), Go.Fg.mul_zero, Go.Fg.mul_zero]), bin_self, nc_one, CR.one_mul, Nat.sub_self, pw_zero, one_c, if_pos rfl, Go.Fg.mul_one]
theorem compN_cc (a b : PS (Zm m)) (N i : Nat) : (compN a b 0 N).c i = sm N fun s => a.c s * (Go.Fg.pw b s).c i := by
  unfold compN
  rw [sm_c]
  exact sm_congr (fun s _ => by rw [C_mul, Nat.zero_add])
theorem logL_col {e l : PS (Zm m)} (l0 : l.c 0 = 0) {N : Nat} (h : Ag N (comp e l) X) {i : Nat} (hi : i < N) : ((logL e l N).c i).c 0 = X.c i := by
  rw [logL_c, ← h i hi, ← compN_ag l0 N i hi, compN_cc]
  exact sm_congr (fun s _ => by rw [bin_col l0])
theorem logL_sym (e l : PS (Zm m)) (N i j : Nat) : ((logL e l N).c i).c j = ((logL e l N).c j).c i := by
  rw [logL_c, logL_c]
  refine sm_congr (fun s _ => ?_)
  congr 1
  rw [sm_rev]
  exact sm_congr (fun a ha => by rw [bin_symm s a (by omega), CR.mul_comm ((Go.Fg.pw l (s - a)).c i), show s - (s - a) = a by omega])
theorem logL_as {e l : PS (Zm m)} (e0 : e.c 0 = 0) (l0 : l.c 0 = 0) {N : Nat} (hN : 2 ≤ N) (h : Ag N (comp l e) X) {p q k : Nat} (hs : p + q + k < N) :
    sm (N - k) (fun i => ((logL e l N).c i).c k * ((Go.Fg.pw (logL e l N) i).c p).c q) = sm (N - p) (fun j => ((logL e l N).c p).c j * ((Go.Fg.pw (logL e l N) j).c q).c k) := by
  have hlog := logL_log e0 l0 hN h
  have h00 : ((logL e l N).c 0).c 0 = 0 := by
    rw [logL_c]
    refine sm_zero (fun s _ => ?_)
    rw [bin_col l0]
    cases s with
    | zero => rw [e0, Go.Fg.zero_mul]
    | succ s => rw [pw_low l0 (s + 1) 0 (by omega), Go.Fg.mul_zero]
  have cc : ∀ (w : PS (Zm m)) (M a b : Nat), ((comp2N w (logL e l N) 0 M).c a).c b = sm M fun i => w.c i * ((Go.Fg.pw (logL e l N) i).c a).c b := fun w M a b => by
    unfold comp2N; rw [sm_c, sm_c]; exact sm_congr (fun i _ => by rw [CC_cc, Nat.zero_add])
  have pwl : ∀ s M a b, M ≤ N → a + b < M → ((comp2N (Go.Fg.pw l s) (logL e l N) 0 M).c a).c b = ((Go.Fg.pw (axX l + axY l) s).c a).c b := fun s M a b hM hab => by
    rw [← comp2N_le h00 (Go.Fg.pw l s) hM a b hab, comp2N_pw h00 l (by omega) s a b (by omega), hlog.pw s a b (by omega)]
  have left : sm (N - k) (fun i => ((logL e l N).c i).c k * ((Go.Fg.pw (logL e l N) i).c p).c q) = sm N fun s => e.c s * sm (s + 1) fun a => nc (Zm m) (bin s a) * (((Go.Fg.pw (axX l + axY l) a).c p).c q * (Go.Fg.pw l (s - a)).c k) := by
    have e1 : (⟨fun i => ((logL e l N).c i).c k⟩ : PS (Zm m)) = sm N fun s => sm (s + 1) fun a => C (e.c s * nc (Zm m) (bin s a) * (Go.Fg.pw l (s - a)).c k) * Go.Fg.pw l a := PS.ext (fun i => by
      show ((logL e l N).c i).c k = _
      rw [logL_c, sm_c]
      refine sm_congr (fun s _ => ?_)
      rw [sm_c, sm_mul]
      refine sm_congr (fun a _ => ?_)
      rw [C_mul]; ac_rfl)
    have := cc ⟨fun i => ((logL e l N).c i).c k⟩ (N - k) p q
    rw [← this, e1, comp2N_sm, sm_c, sm_c]
    refine sm_congr (fun s _ => ?_)
    rw [comp2N_sm, sm_c, sm_c, sm_mul]
    refine sm_congr (fun a _ => ?_)
    rw [comp2N_Cmul, CC_cc, pwl a (N - k) p q (by omega) (by omega)]
    ac_rfl
  have right : sm (N - p) (fun j => ((logL e l N).c p).c j * ((Go.Fg.pw (logL e l N) j).c q).c k) = sm N fun s => e.c s * sm (s + 1) fun a => nc (Zm m) (bin s a) * ((Go.Fg.pw l a).c p * ((Go.Fg.pw (axX l + axY l) (s - a)).c q).c k) := by
    have e1 : (logL e l N).c p = sm N fun s => sm (s + 1) fun a => C (e.c s * nc (Zm m) (bin s a) * (Go.Fg.pw l a).c p) * Go.Fg.pw l (s - a) := PS.ext (fun i => by
      rw [logL_c, sm_c]
      refine sm_congr (fun s _ => ?_)
      rw [sm_c, sm_mul]
      refine sm_congr (fun a _ => ?_)
      rw [C_mul]; ac_rfl)
    have := cc ((logL e l N).c p) (N - p) q k
    rw [← this, e1, comp2N_sm, sm_c, sm_c]
    refine sm_congr (fun s _ => ?_)
    rw [comp2N_sm, sm_c, sm_c, sm_mul]
    refine sm_congr (fun a _ => ?_)
    rw [comp2N_Cmul, CC_cc, pwl (s - a) (N - p) q k (by omega) (by omega)]
    ac_rfl
  rw [left, right]
  exact sm_congr (fun s _ => by rw [pw_ax3])
theorem logL_law {e l : PS (Zm m)} (e0 : e.c 0 = 0) (l0 : l.c 0 = 0) {N : Nat} (hN : 2 ≤ N) (h1 : Ag N (comp e l) X) (h : Ag N (comp l e) X) : LwN (logL e l N) N where
  pos := hN
  z0 := by rw [logL_col l0 h1 (by omega)]; rfl
  z1 := by rw [logL_col l0 h1 (by omega)]; rfl
  zz i hi hne := by rw [logL_col l0 h1 hi, X_c, if_neg hne]
  sym i j _ := logL_sym e l N i j
  as p q k hs := logL_as e0 l0 hN h hs
end
end PS
end Go.Fg

/- Values on Milnor's hypersurfaces by the law of the genus; the series of Hirzebruch. -/
namespace Go.Fg
set_option linter.unusedVariables false
set_option linter.unusedSectionVars false
namespace PS
variable {m : Int}
theorem prod_ax (u v l : PS (Zm m)) (s i j : Nat) : ((axX u * axY v * Go.Fg.pw (axX l + axY l) s).c i).c j = sm (s + 1) fun a => nc (Zm m) (bin s a) * ((u * Go.Fg.pw l a).c i * (v * Go.Fg.pw l (s - a)).c j) := by
  rw [binom, sm_mul, sm_c, sm_c]
  refine sm_congr (fun a _ => ?_)
  rw [nc_C, nc_C, axX_pw, axY_pw]
  have e : axX u * axY v * (C (C (nc (Zm m) (bin s a))) * (axX (Go.Fg.pw l a) * axY (Go.Fg.pw l (s - a)))) = C (C (nc (Zm m) (bin s a))) * ((axX u * axX (Go.Fg.pw l a)) * (axY v * axY (Go.Fg.pw l (s - a)))) := by ac_rfl
  have e2 : axY v * axY (Go.Fg.pw l (s - a)) = axY (v * Go.Fg.pw l (s - a)) := C_mul_C _ _
  rw [e, ← axX_mul, e2, C_mul, C_mul, xy_c]
theorem prod_comp2 (u v l e : PS (Zm m)) (N i j : Nat) : ((axX u * axY v * comp2N e (axX l + axY l) 0 N).c i).c j = sm N fun s => e.c s * sm (s + 1) fun a => nc (Zm m) (bin s a) * ((u * Go.Fg.pw l a).c i * (v * Go.Fg.pw l (s - a)).c j) := by
  unfold comp2N
  rw [sm_mul, sm_c, sm_c]
  refine sm_congr (fun s _ => ?_)
  have e : axX u * axY v * (C (C (e.c (0 + s))) * Go.Fg.pw (axX l + axY l) s) = C (C (e.c (0 + s))) * (axX u * axY v * Go.Fg.pw (axX l + axY l) s) := by ac_rfl
  rw [e, C_mul, C_mul, prod_ax, Nat.zero_add]
theorem prod_cc (u v : PS (Zm m)) (g : PS (PS (Zm m))) (i j : Nat) : ((axX u * axY v * g).c i).c j = sm (i + 1) fun a => sm (j + 1) fun b => u.c a * v.c b * (g.c (i - a)).c (j - b) := by
  rw [mul_c, sm_c]
  refine sm_congr (fun a _ => ?_)
  rw [mul_c]
  exact sm_congr (fun b _ => by rw [xy_c])
theorem milnor {Q U l : PS (Zm m)} (h : Q * U = 1) (hl0 : l.c 0 = 0) (hl : comp l (X * U) = X) (N i j : Nat) :
    ((axX (Go.Fg.pw Q (i + 1)) * axY (Go.Fg.pw Q (j + 1)) * comp2N (X * U) (axX X + axY X) 0 N).c i).c j = ((axX (dS l) * axY (dS l) * logL (X * U) l N).c i).c j := by
  have e0 : (X * U : PS (Zm m)).c 0 = 0 := X_mul_zero U
  have key : ∀ a n, (Go.Fg.pw Q (n + 1) * Go.Fg.pw X a).c n = (dS l * Go.Fg.pw l a).c n := fun a n => by
    have e : comp (Go.Fg.pw l a) (X * U) = Go.Fg.pw X a := by rw [comp_pwX _ e0, hl]
    rw [← e, lagrange h hl0 hl, CR.mul_comm]
  unfold logL
  rw [prod_comp2, prod_comp2]
  refine sm_congr (fun s _ => ?_)
  congr 1
  refine sm_congr (fun a _ => ?_)
  rw [key, key]
theorem milS_log {Q U l : PS (Zm m)} (h : Q * U = 1) (hl0 : l.c 0 = 0) (hl : comp l (X * U) = X) {N i j : Nat} (hN : i + j < N) :
    milS (Go.Fg.pw Q (i + 1)) (Go.Fg.pw Q (j + 1)) U i j = sm (i + 1) fun a => sm (j + 1) fun b => (dS l).c a * (dS l).c b * ((logL (X * U) l N).c (i - a)).c (j - b) := by
  rw [← prod_cc, ← milnor h hl0 hl, prod_cc]
  unfold milS
  refine sm_congr (fun a ha => sm_congr (fun b hb => ?_))
  congr 1
  rw [comp2_xy _ (show i - a + (j - b) < N by omega)]
  unfold milW
  generalize i - a = p
  generalize j - b = q
  split
  · rename_i e; rw [e, X_mul_zero, Go.Fg.zero_mul]
  · rename_i e
    obtain ⟨t, ht⟩ : ∃ t, p + q = t + 1 := ⟨p + q - 1, by omega⟩
    rw [ht, X_mul_succ, Nat.add_sub_cancel]
theorem genera_log {Q U l : PS (Zm m)} (h : Q * U = 1) (hl0 : l.c 0 = 0) (hl : comp l (X * U) = X) (n : Nat) : (Go.Fg.pw Q (n + 1)).c n = (dS l).c n := by
  have e0 : (X * U : PS (Zm m)).c 0 = 0 := X_mul_zero U
  have := lagrange h hl0 hl 1 n
  rwa [comp_oneX e0, Go.Fg.mul_one, CR.one_mul] at this
end PS
end Go.Fg

/- Genera: characteristic series come back from their values; the values of Hirzebruch's series. -/
namespace Go.Fg
set_option linter.unusedVariables false
set_option linter.unusedSimpArgs false
set_option linter.unusedSectionVars false
namespace PS
section
variable {R : Type} [CR R]
theorem ag_cancel {p a b : PS R} {v : R} {N : Nat} (hp : p.c 0 * v = 1) (h : Ag N (p * a) (p * b)) : Ag N a b := by
  have e : ∀ x : PS R, x = inv v p * (p * x) := fun x => by
    rw [← CR.mul_assoc, CR.mul_comm (inv v p) p, mul_inv hp, CR.one_mul]
  rw [e a, e b]
  exact Ag.rfl.mul h
theorem eq_sub {a b c : R} (h : a + b = c) : b = c - a := by rw [← h, CR.add_comm, Go.Fg.add_sub_cancel]
theorem C0X (U : PS R) : (C 0 + X * U : PS R) = X * U := by rw [C_zero, CR.zero_add]
theorem rev_rev {u v : R} {e : PS R} (h0 : e.c 0 = 0) (h : e.c 1 * u = 1) (h2 : u * v = 1) : rev v (rev u e) = e := by
  have l0 : (rev u e).c 0 = 0 := rev_c0 u e
  have l1 : (rev u e).c 1 * v = 1 := by rw [rev_c1, h2]
  have a1 := rev_comp l0 l1
  have a2 := rev_comp h0 h
  have r0 : (rev v (rev u e)).c 0 = 0 := rev_c0 v _
  calc rev v (rev u e) = comp (rev v (rev u e)) X := (comp_Xr _).symm
    _ = comp (rev v (rev u e)) (comp (rev u e) e) := by rw [a2]
    _ = comp (comp (rev v (rev u e)) (rev u e)) e := (comp_comp _ l0 h0).symm
    _ = comp X e := by rw [a1]
    _ = e := X_compX h0
end
section
variable {m : Int}
theorem nc_invN (hm : 2 ≤ m) {k i : Nat} (h : unitsB m k = true) (hi : 1 ≤ i ∧ i ≤ k) : nc (Zm m) i * invN m (i : Int) = 1 := by
  rw [nc_mk]; exact units_inv hm h hi
theorem invN_1 (hm : 2 ≤ m) : invN m 1 = 1 := invN_eq hm (show Zm.mk m 1 * 1 = 1 from Go.Fg.mul_one _)
theorem invN_v1 (hm : 2 ≤ m) : invN m (1 : Zm m).val = 1 := by rw [Zm.val_one (by omega)]; exact invN_1 hm
theorem proj_dS (hm : 2 ≤ m) {a : PS (Zm m)} (h0 : a.c 0 = 1) (n : Nat) :
    (Go.Fg.pw a (n + 1)).c n = (dS (rev 1 (X * inv 1 a))).c n := by
  have hU : a * inv 1 a = 1 := mul_inv (by rw [h0, CR.one_mul])
  have e0 : (X * inv 1 a : PS (Zm m)).c 0 = 0 := X_mul_zero _
  have e1 : (X * inv 1 a : PS (Zm m)).c 1 * 1 = 1 := by rw [X_mul_succ, inv_c0, CR.one_mul]
  exact genera_log hU (rev_c0 1 _) (rev_comp e0 e1) n
def geo (z : Zm m) : Nat → Zm m
  | 0 => 1
  | k + 1 => geo z k + Go.Fg.pw z (k + 1)
theorem geo_S (z : Zm m) : (⟨geo z⟩ : PS (Zm m)) * ((1 - X) * (1 - C z * X)) = 1 := by
  have h1 : (⟨geo z⟩ : PS (Zm m)) * (1 - X) = ⟨fun k => Go.Fg.pw z k⟩ := PS.ext (fun n => by
    rw [mul_sub, sub_c, Go.Fg.mul_one, CR.mul_comm]
    cases n with
    | zero => rw [X_mul_zero]; show (1 : Zm m) - 0 = 1; rw [Go.Fg.sub_def, Go.Fg.neg_zero, Go.Fg.add_zero]
    | succ n =>
      rw [X_mul_succ]
      show geo z n + Go.Fg.pw z (n + 1) - geo z n = Go.Fg.pw z (n + 1)
      rw [CR.add_comm, Go.Fg.add_sub_cancel])
  have h2 : (⟨fun k => Go.Fg.pw z k⟩ : PS (Zm m)) * (1 - C z * X) = 1 := PS.ext (fun n => by
    rw [mul_sub, sub_c, Go.Fg.mul_one, show (⟨fun k => Go.Fg.pw z k⟩ : PS (Zm m)) * (C z * X) = X * (C z * ⟨fun k => Go.Fg.pw z k⟩) by ac_rfl]
    cases n with
    | zero => rw [X_mul_zero]; show (1 : Zm m) - 0 = 1; rw [Go.Fg.sub_def, Go.Fg.neg_zero, Go.Fg.add_zero]
    | succ n =>
      rw [X_mul_succ, C_mul]
      show Go.Fg.pw z n * z - z * Go.Fg.pw z n = _
      rw [CR.mul_comm, Go.Fg.sub_self, one_c, if_neg (by omega)])
  rw [← CR.mul_assoc, h1, h2]
theorem hirz {H J : PS (Zm m)} {y : Zm m} {N : Nat} (hJ : J * H = 1) (hH : H.c 0 = 1) (hg : Ag N (dS (X * H)) (1 + C (-(1 + y)) * (X * H))) :
    Ag N ⟨fun n => (Go.Fg.pw (J - C y * X) (n + 1)).c n⟩ ⟨geo (-y)⟩ := by
  generalize hgd : X * H = g at hg
  have g0 : g.c 0 = 0 := by rw [← hgd]; exact X_mul_zero H
  have J0 : J.c 0 = 1 := by
    have := congrArg (fun s => s.c 0) hJ
    simp only [mul_c0, hH, one_c, if_true, Go.Fg.mul_one] at this
    exact this
  have Q0 : (J - C y * X).c 0 = 1 := by rw [sub_c, C_mul, X_c, if_neg (by omega), Go.Fg.mul_zero, J0, Go.Fg.sub_def, Go.Fg.neg_zero, Go.Fg.add_zero]
  generalize hQ : J - C y * X = Q at Q0 ⊢
  have hU : Q * inv 1 Q = 1 := mul_inv (by rw [Q0, CR.one_mul])
  generalize hV : inv 1 Q = U at hU
  have e0 : (X * U : PS (Zm m)).c 0 = 0 := X_mul_zero _
  have U0 : U.c 0 = 1 := by rw [← hV]; rfl
  have e1 : (X * U : PS (Zm m)).c 1 * 1 = 1 := by rw [X_mul_succ, U0, CR.one_mul]
  -- (1 - y g) e = g
  have hp : (1 - C y * g) * (X * U) = g := by
    have h1 : Q * H = 1 - C y * g := by rw [← hQ, sub_mul, hJ, ← hgd, CR.mul_assoc]
    have h2 : H = (1 - C y * g) * U := by
      rw [← h1, CR.mul_comm Q H, CR.mul_assoc, hU, Go.Fg.mul_one]
    calc (1 - C y * g) * (X * U) = X * ((1 - C y * g) * U) := by ac_rfl
      _ = g := by rw [← h2, hgd]
  generalize he : X * U = e at hp e0 e1
  have dp : dS (1 - C y * g) = -(C y * dS g) := by
    rw [Go.Fg.sub_def, dS_add, dS_one, CR.zero_add, ← Go.Fg.neg_mul, show -C y = C (-y) by ext n; rw [neg_c, C_c, C_c]; split <;> simp [Go.Fg.neg_zero], dS_mul, dS_C, Go.Fg.zero_mul, CR.zero_add, show C (-y) = -C y by ext n; rw [neg_c, C_c, C_c]; split <;> simp [Go.Fg.neg_zero], Go.Fg.neg_mul]
  have h3 : (1 - C y * g) * dS e = dS g * (1 + C y * e) := by
    have := congrArg dS hp
    rw [dS_mul, dp] at this
    have h4 : (1 - C y * g) * dS e = dS g - -(C y * dS g) * e := eq_sub this
    rw [h4, Go.Fg.sub_def, ← Go.Fg.neg_mul, Go.Fg.neg_neg, CR.mul_add, Go.Fg.mul_one]
    congr 1
    ac_rfl
  have hw : 1 + C (-(1 + y)) * g = (1 - C y * g) * (1 - e) := by
    rw [mul_sub, hp, Go.Fg.mul_one, show (C (-(1 + y)) : PS (Zm m)) = -(1 + C y) by ext n; rw [neg_c, add_c, C_c, C_c, one_c]; split <;> simp [Go.Fg.neg_zero, Go.Fg.add_zero], Go.Fg.neg_mul, add_mul, CR.one_mul, Go.Fg.neg_add_rev, Go.Fg.sub_def, Go.Fg.sub_def]
    ac_rfl
  have h5 : Ag N ((1 - C y * g) * dS e) ((1 - C y * g) * ((1 - e) * (1 + C y * e))) := by
    rw [h3, ← CR.mul_assoc, ← hw]
    exact hg.mul Ag.rfl
  have p0 : (1 - C y * g : PS (Zm m)).c 0 * 1 = 1 := by
    rw [sub_c, C_mul, g0, Go.Fg.mul_zero, one_c, if_pos rfl, Go.Fg.sub_def, Go.Fg.neg_zero, Go.Fg.add_zero, CR.one_mul]
  have h6 : Ag N (dS e) ((1 - e) * (1 + C y * e)) := ag_cancel p0 h5
  have hce : rev 1 e = rev 1 e := rfl
  have l0 : (rev 1 e).c 0 = 0 := rev_c0 1 e
  have le : comp (rev 1 e) e = X := rev_comp e0 e1
  have el : comp e (rev 1 e) = X := comp_rev e0 e1
  have h7 : comp (dS (rev 1 e)) e * dS e = 1 := by rw [← dS_comp _ e0, le, dS_X]
  have h8 : comp ⟨geo (-y)⟩ e * ((1 - e) * (1 + C y * e)) = 1 := by
    have : comp ((⟨geo (-y)⟩ : PS (Zm m)) * ((1 - X) * (1 - C (-y) * X))) e = comp 1 e := by rw [geo_S (m := m) (-y)]
    rw [comp_mulX _ _ e0, comp_mulX _ _ e0, comp_oneX e0] at this
    rw [Go.Fg.sub_def, Go.Fg.sub_def, comp_addX _ _ e0, comp_addX _ _ e0, comp_oneX e0] at this
    rw [show (-X : PS (Zm m)) = C (-1) * X by rw [show (C (-1) : PS (Zm m)) = -1 by ext n; rw [neg_c, C_c, one_c]; split <;> simp [Go.Fg.neg_zero], Go.Fg.neg_mul, CR.one_mul], comp_mulX _ _ e0, comp_CX _ e0, X_compX e0] at this
    rw [← Go.Fg.neg_mul, show (-C (-y) : PS (Zm m)) = C y by ext n; rw [neg_c, C_c, C_c]; split <;> simp [Go.Fg.neg_zero, Go.Fg.neg_neg], comp_mulX _ _ e0, comp_CX _ e0, X_compX e0] at this
    rw [show (C (-1) * e : PS (Zm m)) = -e by rw [show (C (-1) : PS (Zm m)) = -1 by ext n; rw [neg_c, C_c, one_c]; split <;> simp [Go.Fg.neg_zero], Go.Fg.neg_mul, CR.one_mul]] at this
    rw [Go.Fg.sub_def]; exact this
  have h9 : Ag N (comp ⟨geo (-y)⟩ e) (comp (dS (rev 1 e)) e) := by
    have a1 : comp ⟨geo (-y)⟩ e = comp ⟨geo (-y)⟩ e * (comp (dS (rev 1 e)) e * dS e) := by rw [h7, Go.Fg.mul_one]
    have a2 : comp (dS (rev 1 e)) e = comp (dS (rev 1 e)) e * (comp ⟨geo (-y)⟩ e * ((1 - e) * (1 + C y * e))) := by rw [h8, Go.Fg.mul_one]
    refine (Ag.of_eq a1).trans (Ag.trans ?_ (Ag.of_eq a2.symm))
    rw [show comp (⟨geo (-y)⟩ : PS (Zm m)) e * (comp (dS (rev 1 e)) e * dS e) = comp (dS (rev 1 e)) e * (comp ⟨geo (-y)⟩ e * dS e) by ac_rfl]
    exact Ag.rfl.mul (Ag.rfl.mul h6)
  have h10 : Ag N (⟨geo (-y)⟩ : PS (Zm m)) (dS (rev 1 e)) := by
    have := comp_congr h9 (Ag.rfl (n := N) (a := rev 1 e))
    rwa [comp_comp _ e0 l0, comp_comp _ e0 l0, el, comp_Xr, comp_Xr] at this
  intro n hn
  show (Go.Fg.pw Q (n + 1)).c n = geo (-y) n
  rw [genera_log hU l0 (by rw [he]; exact le) n]
  exact (h10 n hn).symm
theorem expo_dS (hm : 2 ≤ m) {w : Zm m} {f : Nat → Zm m} {N : Nat} (hf0 : f 0 = 1) (hf : ∀ k, k < N → nc (Zm m) (k + 1) * f (k + 1) = f k) :
    Ag N (dS (X * strS ⟨fun k => f (k + 1)⟩ w)) (1 + C w * (X * strS ⟨fun k => f (k + 1)⟩ w)) := fun n hn => by
  rw [dS_c, X_mul_succ]
  show nc (Zm m) (n + 1) * (f (n + 1) * Go.Fg.pw w n) = _
  rw [← CR.mul_assoc, hf n hn, add_c, C_mul]
  cases n with
  | zero => rw [hf0, one_c, if_pos rfl, X_mul_zero, Go.Fg.mul_zero, Go.Fg.add_zero]; show (1 : Zm m) * 1 = 1; exact CR.one_mul 1
  | succ n =>
    rw [one_c, if_neg (by omega), CR.zero_add, X_mul_succ]
    show f (n + 1) * (Go.Fg.pw w n * w) = w * (f (n + 1) * Go.Fg.pw w n)
    ac_rfl
end
end PS
end Go.Fg

/- Curves put for both variables of a plane. -/
namespace Go.Fg
set_option linter.unusedVariables false
set_option linter.unusedSimpArgs false
set_option linter.unusedSectionVars false
namespace PS
section
variable {R : Type} [CR R]
variable {a b : PS R}
end
section
variable {m : Int} {a b : PS (Zm m)}
end
end PS
end Go.Fg
