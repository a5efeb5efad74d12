/- Substitution and reversion of series, Lagrange's inversion. -/
import Derived.Test.YthpbaehnkmmkgaaGreatAlg23

namespace Go.Fg
set_option linter.unusedVariables false
set_option linter.unusedSectionVars false
namespace PS
variable {R : Type} [CR R]
theorem ag_all {a b : PS R} (h : ∀ N, Ag N a b) : a = b := PS.ext (fun n => h (n + 1) n (by omega))
theorem comp_mulX (a b : PS R) {c : PS R} (hc : c.c 0 = 0) : comp (a * b) c = comp a c * comp b c := ag_all (fun N => comp_mul N a b hc)
theorem comp_CX (r : R) {c : PS R} (hc : c.c 0 = 0) : comp (C r) c = C r := ag_all (fun N => (comp_C (N := N + 1) (by omega) r hc).le (by omega))
theorem comp_oneX {c : PS R} (hc : c.c 0 = 0) : comp 1 c = 1 := by rw [← C_one]; exact comp_CX 1 hc
theorem comp_pwX (a : PS R) {c : PS R} (hc : c.c 0 = 0) (k : Nat) : comp (Go.Fg.pw a k) c = Go.Fg.pw (comp a c) k := ag_all (fun N => (comp_pw (N := N + 1) (by omega) a hc k).le (by omega))
theorem X_compX {c : PS R} (hc : c.c 0 = 0) : comp X c = c := ag_all (fun N => X_comp N hc)
theorem compN_compX {a : PS R} (N : Nat) {b c : PS R} (hc : c.c 0 = 0) : comp (compN a b 0 N) c = compN a (comp b c) 0 N := by
  unfold compN
  refine ag_all (fun K => (comp_sm K N _ hc).trans (Ag.of_eq (sm_congr (fun i _ => ?_))))
  rw [comp_mulX _ _ hc, comp_CX _ hc, comp_pwX _ hc]
theorem comp_comp (a : PS R) {b c : PS R} (hb : b.c 0 = 0) (hc : c.c 0 = 0) : comp (comp a b) c = comp a (comp b c) := ag_all (fun N =>
  (comp_congr (compN_ag hb N).symm Ag.rfl).trans ((Ag.of_eq (compN_compX N hc)).trans (compN_ag (by rw [comp_0, hb]) N)))
theorem dS_comp (a : PS R) {c : PS R} (hc : c.c 0 = 0) : dS (comp a c) = comp (dS a) c * dS c := ag_all (fun N => by
  have h1 : Ag N (dS (comp a c)) (dS (compN a c 0 (N + 1))) := fun i hi => by
    rw [dS_c, dS_c, compN_ag hc (N + 1) (i + 1) (by omega)]
  refine h1.trans ?_
  refine Ag.trans (Ag.of_eq ?_) ((compN_ag hc N).mul Ag.rfl)
  unfold compN
  rw [dS_sm, sm_succ_left, sm_mul_right, Nat.add_zero, pw_zero, Go.Fg.mul_one, dS_C, CR.zero_add]
  refine sm_congr (fun i hi => ?_)
  rw [dS_mul, dS_C, Go.Fg.zero_mul, CR.zero_add, dS_pw, dS_c, Nat.zero_add, Nat.zero_add, nc_C, ← C_mul_C]
  ac_rfl)
theorem dS_X : dS (X : PS R) = 1 := by
  ext n
  rw [dS_c, X_c, one_c]
  cases n with
  | zero => rw [if_pos rfl, if_pos rfl, Nat.zero_add, nc_one, CR.one_mul]
  | succ n => rw [if_neg (by omega), if_neg (by omega), Go.Fg.mul_zero]
theorem comp_pert (a : PS R) {b : PS R} (hb : b.c 0 = 0) (n : Nat) (hn : 1 ≤ n) (v : R) : Ag (n + 1) (comp a (b + mono n v)) (comp a b + mono n (a.c 1 * v)) := by
  have hb' : (b + mono n v).c 0 = 0 := by rw [add_c, hb, mono_c, if_neg (by omega), CR.zero_add]
  refine (compN_ag hb' (n + 1)).symm.trans (Ag.trans ?_ ((compN_ag hb (n + 1)).add Ag.rfl))
  have hs : compN a b 0 (n + 1) + mono n (a.c 1 * v) = Go.Fg.sm (n + 1) fun i => C (a.c (0 + i)) * Go.Fg.pw b i + (if i = 1 then mono n (a.c 1 * v) else 0) := by
    rw [sm_add, sm_one (f := fun i => if i = 1 then mono n (a.c 1 * v) else 0) 1 (by omega) (fun i _ h => if_neg h), if_pos rfl]; rfl
  rw [hs]
  refine Ag.sm (fun i hi => ?_)
  by_cases e : i = 1
  · rw [if_pos e, e, pw_one, pw_one, CR.mul_add, Nat.zero_add]
    refine Ag.rfl.add (Ag.of_eq ?_)
    ext j
    rw [C_mul, mono_c, mono_c]
    split
    · rfl
    · exact Go.Fg.mul_zero _
  · rw [if_neg e, Go.Fg.add_zero]
    exact Ag.rfl.mul (pw_pert hn hb v i e)
theorem revP_comp {u : R} {a : PS R} (h0 : a.c 0 = 0) (h : a.c 1 * u = 1) : ∀ n, Ag (n + 1) (comp a (revP u a n)) X
  | 0 => fun i hi => by rw [show i = 0 by omega, comp_0, h0]; rfl
  | n + 1 => by
    have c0 := revP_c0 u a n
    have ih := revP_comp h0 h n
    have e : revP u a (n + 1) = revP u a n + mono (n + 1) ((revP u a (n + 1)).c (n + 1)) := by
      ext i
      rw [add_c, mono_c]
      by_cases e : i = n + 1
      · rw [if_pos e, e, revP_high u a n (n + 1) (by omega), CR.zero_add]
      · rw [if_neg e, Go.Fg.add_zero]
        rcases Nat.lt_or_ge i (n + 1) with h1 | h1
        · rw [revP_c u a (n + 1) i (by omega), revP_c u a n i (by omega)]
        · rw [revP_high u a (n + 1) i (by omega), revP_high u a n i (by omega)]
    refine (Ag.of_eq (by rw [← e])).trans (((comp_pert a c0 (n + 1) (by omega) ((revP u a (n + 1)).c (n + 1)))).trans (fun i hi => ?_))
    rw [add_c, mono_c]
    by_cases e2 : i = n + 1
    · rw [if_pos e2, e2]
      cases n with
      | zero =>
        have r1 : (revP u a (0 + 1)).c (0 + 1) = u := by show ((0 : PS R).upd 1 u).c 1 = u; rw [upd_c, if_pos rfl]
        rw [r1, h]
        have r0 : (comp a (revP u a 0)).c (0 + 1) = 0 := by
          have : revP u a 0 = 0 := rfl
          rw [this, ← compN_ag (N := 2) (f := 0) rfl 1 (by omega)]
          unfold compN
          rw [sm_c]
          exact sm_zero (fun i _ => by
            cases i with
            | zero => rw [C_mul, pw_zero, one_c, if_neg (by omega), Go.Fg.mul_zero]
            | succ i => rw [zero_pw (by omega), Go.Fg.mul_zero]; rfl)
        rw [r0, CR.zero_add]; rfl
      | succ n =>
        have r1 : (revP u a (n + 1 + 1)).c (n + 1 + 1) = -((comp a (revP u a (n + 1))).c (n + 1 + 1) * u) := by
          rw [revP_two u a _ (by omega), upd_c, if_pos rfl]
        rw [r1, Go.Fg.mul_neg, CR.mul_comm _ u, ← CR.mul_assoc, h, CR.one_mul, Go.Fg.add_neg, X_c, if_neg (by omega)]
    · rw [if_neg e2, ih i (by omega), Go.Fg.add_zero]
theorem comp_rev {u : R} {a : PS R} (h0 : a.c 0 = 0) (h : a.c 1 * u = 1) : comp a (rev u a) = X := ag_all (fun N => (comp_congr Ag.rfl ((revP_ag u a N).symm.le (by omega))).trans ((revP_comp h0 h N).le (by omega)))
theorem comp_Xr (a : PS R) : comp a X = a := PS.ext (fun i => by
  show (compN a X 0 (i + 1)).c i = _
  unfold compN
  have e : ∀ k, (C (a.c (0 + k)) * Go.Fg.pw (X : PS R) k).c i = if i = k then a.c k else 0 := fun k => by
    have : (X : PS R) = mono 1 1 := rfl
    rw [C_mul, this, pw_mono, one_pw, mono_c, Nat.mul_one, Nat.zero_add]
    split
    · exact Go.Fg.mul_one _
    · exact Go.Fg.mul_zero _
  rw [sm_c, sm_congr (fun k _ => e k), sm_one i (by omega) (fun k _ h => if_neg (Ne.symm h)), if_pos rfl])
theorem rev_comp {u : R} {a : PS R} (h0 : a.c 0 = 0) (h : a.c 1 * u = 1) : comp (rev u a) a = X := by
  have h1 := comp_rev h0 h
  have h2 : comp (rev u a) (rev (a.c 1) (rev u a)) = X := comp_rev (rev_c0 u a) (by rw [rev_c1, CR.mul_comm, h])
  have c0 := rev_c0 (a.c 1) (rev u a)
  have e : a = rev (a.c 1) (rev u a) := by
    have := comp_comp a (rev_c0 u a) c0
    rw [h1, h2, X_compX c0] at this
    rw [this, comp_Xr]
  rw [← e] at h2
  exact h2
section
variable {m : Int}
def lfz (a : PS (Zm m)) : PS (Zm 0) := ⟨fun i => Zm.mk 0 (a.c i).val⟩
def red (m : Int) (z : Zm 0) : Zm m := Zm.mk m z.val
def Mp (m : Int) (a : PS (Zm 0)) : PS (Zm m) := ⟨fun i => red m (a.c i)⟩
theorem red_add (a b : Zm 0) : red m (a + b) = red m a + red m b := by
  unfold red; rw [Zm.val_add, Int.emod_zero, Zm.mk_add]
theorem red_mul (a b : Zm 0) : red m (a * b) = red m a * red m b := by
  unfold red; rw [Zm.val_mul, Int.emod_zero, Zm.mk_mul]
theorem red_sm (n : Nat) (f : Nat → Zm 0) : red m (Go.Fg.sm n f) = Go.Fg.sm n fun i => red m (f i) := by
  induction n with
  | zero => show red m (Zm.mk 0 0) = 0; unfold red; rw [Zm.val_mk, Int.emod_zero, Zm.mk_zero]
  | succ n ih => rw [sm_succ, sm_succ, red_add, ih]
theorem red_nc (k : Nat) : red m (nc (Zm 0) k) = nc (Zm m) k := by
  rw [nc_mk, nc_mk]; unfold red; rw [Zm.val_mk, Int.emod_zero]
theorem Mp_lfz (a : PS (Zm m)) : Mp m (lfz a) = a := PS.ext (fun i => by
  show Zm.mk m (Zm.mk 0 (a.c i).val).val = _
  rw [Zm.val_mk, Int.emod_zero, Zm.mk_val])
theorem Mp_mul (a b : PS (Zm 0)) : Mp m (a * b) = Mp m a * Mp m b := PS.ext (fun n => by
  show red m ((a * b).c n) = _
  rw [mul_c, mul_c, red_sm]
  exact sm_congr (fun i _ => red_mul _ _))
theorem Mp_one : Mp m (1 : PS (Zm 0)) = 1 := PS.ext (fun n => by
  show red m ((1 : PS (Zm 0)).c n) = _
  rw [one_c, one_c]
  split
  · have := red_nc (m := m) 1; rwa [nc_one, nc_one] at this
  · have := red_nc (m := m) 0; exact this)
theorem Mp_pw (a : PS (Zm 0)) : ∀ k, Mp m (Go.Fg.pw a k) = Go.Fg.pw (Mp m a) k
  | 0 => Mp_one
  | k + 1 => by rw [pw_succ, pw_succ, Mp_mul, Mp_pw a k]
theorem Mp_dS (a : PS (Zm 0)) : Mp m (dS a) = dS (Mp m a) := PS.ext (fun n => by
  show red m ((dS a).c n) = _
  rw [dS_c, dS_c, red_mul, red_nc]; rfl)
theorem cancelZ {k : Nat} (hk : 1 ≤ k) {x y : Zm 0} (h : nc (Zm 0) k * x = nc (Zm 0) k * y) : x = y := by
  apply Zm.val_inj
  have := congrArg Zm.val h
  rw [Zm.val_mul, Zm.val_mul, nc_mk, Zm.val_mk] at this
  simp only [Int.emod_zero] at this
  exact Int.eq_of_mul_eq_mul_left (by omega) this
theorem resid (Q : PS (Zm m)) (t : Nat) : (Go.Fg.pw Q t * dS Q).c t = (Go.Fg.pw Q (t + 1)).c (t + 1) := by
  have h : (Go.Fg.pw (lfz Q) t * dS (lfz Q)).c t = (Go.Fg.pw (lfz Q) (t + 1)).c (t + 1) := by
    apply cancelZ (k := t + 1) (by omega)
    have : (dS (Go.Fg.pw (lfz Q) (t + 1))).c t = nc (Zm 0) (t + 1) * (Go.Fg.pw (lfz Q) t * dS (lfz Q)).c t := by rw [dS_pw, nc_C, C_mul]
    rw [← this, dS_c]
  have := congrArg (red m) h
  have e1 : red m ((Go.Fg.pw (lfz Q) t * dS (lfz Q)).c t) = (Mp m (Go.Fg.pw (lfz Q) t * dS (lfz Q))).c t := rfl
  have e2 : red m ((Go.Fg.pw (lfz Q) (t + 1)).c (t + 1)) = (Mp m (Go.Fg.pw (lfz Q) (t + 1))).c (t + 1) := rfl
  rwa [e1, e2, Mp_mul, Mp_pw, Mp_dS, Mp_pw, Mp_lfz] at this
theorem resid_e {Q U : PS (Zm m)} (h : Q * U = 1) (s : Nat) : (Go.Fg.pw Q (s + 1) * dS (X * U)).c s = if s = 0 then 1 else 0 := by
  have hd : Q * dS U = -(dS Q * U) := by
    have := dS_mul Q U
    rw [h, dS_one] at this
    exact neg_unique (by rw [← this])
  have e1 : dS (X * U) = U + X * dS U := by rw [dS_mul, dS_X, CR.one_mul]
  have e2 : Go.Fg.pw Q (s + 1) * dS (X * U) = Go.Fg.pw Q s + X * (Go.Fg.pw Q s * (Q * dS U)) := by
    rw [e1, CR.mul_add, pw_succ, CR.mul_assoc (Go.Fg.pw Q s) Q U, h, Go.Fg.mul_one]
    congr 1; ac_rfl
  rw [e2, hd, add_c]
  cases s with
  | zero => rw [X_mul_zero, Go.Fg.add_zero, pw_zero, one_c]
  | succ t =>
    have e3 : Go.Fg.pw Q (t + 1) * -(dS Q * U) = -(Go.Fg.pw Q t * dS Q) := by
      rw [Go.Fg.mul_neg, pw_succ]
      congr 1
      have : Go.Fg.pw Q t * Q * (dS Q * U) = Go.Fg.pw Q t * dS Q * (Q * U) := by ac_rfl
      rw [this, h, Go.Fg.mul_one]
    rw [X_mul_succ, e3, neg_c, resid, Go.Fg.add_neg, if_neg (by omega)]
theorem lagrange {Q U l : PS (Zm m)} (h : Q * U = 1) (hl0 : l.c 0 = 0) (hl : comp l (X * U) = X) (H : PS (Zm m)) (i : Nat) : (Go.Fg.pw Q (i + 1) * comp H (X * U)).c i = (H * dS l).c i := by
  have e0 : (X * U : PS (Zm m)).c 0 = 0 := X_mul_zero U
  have h1 : comp (dS l) (X * U) * dS (X * U) = 1 := by rw [← dS_comp l e0, hl, dS_X]
  have h2 : comp H (X * U) = comp (H * dS l) (X * U) * dS (X * U) := by rw [comp_mulX _ _ e0, CR.mul_assoc, h1, Go.Fg.mul_one]
  generalize H * dS l = G at h2 ⊢
  rw [h2]
  have h3 : Ag (i + 1) (Go.Fg.pw Q (i + 1) * (comp G (X * U) * dS (X * U))) (Go.Fg.sm (i + 1) fun k => C (G.c k) * (mono k 1 * (Go.Fg.pw Q (i - k + 1) * dS (X * U)))) := by
    refine (Ag.rfl.mul ((compN_ag e0 (i + 1)).symm.mul Ag.rfl)).trans (Ag.of_eq ?_)
    unfold compN
    rw [sm_mul_right, sm_mul]
    refine sm_congr (fun k hk => ?_)
    have e : Go.Fg.pw Q (i + 1) = Go.Fg.pw Q k * Go.Fg.pw Q (i - k + 1) := by rw [← pw_add, show k + (i - k + 1) = i + 1 by omega]
    have e4 : Go.Fg.pw Q k * Go.Fg.pw U k = 1 := by rw [← pw_mul_base, h, one_pw]
    rw [e, pw_mul_base, pw_X, Nat.zero_add]
    have : Go.Fg.pw Q k * Go.Fg.pw Q (i - k + 1) * (C (G.c k) * (mono k 1 * Go.Fg.pw U k) * dS (X * U)) = (Go.Fg.pw Q k * Go.Fg.pw U k) * (C (G.c k) * (mono k 1 * (Go.Fg.pw Q (i - k + 1) * dS (X * U)))) := by ac_rfl
    rw [this, e4, CR.one_mul]
  rw [h3 i (by omega), sm_c, sm_one i (by omega) (fun k hk hne => by
    rw [C_mul, mono_mul_c, if_neg (by omega), CR.one_mul, resid_e h, if_neg (by omega), Go.Fg.mul_zero]), C_mul, mono_mul_c, if_neg (by omega), CR.one_mul, resid_e h, if_pos (by omega), Go.Fg.mul_one]
end
end PS
end Go.Fg

/- The law of a logarithm; the binomial theorem. -/
namespace Go.Fg
set_option linter.unusedVariables false
set_option linter.unusedSectionVars false
section
variable {R : Type} [CR R]
end
namespace PS
variable {R : Type} [CR R]
section
variable {m : Int}
end
end PS
end Go.Fg

/- Values on Milnor's hypersurfaces by the law of the genus; the series of Hirzebruch. -/
namespace Go.Fg
set_option linter.unusedVariables false
set_option linter.unusedSectionVars false
namespace PS
variable {m : Int}
theorem genera_log {Q U l : PS (Zm m)} (h : Q * U = 1) (hl0 : l.c 0 = 0) (hl : comp l (X * U) = X) (n : Nat) : (Go.Fg.pw Q (n + 1)).c n = (dS l).c n := by
  have e0 : (X * U : PS (Zm m)).c 0 = 0 := X_mul_zero U
  have := lagrange h hl0 hl 1 n
  rwa [comp_oneX e0, Go.Fg.mul_one, CR.one_mul] at this
end PS
end Go.Fg

/- Genera: characteristic series come back from their values; the values of Hirzebruch's series. -/
namespace Go.Fg
set_option linter.unusedVariables false
set_option linter.unusedSimpArgs false
set_option linter.unusedSectionVars false
namespace PS
section
variable {R : Type} [CR R]
theorem C0X (U : PS R) : (C 0 + X * U : PS R) = X * U := by rw [C_zero, CR.zero_add]
theorem X_shl {e : PS R} (h : e.c 0 = 0) : X * e.shl = e := PS.ext (fun n => by
  cases n with
  | zero => rw [X_mul_zero, h]
  | succ n => rw [X_mul_succ, shl_c])
theorem rev_rev {u v : R} {e : PS R} (h0 : e.c 0 = 0) (h : e.c 1 * u = 1) (h2 : u * v = 1) : rev v (rev u e) = e := by
  have l0 : (rev u e).c 0 = 0 := rev_c0 u e
  have l1 : (rev u e).c 1 * v = 1 := by rw [rev_c1, h2]
  have a1 := rev_comp l0 l1
  have a2 := rev_comp h0 h
  have r0 : (rev v (rev u e)).c 0 = 0 := rev_c0 v _
  calc rev v (rev u e) = comp (rev v (rev u e)) X := (comp_Xr _).symm
    _ = comp (rev v (rev u e)) (comp (rev u e) e) := by rw [a2]
    _ = comp (comp (rev v (rev u e)) (rev u e)) e := (comp_comp _ l0 h0).symm
    _ = comp X e := by rw [a1]
    _ = e := X_compX h0
end
section
variable {m : Int}
theorem nc_invN (hm : 2 ≤ m) {k i : Nat} (h : unitsB m k = true) (hi : 1 ≤ i ∧ i ≤ k) : nc (Zm m) i * invN m (i : Int) = 1 := by
  rw [nc_mk]; exact units_inv hm h hi
theorem invN_1 (hm : 2 ≤ m) : invN m 1 = 1 := invN_eq hm (show Zm.mk m 1 * 1 = 1 from Go.Fg.mul_one _)
theorem invN_v1 (hm : 2 ≤ m) : invN m (1 : Zm m).val = 1 := by rw [Zm.val_one (by omega)]; exact invN_1 hm
theorem proj_dS (hm : 2 ≤ m) {a : PS (Zm m)} (h0 : a.c 0 = 1) (n : Nat) :
    (Go.Fg.pw a (n + 1)).c n = (dS (rev 1 (X * inv 1 a))).c n := by
  have hU : a * inv 1 a = 1 := mul_inv (by rw [h0, CR.one_mul])
  have e0 : (X * inv 1 a : PS (Zm m)).c 0 = 0 := X_mul_zero _
  have e1 : (X * inv 1 a : PS (Zm m)).c 1 * 1 = 1 := by rw [X_mul_succ, inv_c0, CR.one_mul]
  exact genera_log hU (rev_c0 1 _) (rev_comp e0 e1) n
theorem int_dS (hm : 2 ≤ m) {l : PS (Zm m)} (h0 : l.c 0 = 0) {k : Nat} (h : unitsB m k = true) : Ag (k + 1) (intS (dS l)) l := fun i hi => by
  cases i with
  | zero => rw [intS_zero, h0]
  | succ i =>
    have := nc_invN hm h (i := i + 1) (by omega)
    rw [intS_succ, dS_c, CR.mul_comm (nc (Zm m) (i + 1)) (l.c (i + 1)), CR.mul_assoc, show ((i : Int) + 1) = ((i + 1 : Nat) : Int) by omega, this, Go.Fg.mul_one]
theorem dS_int (hm : 2 ≤ m) (b : PS (Zm m)) {k : Nat} (h : unitsB m k = true) : Ag k (dS (intS b)) b := fun i hi => by
  have := nc_invN hm h (i := i + 1) (by omega)
  rw [dS_c, intS_succ, show ((i : Int) + 1) = ((i + 1 : Nat) : Int) by omega, CR.mul_comm (b.c i), ← CR.mul_assoc, this, CR.one_mul]
theorem intS_ag {N : Nat} {a b : PS (Zm m)} (h : Ag N a b) : Ag (N + 1) (intS a) (intS b) := fun i hi => by
  cases i with
  | zero => rw [intS_zero, intS_zero]
  | succ i => rw [intS_succ, intS_succ, h i (by omega)]
theorem intS_1 (hm : 2 ≤ m) {b : PS (Zm m)} (h : b.c 0 = 1) : (intS b).c 1 = 1 := by
  rw [show (intS b).c 1 = b.c 0 * invN m ((0 : Nat) + 1 : Int) from rfl, h, CR.one_mul]; exact invN_1 hm
theorem char_back (hm : 2 ≤ m) {a b : PS (Zm m)} (h0 : a.c 0 = 1) {N : Nat} (hN : 1 ≤ N) (hu : unitsB m N = true) (hb : Ag N b ⟨fun n => (Go.Fg.pw a (n + 1)).c n⟩) :
    Ag N (inv 1 (rev 1 (intS b)).shl) a ∧ ((rev 1 (intS b)).shl).c 0 = 1 ∧ (intS b).c 1 = 1 := by
  have e0 : (X * inv 1 a : PS (Zm m)).c 0 = 0 := X_mul_zero _
  have e1 : (X * inv 1 a : PS (Zm m)).c 1 * 1 = 1 := by rw [X_mul_succ, inv_c0, CR.one_mul]
  have hd : (⟨fun n => (Go.Fg.pw a (n + 1)).c n⟩ : PS (Zm m)) = dS (rev 1 (X * inv 1 a)) := PS.ext (fun n => proj_dS hm h0 n)
  rw [hd] at hb
  have h1 : Ag (N + 1) (intS b) (rev 1 (X * inv 1 a)) := (intS_ag hb).trans (int_dS hm (rev_c0 1 _) hu)
  have h2 : Ag (N + 1) (rev 1 (intS b)) (X * inv 1 a) := (rev_congr h1).trans (Ag.of_eq (rev_rev e0 e1 (CR.one_mul 1)))
  have h3 : Ag N (rev 1 (intS b)).shl (inv 1 a) := fun i hi => by rw [shl_c, h2 (i + 1) (by omega), X_mul_succ]
  have hU : a * inv 1 a = 1 := mul_inv (by rw [h0, CR.one_mul])
  have h4 : inv 1 (inv 1 a) = a := (inv_unique (by rw [inv_c0, CR.one_mul]) (by rw [CR.mul_comm]; exact hU)).symm
  refine ⟨(inv_congr h3).trans (Ag.of_eq h4), ?_, ?_⟩
  · rw [shl_c, rev_c1]
  · rw [h1 1 (by omega), rev_c1]
theorem genera_back (hm : 2 ≤ m) {b : PS (Zm m)} (h0 : b.c 0 = 1) {N : Nat} (hN : 1 ≤ N) (hu : unitsB m N = true) :
    Ag N ⟨fun n => (Go.Fg.pw (inv 1 (rev 1 (intS b)).shl) (n + 1)).c n⟩ b := by
  have i1 : (intS b).c 1 * 1 = 1 := by rw [intS_1 hm h0, CR.one_mul]
  have i0 : (intS b).c 0 = 0 := intS_zero b
  have v0 : ((rev 1 (intS b)).shl).c 0 * 1 = 1 := by rw [shl_c, rev_c1, CR.one_mul]
  have hr : inv 1 (rev 1 (intS b)).shl * (rev 1 (intS b)).shl = 1 := by rw [CR.mul_comm]; exact mul_inv v0
  have hX : X * (rev 1 (intS b)).shl = rev 1 (intS b) := X_shl (rev_c0 1 _)
  have hl : comp (intS b) (X * (rev 1 (intS b)).shl) = X := by rw [hX]; exact comp_rev i0 i1
  intro n hn
  show (Go.Fg.pw (inv 1 (rev 1 (intS b)).shl) (n + 1)).c n = b.c n
  rw [genera_log hr i0 hl n]
  exact dS_int hm b hu n hn
theorem hyper_1 {a U : PS (Zm m)} (hU : a * U = 1) (n : Nat) : Go.Fg.pw a (n + 2) * U = Go.Fg.pw a (n + 1) := by
  rw [pw_succ, CR.mul_assoc, hU, Go.Fg.mul_one]
theorem strS_1 (a : PS (Zm m)) : strS a 1 = a := PS.ext (fun n => by
  show a.c n * Go.Fg.pw (1 : Zm m) n = a.c n
  rw [one_pw, Go.Fg.mul_one])

end
end PS
end Go.Fg

/- Curves put for both variables of a plane. -/
namespace Go.Fg
set_option linter.unusedVariables false
set_option linter.unusedSimpArgs false
set_option linter.unusedSectionVars false
namespace PS
section
variable {R : Type} [CR R]
variable {a b : PS R}
end
section
variable {m : Int} {a b : PS (Zm m)}
end
end PS
end Go.Fg
