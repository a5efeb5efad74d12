import Derived.Test.YtghcpginhamelaaGreatAlg23
namespace Go.Fg
set_option linter.unusedVariables false
set_option linter.unusedSectionVars false
namespace PS
variable {R : Type} [CR R]
theorem qD {a b : PS R} (h : ∀ N, Ag N a b) : a = b := PS.ext (fun n => h (n + 1) n (by omega))
theorem As8 (a b : PS R) {c : PS R} (hc : c.c 0 = 0) : comp (a * b) c = comp a c * comp b c := qD (fun N => xO N a b hc)
theorem Aln (r : R) {c : PS R} (hc : c.c 0 = 0) : comp (C r) c = C r := qD (fun N => (Abs (N := N + 1) (by omega) r hc).le (by omega))
theorem Al0 (a : PS R) {c : PS R} (hc : c.c 0 = 0) (k : Nat) : comp (Go.Fg.pw a k) c = Go.Fg.pw (comp a c) k := qD (fun N => (xR (N := N + 1) (by omega) a hc k).le (by omega))
theorem C9 {c : PS R} (hc : c.c 0 = 0) : comp X c = c := qD (fun N => Abp N hc)
theorem Asi {a : PS R} (N : Nat) {b c : PS R} (hc : c.c 0 = 0) : comp (compN a b 0 N) c = compN a (comp b c) 0 N := by
 unfold compN
 refine qD (fun K => (F1 K N _ hc).trans (Ag.of_eq (aR (fun i _ => ?_))))
 rw [As8 _ _ hc, Aln _ hc, Al0 _ hc]
theorem uF (a : PS R) {b c : PS R} (hb : b.c 0 = 0) (hc : c.c 0 = 0) : comp (comp a b) c = comp a (comp b c) := qD (fun N =>
 (iX (jT hb N).symm Ag.rfl).trans ((Ag.of_eq (Asi N hc)).trans (jT (by rw [zY, hb]) N)))
theorem Any (a : PS R) {b : PS R} (hb : b.c 0 = 0) (n : Nat) (hn : 1 ≤ n) (v : R) : Ag (n + 1) (comp a (b + mono n v)) (comp a b + mono n (a.c 1 * v)) := by
 have hb' : (b + mono n v).c 0 = 0 := by rw [add_c, hb, bO, if_neg (by omega), CR.zero_add]
 refine (jT hb' (n + 1)).symm.trans (Ag.trans ?_ ((jT hb (n + 1)).add Ag.rfl))
 have hs : compN a b 0 (n + 1) + mono n (a.c 1 * v) = Go.Fg.sm (n + 1) fun i => C (a.c (0 + i)) * Go.Fg.pw b i + (if i = 1 then mono n (a.c 1 * v) else 0) := by
   rw [eU, cE (f := fun i => if i = 1 then mono n (a.c 1 * v) else 0) 1 (by omega) (fun i _ h => if_neg h), if_pos rfl]; rfl
 rw [hs]
 refine Ag.sm (fun i hi => ?_)
 by_cases e : i = 1
 · rw [if_pos e, e, pw_one, pw_one, CR.mul_add, Nat.zero_add]
   refine Ag.rfl.add (Ag.of_eq ?_)
   ext j
   rw [C_mul, bO, bO]
   split
   · rfl
   · exact Go.Fg.mul_zero _
 · rw [if_neg e, Go.Fg.add_zero]
   exact Ag.rfl.mul (Aex hn hb v i e)
theorem Agm {u : R} {a : PS R} (h0 : a.c 0 = 0) (h : a.c 1 * u = 1) : ∀ n, Ag (n + 1) (comp a (eX u a n)) X
 | 0 => fun i hi => by rw [show i = 0 by omega, zY, h0]; rfl
 | n + 1 => by
   have c0 := Ahp u a n
   have ih := Agm h0 h n
   have e : eX u a (n + 1) = eX u a n + mono (n + 1) ((eX u a (n + 1)).c (n + 1)) := by
     ext i
     rw [add_c, bO]
     by_cases e : i = n + 1
     · rw [if_pos e, e, K9 u a n (n + 1) (by omega), CR.zero_add]
     · rw [if_neg e, Go.Fg.add_zero]
       rcases Nat.lt_or_ge i (n + 1) with h1 | h1
       · rw [yM u a (n + 1) i (by omega), yM u a n i (by omega)]
       · rw [K9 u a (n + 1) i (by omega), K9 u a n i (by omega)]
   refine (Ag.of_eq (by rw [← e])).trans (((Any a c0 (n + 1) (by omega) ((eX u a (n + 1)).c (n + 1)))).trans (fun i hi => ?_))
   rw [add_c, bO]
   by_cases e2 : i = n + 1
   · rw [if_pos e2, e2]
     cases n with
     | zero =>
       have r1 : (eX u a (0 + 1)).c (0 + 1) = u := by show ((0 : PS R).upd 1 u).c 1 = u; rw [bY, if_pos rfl]
       rw [r1, h]
       have r0 : (comp a (eX u a 0)).c (0 + 1) = 0 := by
         have : eX u a 0 = 0 := rfl
         rw [this, ← jT (N := 2) (f := 0) rfl 1 (by omega)]
         unfold compN
         rw [sm_c]
         exact cH (fun i _ => by
           cases i with
           | zero => rw [C_mul, pw_zero, one_c, if_neg (by omega), Go.Fg.mul_zero]
           | succ i => rw [wZ (by omega), Go.Fg.mul_zero]; rfl)
       rw [r0, CR.zero_add]; rfl
     | succ n =>
       have r1 : (eX u a (n + 1 + 1)).c (n + 1 + 1) = -((comp a (eX u a (n + 1))).c (n + 1 + 1) * u) := by
         rw [zL u a _ (by omega), bY, if_pos rfl]
       rw [r1, Go.Fg.mul_neg, CR.mul_comm _ u, ← CR.mul_assoc, h, CR.one_mul, Go.Fg.add_neg, jD, if_neg (by omega)]
   · rw [if_neg e2, ih i (by omega), Go.Fg.add_zero]
theorem S0 {u : R} {a : PS R} (h0 : a.c 0 = 0) (h : a.c 1 * u = 1) : comp a (rev u a) = X := qD (fun N => (iX Ag.rfl ((Age u a N).symm.le (by omega))).trans ((Agm h0 h N).le (by omega)))
theorem Aht (a : PS R) : comp a X = a := PS.ext (fun i => by
 show (compN a X 0 (i + 1)).c i = _
 unfold compN
 have e : ∀ k, (C (a.c (0 + k)) * Go.Fg.pw (X : PS R) k).c i = if i = k then a.c k else 0 := fun k => by
   have : (X : PS R) = mono 1 1 := rfl
   rw [C_mul, this, E0, vI, bO, Nat.mul_one, Nat.zero_add]
   split
   · exact Go.Fg.mul_one _
   · exact Go.Fg.mul_zero _
 rw [sm_c, aR (fun k _ => e k), cE i (by omega) (fun k _ h => if_neg (Ne.symm h)), if_pos rfl])
theorem Ahv {u : R} {a : PS R} (h0 : a.c 0 = 0) (h : a.c 1 * u = 1) : comp (rev u a) a = X := by
 have h1 := S0 h0 h
 have h2 : comp (rev u a) (rev (a.c 1) (rev u a)) = X := S0 (L5 u a) (by rw [Aw9, CR.mul_comm, h])
 have c0 := L5 (a.c 1) (rev u a)
 have e : a = rev (a.c 1) (rev u a) := by
   have := uF a (L5 u a) c0
   rw [h1, h2, C9 c0] at this
   rw [this, Aht]
 rw [← e] at h2
 exact h2
section
variable {m : Int}
end
end PS
end Go.Fg
namespace Go.Fg
set_option linter.unusedVariables false
set_option linter.unusedSectionVars false
section
variable {R : Type} [CR R]
theorem Aki (a b : Nat) (x : R) : nc R (a + b) * x = nc R a * x + nc R b * x := by rw [Aew, add_mul]
theorem zF (u v : R) : ∀ s, pw (u + v) s = sm (s + 1) fun a => nc R (aS s a) * (pw u a * pw v (s - a))
 | 0 => by
   rw [bF, fD, CR.zero_add, rC, wX]
   show (1 : R) = 1 * (1 * 1)
   rw [CR.one_mul, CR.one_mul]
 | s + 1 => by
   rw [bX, zF u v s, fS]
   have e : ∀ a, nc R (aS s a) * (pw u a * pw v (s - a)) * (u + v) = nc R (aS s a) * (pw u (a + 1) * pw v (s - a)) + nc R (aS s a) * (pw u a * (pw v (s - a) * v)) := fun a => by
     rw [CR.mul_add, bX u a]
     congr 1 <;> ac_rfl
   rw [aR (fun a _ => e a), eU]
   have e1 : sm (s + 1) (fun a => nc R (aS s a) * (pw u (a + 1) * pw v (s - a))) = sm (s + 1 + 1) (fun a => match a with | 0 => 0 | a + 1 => nc R (aS s a) * (pw u (a + 1) * pw v (s - a))) := by
     rw [lP (s + 1), CR.zero_add]
   have e2 : sm (s + 1) (fun a => nc R (aS s a) * (pw u a * (pw v (s - a) * v))) = sm (s + 1 + 1) (fun a => nc R (aS s a) * (pw u a * pw v (s + 1 - a))) := by
     rw [bF (s + 1), vU (by omega)]
     show _ = _ + (0 : R) * _
     rw [zero_mul, add_zero]
     exact aR (fun a ha => by rw [show s + 1 - a = s - a + 1 by omega, bX v])
   rw [e1, e2, ← eU]
   refine aR (fun a ha => ?_)
   cases a with
   | zero => rw [CR.zero_add, rC, rC]
   | succ a => rw [sJ, Aki, show s + 1 - (a + 1) = s - a by omega]
end
namespace PS
variable {R : Type} [CR R]
def jX (g : PS (PS R)) : PS (PS (PS R)) := ⟨fun i => axX (g.c i)⟩
theorem Aqq (g h : PS (PS R)) : jX (g + h) = jX g + jX h := PS.ext (fun i => T9 _ _)
theorem Alx (g h : PS (PS R)) : jX (g * h) = jX g * jX h := PS.ext (fun n => by
 show axX ((g * h).c n) = _
 rw [bS, bS, K6]
 exact aR (fun i _ => vD _ _))
theorem Ahq : axX (0 : PS R) = 0 := by
 have h := T9 (0 : PS R) 0
 rw [CR.zero_add] at h
 have : axX (0 : PS R) + 0 = axX (0 : PS R) + axX 0 := by rw [← h, Go.Fg.add_zero]
 exact (add_left_cancel this).symm
theorem Amn : jX (1 : PS (PS R)) = 1 := PS.ext (fun n => by
 show axX ((1 : PS (PS R)).c n) = _
 rw [one_c, one_c]
 split
 · exact vG
 · exact Ahq)
theorem W9 (g : PS (PS R)) : ∀ k, jX (Go.Fg.pw g k) = Go.Fg.pw (jX g) k
 | 0 => Amn
 | k + 1 => by rw [bX, bX, Alx, W9 g k]
theorem D5 (r : R) : ∀ k, Go.Fg.pw (C r) k = C (Go.Fg.pw r k)
 | 0 => I6.symm
 | k + 1 => by rw [bX, bX, D5 r k, iC]
theorem P4 (a : PS R) : ∀ k, Go.Fg.pw (axX a) k = axX (Go.Fg.pw a k)
 | 0 => vG.symm
 | k + 1 => by rw [bX, bX, P4 a k, vD]
theorem Ahe (a : PS R) (k : Nat) : Go.Fg.pw (axY a) k = axY (Go.Fg.pw a k) := D5 a k
theorem L6 (g : PS R) (r : R) (n : Nat) : (g * C r).c n = g.c n * r := by rw [CR.mul_comm, C_mul, CR.mul_comm]
theorem Afv (u v : PS R) (i j : Nat) : ((axX u * axY v).c i).c j = u.c i * v.c j := by
 show ((axX u * C v).c i).c j = _
 rw [L6]
 show (C (u.c i) * v).c j = _
 rw [C_mul]
theorem Apk (l : PS R) (s i j : Nat) : ((Go.Fg.pw (axX l + axY l) s).c i).c j = sm (s + 1) fun a => nc R (aS s a) * ((Go.Fg.pw l a).c i * (Go.Fg.pw l (s - a)).c j) := by
 rw [zF, sm_c, sm_c]
 refine aR (fun a _ => ?_)
 rw [iY, iY, C_mul, C_mul, P4, Ahe, Afv]
theorem Ajd (l : PS R) (s p q k : Nat) :
   sm (s + 1) (fun a => nc R (aS s a) * (((Go.Fg.pw (axX l + axY l) a).c p).c q * (Go.Fg.pw l (s - a)).c k)) =
   sm (s + 1) (fun a => nc R (aS s a) * ((Go.Fg.pw l a).c p * ((Go.Fg.pw (axX l + axY l) (s - a)).c q).c k)) := by
 have e1 : jX (axX l) = (⟨fun i => C (C (l.c i))⟩ : PS (PS (PS R))) := PS.ext (fun i => by
   show axX (C (l.c i)) = _
   refine PS.ext (fun j => ?_)
   show C ((C (l.c i)).c j) = _
   rw [cO, cO]
   split
   · rfl
   · exact C_zero)
 have e2 : jX (axY l) = C (axX l) := PS.ext (fun i => by
   show axX ((C l).c i) = _
   rw [cO, cO]
   split
   · rfl
   · exact Ahq)
 have e3 : Go.Fg.pw (jX (axX l + axY l) + C (axY l)) s = Go.Fg.pw (jX (axX l) + C (axX l + axY l)) s := by
   rw [Aqq, e2, CR.add_assoc, kL]
 have h : (((Go.Fg.pw (jX (axX l + axY l) + C (axY l)) s).c p).c q).c k = (((Go.Fg.pw (jX (axX l) + C (axX l + axY l)) s).c p).c q).c k := by rw [e3]
 rw [zF, zF, sm_c, sm_c, sm_c, sm_c, sm_c, sm_c] at h
 have l1 : ∀ a, (((nc (PS (PS (PS R))) (aS s a) * (Go.Fg.pw (jX (axX l + axY l)) a * Go.Fg.pw (C (axY l)) (s - a))).c p).c q).c k = nc R (aS s a) * (((Go.Fg.pw (axX l + axY l) a).c p).c q * (Go.Fg.pw l (s - a)).c k) := fun a => by
   rw [iY, iY, iY, C_mul, C_mul, C_mul, ← W9, D5, L6]
   show _ * ((axX ((Go.Fg.pw (axX l + axY l) a).c p) * Go.Fg.pw (axY l) (s - a)).c q).c k = _
   rw [Ahe, Afv]
 have l2 : ∀ a, (((nc (PS (PS (PS R))) (aS s a) * (Go.Fg.pw (jX (axX l)) a * Go.Fg.pw (C (axX l + axY l)) (s - a))).c p).c q).c k = nc R (aS s a) * ((Go.Fg.pw l a).c p * ((Go.Fg.pw (axX l + axY l) (s - a)).c q).c k) := fun a => by
   rw [iY, iY, iY, C_mul, C_mul, C_mul, D5, L6, ← W9, P4]
   show _ * ((axX (C ((Go.Fg.pw l a).c p)) * _).c q).c k = _
   have : axX (C ((Go.Fg.pw l a).c p)) = C (C ((Go.Fg.pw l a).c p)) := PS.ext (fun j => by
     show C ((C ((Go.Fg.pw l a).c p)).c j) = _
     rw [cO, cO]
     split
     · rfl
     · exact C_zero)
   rw [this, C_mul, C_mul]
 rw [aR (fun a _ => l1 a), aR (fun a _ => l2 a)] at h
 exact h
section
variable {m : Int}
theorem Arh {l : PS (Zm m)} (h0 : l.c 0 = 0) : ((axX l + axY l).c 0).c 0 = 0 := by
 rw [add_c, add_c, rX, Ada, if_pos rfl, h0, CR.zero_add]
def eD (e l : PS (Zm m)) (N : Nat) : PS (PS (Zm m)) := comp2N e (axX l + axY l) 0 N
theorem rH (e l : PS (Zm m)) (N i j : Nat) : ((eD e l N).c i).c j = sm N fun s => e.c s * sm (s + 1) fun a => nc (Zm m) (aS s a) * ((Go.Fg.pw l a).c i * (Go.Fg.pw l (s - a)).c j) := by
 unfold eD comp2N
 rw [sm_c, sm_c]
 exact aR (fun s _ => by rw [mD, Apk, Nat.zero_add])
theorem Akb {f : PS (PS (Zm m))} {N : Nat} (hN : 2 ≤ N) : comp2N X f 0 N = f := by
 unfold comp2N
 rw [cE 1 (by omega) (fun i _ h => by rw [Nat.zero_add, jD, if_neg h, C_zero, C_zero, Go.Fg.zero_mul]), pw_one, Nat.zero_add, jD, if_pos rfl]
 show (1 : PS (PS (Zm m))) * f = f
 rw [CR.one_mul]
theorem Aow {e l : PS (Zm m)} (e0 : e.c 0 = 0) (l0 : l.c 0 = 0) {N : Nat} (hN : 2 ≤ N) (h : Ag N (comp l e) X) : aW N (comp2N l (eD e l N) 0 N) (axX l + axY l) := by
 refine (Ajr (Arh l0) l e (by omega)).symm.trans ?_
 refine (L8 (b := X) (fun i _ hi => ((jT e0 N).trans h) i (by omega)) aW.rfl).trans (aW.of_eq (Akb hN))
theorem Ai5 {s i : Nat} {l : PS (Zm m)} (l0 : l.c 0 = 0) : (sm (s + 1) fun a => nc (Zm m) (aS s a) * ((Go.Fg.pw l a).c i * (Go.Fg.pw l (s - a)).c 0)) = (Go.Fg.pw l s).c i := by
 rw [cE s (by omega) (fun a ha hne => by rw [gC l0 (s - a) 0 (by omega), Go.Fg.mul_zero, Go.Fg.mul_zero]), yC, wX, CR.one_mul, Nat.sub_self, pw_zero, one_c, if_pos rfl, Go.Fg.mul_one]
theorem Awa (a b : PS (Zm m)) (N i : Nat) : (compN a b 0 N).c i = sm N fun s => a.c s * (Go.Fg.pw b s).c i := by
 unfold compN
 rw [sm_c]
 exact aR (fun s _ => by rw [C_mul, Nat.zero_add])
theorem L9 {e l : PS (Zm m)} (l0 : l.c 0 = 0) {N : Nat} (h : Ag N (comp e l) X) {i : Nat} (hi : i < N) : ((eD e l N).c i).c 0 = X.c i := by
 rw [rH, ← h i hi, ← jT l0 N i hi, Awa]
 exact aR (fun s _ => by rw [Ai5 l0])
theorem Aw0 (e l : PS (Zm m)) (N i j : Nat) : ((eD e l N).c i).c j = ((eD e l N).c j).c i := by
 rw [rH, rH]
 refine aR (fun s _ => ?_)
 congr 1
 rw [Ach]
 exact aR (fun a ha => by rw [yS s a (by omega), CR.mul_comm ((Go.Fg.pw l (s - a)).c i), show s - (s - a) = a by omega])
theorem Auh {e l : PS (Zm m)} (e0 : e.c 0 = 0) (l0 : l.c 0 = 0) {N : Nat} (hN : 2 ≤ N) (h : Ag N (comp l e) X) {p q k : Nat} (hs : p + q + k < N) :
   sm (N - k) (fun i => ((eD e l N).c i).c k * ((Go.Fg.pw (eD e l N) i).c p).c q) = sm (N - p) (fun j => ((eD e l N).c p).c j * ((Go.Fg.pw (eD e l N) j).c q).c k) := by
 have hlog := Aow e0 l0 hN h
 have h00 : ((eD e l N).c 0).c 0 = 0 := by
   rw [rH]
   refine cH (fun s _ => ?_)
   rw [Ai5 l0]
   cases s with
   | zero => rw [e0, Go.Fg.zero_mul]
   | succ s => rw [gC l0 (s + 1) 0 (by omega), Go.Fg.mul_zero]
 have cc : ∀ (w : PS (Zm m)) (M a b : Nat), ((comp2N w (eD e l N) 0 M).c a).c b = sm M fun i => w.c i * ((Go.Fg.pw (eD e l N) i).c a).c b := fun w M a b => by
   unfold comp2N; rw [sm_c, sm_c]; exact aR (fun i _ => by rw [mD, Nat.zero_add])
 have pwl : ∀ s M a b, M ≤ N → a + b < M → ((comp2N (Go.Fg.pw l s) (eD e l N) 0 M).c a).c b = ((Go.Fg.pw (axX l + axY l) s).c a).c b := fun s M a b hM hab => by
   rw [← Ajv h00 (Go.Fg.pw l s) hM a b hab, G3 h00 l (by omega) s a b (by omega), hlog.pw s a b (by omega)]
 have left : sm (N - k) (fun i => ((eD e l N).c i).c k * ((Go.Fg.pw (eD e l N) i).c p).c q) = sm N fun s => e.c s * sm (s + 1) fun a => nc (Zm m) (aS s a) * (((Go.Fg.pw (axX l + axY l) a).c p).c q * (Go.Fg.pw l (s - a)).c k) := by
   have e1 : (⟨fun i => ((eD e l N).c i).c k⟩ : PS (Zm m)) = sm N fun s => sm (s + 1) fun a => C (e.c s * nc (Zm m) (aS s a) * (Go.Fg.pw l (s - a)).c k) * Go.Fg.pw l a := PS.ext (fun i => by
     show ((eD e l N).c i).c k = _
     rw [rH, sm_c]
     refine aR (fun s _ => ?_)
     rw [sm_c, fI]
     refine aR (fun a _ => ?_)
     rw [C_mul]; ac_rfl)
   have := cc ⟨fun i => ((eD e l N).c i).c k⟩ (N - k) p q
   rw [← this, e1, uQ, sm_c, sm_c]
   refine aR (fun s _ => ?_)
   rw [uQ, sm_c, sm_c, fI]
   refine aR (fun a _ => ?_)
   rw [W4, mD, pwl a (N - k) p q (by omega) (by omega)]
   ac_rfl
 have right : sm (N - p) (fun j => ((eD e l N).c p).c j * ((Go.Fg.pw (eD e l N) j).c q).c k) = sm N fun s => e.c s * sm (s + 1) fun a => nc (Zm m) (aS s a) * ((Go.Fg.pw l a).c p * ((Go.Fg.pw (axX l + axY l) (s - a)).c q).c k) := by
   have e1 : (eD e l N).c p = sm N fun s => sm (s + 1) fun a => C (e.c s * nc (Zm m) (aS s a) * (Go.Fg.pw l a).c p) * Go.Fg.pw l (s - a) := PS.ext (fun i => by
     rw [rH, sm_c]
     refine aR (fun s _ => ?_)
     rw [sm_c, fI]
     refine aR (fun a _ => ?_)
     rw [C_mul]; ac_rfl)
   have := cc ((eD e l N).c p) (N - p) q k
   rw [← this, e1, uQ, sm_c, sm_c]
   refine aR (fun s _ => ?_)
   rw [uQ, sm_c, sm_c, fI]
   refine aR (fun a _ => ?_)
   rw [W4, mD, pwl (s - a) (N - p) q k (by omega) (by omega)]
   ac_rfl
 rw [left, right]
 exact aR (fun s _ => by rw [Ajd])
theorem As1 {e l : PS (Zm m)} (e0 : e.c 0 = 0) (l0 : l.c 0 = 0) {N : Nat} (hN : 2 ≤ N) (h1 : Ag N (comp e l) X) (h : Ag N (comp l e) X) : LwN (eD e l N) N where
 pos := hN
 z0 := by rw [L9 l0 h1 (by omega)]; rfl
 z1 := by rw [L9 l0 h1 (by omega)]; rfl
 zz i hi hne := by rw [L9 l0 h1 hi, jD, if_neg hne]
 sym i j _ := Aw0 e l N i j
 as p q k hs := Auh e0 l0 hN h hs
end
end PS
end Go.Fg
namespace Go.Fg
set_option linter.unusedVariables false
set_option linter.unusedSectionVars false
namespace PS
variable {m : Int}
end PS
end Go.Fg
namespace Go.Fg
set_option linter.unusedVariables false
set_option linter.unusedSimpArgs false
set_option linter.unusedSectionVars false
namespace PS
section
variable {R : Type} [CR R]
end
section
variable {m : Int}
end
end PS
end Go.Fg
namespace Go.Fg
set_option linter.unusedVariables false
set_option linter.unusedSimpArgs false
set_option linter.unusedSectionVars false
namespace PS
section
variable {R : Type} [CR R]
variable {a b : PS R}
end
section
variable {m : Int} {a b : PS (Zm m)}
end
end PS
end Go.Fg
