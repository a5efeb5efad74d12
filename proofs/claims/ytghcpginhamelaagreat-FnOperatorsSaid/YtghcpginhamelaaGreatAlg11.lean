import Derived.Test.YtghcpginhamelaaGreatAlg10
import Derived.Test.YtghcpginhamelaaGreatAlg8
set_option linter.unusedVariables false
set_option linter.unusedSimpArgs false
set_option linter.unusedSectionVars false
namespace Go.Fg
open CR
namespace PS
variable {R : Type} [CR R]
def E (N : Nat) (g : PS (PS R)) (x : PS R) : PS R := sm N fun i => g.c i * pw x i
theorem Ag.sm_drop {N n k : Nat} {f : Nat → PS R} (hk : n ≤ k) (h : ∀ i, n ≤ i → i < k → Ag N (f i) 0) : Ag N (Go.Fg.sm k f) (Go.Fg.sm n f) := fun i hi => by
 rw [sm_c, sm_c]
 exact mL hk (fun j h1 h2 => h j h1 h2 i hi)
theorem Ag.low_pw {N : Nat} {x : PS R} (hx : x.c 0 = 0) {k : Nat} (h : N ≤ k) (y : PS R) : Ag N (y * Go.Fg.pw x k) 0 := fun i hi => by
 rw [bS]
 exact cH (fun j hj => by rw [gC hx k (i - j) (by omega), Go.Fg.mul_zero])
theorem F7 {N : Nat} (g h : PS (PS R)) {x : PS R} (hx : x.c 0 = 0) : Ag N (E N (g * h) x) (E N g x * E N h x) := by
 cases N with
 | zero => exact fun i hi => absurd hi (by omega)
 | succ N =>
 have e1 : E (N + 1) (g * h) x = sm (N + 1) fun j => sm (N - j + 1) fun k => g.c j * h.c k * pw x (j + k) := by
   rw [← P2 N (fun j k => g.c j * h.c k * pw x (j + k))]
   refine aR (fun i hi => ?_)
   rw [bS, fS]
   exact aR (fun j hj => by rw [show j + (i - j) = i by omega])
 have e2 : E (N + 1) g x * E (N + 1) h x = sm (N + 1) fun j => sm (N + 1) fun k => g.c j * h.c k * pw x (j + k) := by
   unfold E
   rw [fS]
   refine aR (fun j hj => ?_)
   rw [fI]
   exact aR (fun k hk => by rw [rJ]; ac_rfl)
 rw [e1, e2]
 refine Ag.sm (fun j hj => Ag.symm ?_)
 exact Ag.sm_drop (by omega) (fun k h1 h2 => Ag.low_pw hx (by omega) _)
theorem Ani (N : Nat) (g h : PS (PS R)) (x : PS R) : E N (g + h) x = E N g x + E N h x := by
 unfold E
 rw [← eU]
 exact aR (fun i _ => by rw [add_c, Go.Fg.add_mul])
theorem Acw (N : Nat) (x : PS R) : E N 0 x = 0 := cH (fun i _ => by rw [fQ, Go.Fg.zero_mul])
theorem Ah6 (N k : Nat) (g : Nat → PS (PS R)) (x : PS R) : E N (sm k g) x = sm k fun i => E N (g i) x := by
 induction k with
 | zero => exact Acw N x
 | succ k ih => rw [bF, Ani, ih, bF]
theorem Ars {N : Nat} {g h : PS (PS R)} {x y : PS R} (h1 : ∀ i, i < N → Ag N (g.c i) (h.c i)) (h2 : Ag N x y) : Ag N (E N g x) (E N h y) :=
 Ag.sm (fun i hi => (h1 i hi).mul (h2.pw i))
theorem W8 {N : Nat} (hN : 1 ≤ N) (x : PS R) : E N 1 x = 1 := by
 unfold E
 rw [cE 0 (by omega) (fun i _ hne => by rw [one_c, if_neg hne, Go.Fg.zero_mul]), one_c, if_pos rfl, pw_zero, CR.one_mul]
theorem T9 (u v : PS R) : axX (u + v) = axX u + axX v := by
 refine PS.ext (fun i => ?_)
 show C (u.c i + v.c i) = C (u.c i) + C (v.c i)
 rw [kL]
theorem K6 (k : Nat) (u : Nat → PS R) : axX (sm k u) = sm k fun i => axX (u i) := by
 induction k with
 | zero => exact Agb
 | succ k ih => rw [bF, T9, ih, bF]
theorem lN (k : Nat) (u : Nat → R) : C (sm k u) = sm k fun i => C (u i) := by
 induction k with
 | zero => exact C_zero
 | succ k ih => rw [bF, ← kL, ih, bF]
theorem vD (u v : PS R) : axX (u * v) = axX u * axX v := by
 refine PS.ext (fun i => ?_)
 show C ((u * v).c i) = (axX u * axX v).c i
 rw [bS, bS, lN]
 exact aR (fun j _ => by show C (_ * _) = C _ * C _; rw [iC])
theorem vG : axX (1 : PS R) = 1 := by
 refine PS.ext (fun i => ?_)
 show C ((1 : PS R).c i) = (1 : PS (PS R)).c i
 rw [one_c, one_c]
 split
 · rfl
 · exact C_zero
def e2 (N : Nat) (b : PS R) (g : PS (PS R)) : PS (PS R) := ⟨fun i => E N (axX (g.c i)) b⟩
def ev (N : Nat) (a b : PS R) (g : PS (PS R)) : PS R := E N (e2 N b g) a
theorem Al2 {N : Nat} (g h : PS (PS R)) {a b : PS R} (ha : a.c 0 = 0) (hb : b.c 0 = 0) : Ag N (ev N a b (g * h)) (ev N a b g * ev N a b h) := by
 refine Ag.trans (Ars (fun i _ => ?_) Ag.rfl) (F7 (e2 N b g) (e2 N b h) ha)
 show Ag N (E N (axX ((g * h).c i)) b) ((e2 N b g * e2 N b h).c i)
 rw [bS, bS, K6, Ah6]
 refine Ag.sm (fun j hj => ?_)
 rw [vD]
 exact F7 _ _ hb
theorem Amv {N : Nat} (hN : 1 ≤ N) (a b : PS R) : ev N a b 1 = 1 := by
 unfold ev
 rw [show e2 N b (1 : PS (PS R)) = 1 from PS.ext (fun i => by
   show E N (axX ((1 : PS (PS R)).c i)) b = (1 : PS (PS R)).c i
   rw [one_c]
   split
   · rw [vG, W8 hN]
   · rw [Agb, Acw]), W8 hN]
theorem B7 {N : Nat} (hN : 1 ≤ N) (g : PS (PS R)) {a b : PS R} (ha : a.c 0 = 0) (hb : b.c 0 = 0) (k : Nat) : Ag N (ev N a b (pw g k)) (pw (ev N a b g) k) := by
 induction k with
 | zero => exact Ag.of_eq (Amv hN a b)
 | succ k ih => exact (Al2 _ _ ha hb).trans (ih.mul Ag.rfl)
theorem gV (N : Nat) (a b : PS R) (g : PS (PS R)) : ev N a b g = sm N fun i => sm N fun j => C ((g.c i).c j) * (pw a i * pw b j) := by
 refine aR (fun i _ => ?_)
 show E N (axX (g.c i)) b * pw a i = _
 unfold E
 rw [fS]
 refine aR (fun j _ => ?_)
 show C ((g.c i).c j) * pw b j * pw a i = _
 ac_rfl
theorem Ag.low2 {N i j : Nat} {a b : PS R} (ha : a.c 0 = 0) (hb : b.c 0 = 0) (h : N ≤ i + j) (y : PS R) : Ag N (y * (Go.Fg.pw a i * Go.Fg.pw b j)) 0 := by
 have h0 : Ag N (Go.Fg.pw a i * Go.Fg.pw b j) 0 := fun n hn => by
   rw [bS]
   refine cH (fun k hk => ?_)
   by_cases h1 : k < i
   · rw [gC ha i k h1, Go.Fg.zero_mul]
   · rw [gC hb j (n - k) (by omega), Go.Fg.mul_zero]
 exact (Ag.rfl.mul h0).trans (Ag.of_eq (Go.Fg.mul_zero y))
theorem nF {f : PS (PS R)} (h0 : (f.c 0).c 0 = 0) : ∀ (k i j : Nat), i + j < k → ((pw f k).c i).c j = 0 := by
 intro k
 induction k with
 | zero => intro i j h; omega
 | succ k ih =>
   intro i j h
   rw [bX, bS, sm_c]
   refine cH (fun p hp => ?_)
   rw [bS]
   refine cH (fun q hq => ?_)
   by_cases e : p + q < k
   · rw [ih p q e, Go.Fg.zero_mul]
   · rw [show i - p = 0 by omega, show j - q = 0 by omega, h0, Go.Fg.mul_zero]
def evT (N : Nat) (f : PS (PS R)) (a b : PS R) : PS R := sm N fun i => sm (N - i) fun j => C ((f.c i).c j) * (pw a i * pw b j)
theorem kC {N : Nat} (f : PS (PS R)) {a b : PS R} (ha : a.c 0 = 0) (hb : b.c 0 = 0) : Ag N (evT N f a b) (ev N a b f) := by
 rw [gV]
 exact Ag.sm (fun i hi => Ag.symm (Ag.sm_drop (by omega) (fun j h1 h2 => Ag.low2 ha hb (by omega) _)))
theorem fW {N : Nat} {f g : PS (PS R)} {a b a' b' : PS R} (hf : ∀ i j, i + j < N → (f.c i).c j = (g.c i).c j) (h : Ag N a a') (h2 : Ag N b b') : Ag N (evT N f a b) (evT N g a' b') :=
 Ag.sm (fun i hi => Ag.sm (fun j hj => by rw [hf i j (by omega)]; exact Ag.rfl.mul ((h.pw i).mul (h2.pw j))))
theorem eB {N : Nat} {f : PS (PS R)} {a b : PS R} (hf : (f.c 0).c 0 = 0) (ha : a.c 0 = 0) (hb : b.c 0 = 0) : (evT N f a b).c 0 = 0 := by
 unfold evT
 rw [sm_c]
 refine cH (fun i _ => ?_)
 rw [sm_c]
 refine cH (fun j _ => ?_)
 rw [C_mul, mul_c0]
 cases i with
 | succ i => rw [gC ha (i + 1) 0 (by omega), Go.Fg.zero_mul, Go.Fg.mul_zero]
 | zero => cases j with
   | succ j => rw [gC hb (j + 1) 0 (by omega), Go.Fg.mul_zero, Go.Fg.mul_zero]
   | zero => rw [hf, Go.Fg.zero_mul]
theorem X3 {N : Nat} (hN : 1 ≤ N) (f : PS (PS R)) {a b c : PS R} (hf : (f.c 0).c 0 = 0) (ha : a.c 0 = 0) (hb : b.c 0 = 0) (hc : c.c 0 = 0) :
   Ag N (evT N f (evT N f a b) c) (sm N fun p => sm N fun q => sm N fun k => C (sm N fun i => (f.c i).c k * ((pw f i).c p).c q) * (pw a p * (pw b q * pw c k))) := by
 refine (kC f (eB hf ha hb) hc).trans ?_
 rw [gV]
 have h1 : Ag N (sm N fun i => sm N fun k => C ((f.c i).c k) * (pw (evT N f a b) i * pw c k))
     (sm N fun i => sm N fun k => sm N fun p => sm N fun q => C ((f.c i).c k * ((pw f i).c p).c q) * (pw a p * (pw b q * pw c k))) := by
   refine Ag.sm (fun i hi => Ag.sm (fun k hk => ?_))
   refine Ag.trans (Ag.rfl.mul (((((kC f ha hb).pw i).trans (B7 hN f ha hb i).symm)).mul Ag.rfl)) (Ag.of_eq ?_)
   rw [gV, fS, fI]
   refine aR (fun p _ => ?_)
   rw [fS, fI]
   refine aR (fun q _ => ?_)
   rw [← iC]
   ac_rfl
 refine h1.trans (Ag.of_eq ?_)
 rw [aR (fun i _ => nT N N _), nT N N]
 refine aR (fun p _ => ?_)
 rw [aR (fun i _ => aR (fun k _ => rfl)), aR (fun i _ => nT N N _), nT N N]
 refine aR (fun q _ => ?_)
 rw [nT N N]
 refine aR (fun k _ => ?_)
 rw [lN, fS]
theorem Abt {N : Nat} (hN : 1 ≤ N) (f : PS (PS R)) {a b c : PS R} (hf : (f.c 0).c 0 = 0) (ha : a.c 0 = 0) (hb : b.c 0 = 0) (hc : c.c 0 = 0) :
   Ag N (evT N f a (evT N f b c)) (sm N fun p => sm N fun q => sm N fun k => C (sm N fun j => (f.c p).c j * ((pw f j).c q).c k) * (pw a p * (pw b q * pw c k))) := by
 refine (kC f ha (eB hf hb hc)).trans ?_
 rw [gV]
 refine Ag.sm (fun p hp => ?_)
 have h1 : Ag N (sm N fun j => C ((f.c p).c j) * (pw a p * pw (evT N f b c) j))
     (sm N fun j => sm N fun q => sm N fun k => C ((f.c p).c j * ((pw f j).c q).c k) * (pw a p * (pw b q * pw c k))) := by
   refine Ag.sm (fun j hj => ?_)
   refine Ag.trans (Ag.rfl.mul (Ag.rfl.mul ((((kC f hb hc).pw j).trans (B7 hN f hb hc j).symm)))) (Ag.of_eq ?_)
   rw [gV, fI, fI]
   refine aR (fun q _ => ?_)
   rw [fI, fI]
   refine aR (fun k _ => ?_)
   rw [← iC]
   ac_rfl
 refine h1.trans (Ag.of_eq ?_)
 rw [nT N N]
 refine aR (fun q _ => ?_)
 rw [nT N N]
 refine aR (fun k _ => ?_)
 rw [lN, fS]
theorem Ag.low3 {N p q k : Nat} {a b c : PS R} (ha : a.c 0 = 0) (hb : b.c 0 = 0) (hc : c.c 0 = 0) (h : N ≤ p + q + k) (y : PS R) : Ag N (y * (Go.Fg.pw a p * (Go.Fg.pw b q * Go.Fg.pw c k))) 0 := by
 have h0 : Ag N (Go.Fg.pw a p * (Go.Fg.pw b q * Go.Fg.pw c k)) 0 := fun n hn => by
   rw [bS]
   refine cH (fun i hi => ?_)
   by_cases h1 : i < p
   · rw [gC ha p i h1, Go.Fg.zero_mul]
   · have := Ag.low2 (N := n - i + 1) hb hc (i := q) (j := k) (by omega) (1 : PS R) (n - i) (by omega)
     rw [CR.one_mul] at this
     rw [this, fQ, Go.Fg.mul_zero]
 exact (Ag.rfl.mul h0).trans (Ag.of_eq (Go.Fg.mul_zero y))
theorem Arv {N : Nat} (hN : 1 ≤ N) (f : PS (PS R)) {a b c : PS R} (hf : (f.c 0).c 0 = 0) (ha : a.c 0 = 0) (hb : b.c 0 = 0) (hc : c.c 0 = 0)
   (h : ∀ p q k, p + q + k < N → sm (N - k) (fun i => (f.c i).c k * ((pw f i).c p).c q) = sm (N - p) (fun j => (f.c p).c j * ((pw f j).c q).c k)) :
   Ag N (evT N f (evT N f a b) c) (evT N f a (evT N f b c)) := by
 refine (X3 hN f hf ha hb hc).trans (Ag.trans ?_ (Abt hN f hf ha hb hc).symm)
 refine Ag.sm (fun p hp => Ag.sm (fun q hq => Ag.sm (fun k hk => ?_)))
 by_cases hs : p + q + k < N
 · refine Ag.of_eq (congrArg (fun z => C z * (pw a p * (pw b q * pw c k))) ?_)
   have x1 : sm N (fun i => (f.c i).c k * ((pw f i).c p).c q) = sm (N - k) (fun i => (f.c i).c k * ((pw f i).c p).c q) :=
     mL (by omega) (fun i h1 h2 => by rw [nF hf i p q (by omega), Go.Fg.mul_zero])
   have x2 : sm N (fun j => (f.c p).c j * ((pw f j).c q).c k) = sm (N - p) (fun j => (f.c p).c j * ((pw f j).c q).c k) :=
     mL (by omega) (fun j h1 h2 => by rw [nF hf j q k (by omega), Go.Fg.mul_zero])
   rw [x1, x2]
   exact h p q k hs
 · exact (Ag.low3 ha hb hc (by omega) _).trans (Ag.low3 ha hb hc (by omega) _).symm
theorem kI {N : Nat} (f : PS (PS R)) {a b : PS R} (ha : a.c 0 = 0) (hb : b.c 0 = 0) (h : ∀ i j, i + j < N → (f.c i).c j = (f.c j).c i) : Ag N (evT N f a b) (evT N f b a) := by
 refine (kC f ha hb).trans (Ag.trans ?_ (kC f hb ha).symm)
 rw [gV, gV, nT N N]
 refine Ag.sm (fun j hj => Ag.sm (fun i hi => ?_))
 by_cases hs : i + j < N
 · rw [h i j hs, CR.mul_comm (pw a i)]
   exact Ag.rfl
 · exact (Ag.low2 ha hb (by omega) _).trans (Ag.low2 hb ha (by omega) _).symm
end PS
end Go.Fg
namespace Go.Fg
open CR
namespace PS
variable {R : Type} [CR R]
theorem xX (n k : Nat) (f : Nat → R) : mono n (sm k f) = sm k fun i => mono n (f i) := by
 ext i
 rw [bO, sm_c]
 by_cases h : i = n
 · rw [if_pos h]; exact aR (fun j _ => by rw [bO, if_pos h])
 · rw [if_neg h]; exact (cH (fun j _ => by rw [bO, if_neg h])).symm
theorem Arg (n : Nat) (a b : R) : mono n (a + b) = mono n a + mono n b := by
 ext i
 rw [add_c, bO, bO, bO]
 split
 · rfl
 · exact (CR.zero_add _).symm
theorem yQ {a : PS R} (ha : a.c 0 = 0) : ∀ p : Nat, (Go.Fg.pw a p).c p = Go.Fg.pw (a.c 1) p
 | 0 => by rw [pw_zero, pw_zero]; rfl
 | p + 1 => by
   rw [bX, bS, bX, ← yQ ha p]
   rw [cE p (by omega) (fun i hi hne => ?_), show p + 1 - p = 1 by omega]
   by_cases h : i < p
   · rw [gC ha p i h, Go.Fg.zero_mul]
   · rw [show p + 1 - i = 0 by omega, ha, Go.Fg.mul_zero]
theorem Ac8 {u v : PS R} {p q : Nat} (hu : ∀ i, i < p → u.c i = 0) (hv : ∀ i, i < q → v.c i = 0) : (∀ i, i < p + q → (u * v).c i = 0) ∧ (u * v).c (p + q) = u.c p * v.c q := by
 constructor
 · intro i hi
   rw [bS]
   refine cH (fun j hj => ?_)
   by_cases h : j < p
   · rw [hu j h, Go.Fg.zero_mul]
   · rw [hv (i - j) (by omega), Go.Fg.mul_zero]
 · rw [bS, cE p (by omega) (fun j hj hne => ?_), show p + q - p = q by omega]
   by_cases h : j < p
   · rw [hu j h, Go.Fg.zero_mul]
   · rw [hv (p + q - j) (by omega), Go.Fg.mul_zero]
theorem Aal {a b c : PS R} (ha : a.c 0 = 0) (hb : b.c 0 = 0) (hc : c.c 0 = 0) {n p q k : Nat} (h : p + q + k = n) (g : R) :
   Ag (n + 1) (C g * (Go.Fg.pw a p * (Go.Fg.pw b q * Go.Fg.pw c k))) (mono n (g * (Go.Fg.pw (a.c 1) p * (Go.Fg.pw (b.c 1) q * Go.Fg.pw (c.c 1) k)))) := fun i hi => by
 have h1 := Ac8 (u := Go.Fg.pw b q) (v := Go.Fg.pw c k) (fun i hi => gC hb q i hi) (fun i hi => gC hc k i hi)
 have h2 := Ac8 (u := Go.Fg.pw a p) (v := Go.Fg.pw b q * Go.Fg.pw c k) (fun i hi => gC ha p i hi) h1.1
 rw [C_mul, bO]
 by_cases e : i = n
 · rw [if_pos e, e, show n = p + (q + k) by omega, h2.2, h1.2, yQ ha, yQ hb, yQ hc]
 · rw [if_neg e, h2.1 i (by omega), Go.Fg.mul_zero]
def gam (f : PS (PS R)) (N p q k : Nat) : R := sm N (fun i => (f.c i).c k * ((Go.Fg.pw f i).c p).c q) - sm N (fun j => (f.c p).c j * ((Go.Fg.pw f j).c q).c k)
def Gm (n : Nat) (G : Nat → Nat → Nat → R) (x y z : R) : R := sm (n + 1) fun p => sm (n + 1) fun q => sm (n + 1) fun k => if p + q + k = n then G p q k * (Go.Fg.pw x p * (Go.Fg.pw y q * Go.Fg.pw z k)) else 0
theorem Ary {n : Nat} (f : PS (PS R)) {a b c : PS R} (hf : (f.c 0).c 0 = 0) (ha : a.c 0 = 0) (hb : b.c 0 = 0) (hc : c.c 0 = 0) (hl : ∀ p q k, p + q + k < n → gam f (n + 1) p q k = 0) :
   Ag (n + 1) (evT (n + 1) f (evT (n + 1) f a b) c) (evT (n + 1) f a (evT (n + 1) f b c) + mono n (Gm n (gam f (n + 1)) (a.c 1) (b.c 1) (c.c 1))) := by
 refine (X3 (by omega) f hf ha hb hc).trans (Ag.trans ?_ (Ag.add (Abt (by omega) f hf ha hb hc).symm Ag.rfl))
 unfold Gm
 rw [xX, ← eU]
 refine Ag.sm (fun p hp => ?_)
 rw [xX, ← eU]
 refine Ag.sm (fun q hq => ?_)
 rw [xX, ← eU]
 refine Ag.sm (fun k hk => ?_)
 have e : sm (n + 1) (fun i => (f.c i).c k * ((Go.Fg.pw f i).c p).c q) = sm (n + 1) (fun j => (f.c p).c j * ((Go.Fg.pw f j).c q).c k) + gam f (n + 1) p q k := by
   unfold gam; rw [CR.add_comm, Go.Fg.sub_add_cancel]
 rw [e, ← kL, Go.Fg.add_mul]
 refine Ag.add Ag.rfl ?_
 by_cases h1 : p + q + k < n
 · rw [hl p q k h1, if_neg (by omega), C_zero, Go.Fg.zero_mul]
   exact fun i _ => by rw [bO]; split <;> rfl
 · by_cases h2 : p + q + k = n
   · rw [if_pos h2]; exact Aal ha hb hc h2 _
   · rw [if_neg h2]
     refine (Ag.low3 ha hb hc (by omega) _).trans (fun i _ => ?_)
     rw [bO]; split <;> rfl
theorem Aex {n : Nat} (hn : 1 ≤ n) {a : PS R} (ha : a.c 0 = 0) (e : R) : ∀ i : Nat, i ≠ 1 → Ag (n + 1) (Go.Fg.pw (a + mono n e) i) (Go.Fg.pw a i)
 | 0, _ => Ag.rfl
 | 1, h => absurd rfl h
 | i + 2, _ => by
   have key : ∀ (u : PS R), u.c 0 = 0 → Ag (n + 1) (u * mono n e) 0 := fun u hu j hj => by
     rw [bS]
     refine cH (fun k hk => ?_)
     by_cases h0 : k = 0
     · rw [h0, hu, Go.Fg.zero_mul]
     · rw [bO, if_neg (by omega), Go.Fg.mul_zero]
   have hs : ∀ i : Nat, ∃ d : R, Ag (n + 1) (Go.Fg.pw (a + mono n e) (i + 1)) (Go.Fg.pw a (i + 1) + mono n d) := by
     intro i
     induction i with
     | zero => exact ⟨e, by rw [pw_one, pw_one]; exact Ag.rfl⟩
     | succ i ih =>
       obtain ⟨d, hd⟩ := ih
       refine ⟨0, ?_⟩
       rw [bX (a + mono n e)]
       refine (hd.mul Ag.rfl).trans ?_
       rw [Go.Fg.add_mul, CR.mul_add, CR.mul_add]
       refine (Ag.add (Ag.add Ag.rfl (key _ (gC ha (i + 1) 0 (by omega)))) (Ag.add ?_ ?_)).trans (b := Go.Fg.pw a (i + 1) * a + 0 + (0 + 0)) ?_
       · rw [CR.mul_comm]
         intro j hj
         rw [bS]
         refine cH (fun k hk => ?_)
         by_cases h0 : k = 0
         · rw [h0, ha, Go.Fg.zero_mul]
         · rw [bO, if_neg (by omega), Go.Fg.mul_zero]
       · exact key _ (by rw [bO, if_neg (by omega)])
       · rw [Go.Fg.add_zero, Go.Fg.add_zero, Go.Fg.add_zero, ← bX]
         intro j hj
         rw [add_c, bO]
         split <;> exact (Go.Fg.add_zero _).symm
   obtain ⟨d, hd⟩ := hs i
   rw [bX (a + mono n e)]
   refine (hd.mul Ag.rfl).trans ?_
   rw [Go.Fg.add_mul, CR.mul_add, CR.mul_add]
   refine (Ag.add (Ag.add Ag.rfl (key _ (gC ha (i + 1) 0 (by omega)))) (Ag.add ?_ ?_)).trans (b := Go.Fg.pw a (i + 1) * a + 0 + (0 + 0)) ?_
   · rw [CR.mul_comm]
     intro j hj
     rw [bS]
     refine cH (fun k hk => ?_)
     by_cases h0 : k = 0
     · rw [h0, ha, Go.Fg.zero_mul]
     · rw [bO, if_neg (by omega), Go.Fg.mul_zero]
   · exact key _ (by rw [bO, if_neg (by omega)])
   · rw [Go.Fg.add_zero, Go.Fg.add_zero, Go.Fg.add_zero, ← bX]
     exact Ag.rfl
end PS
end Go.Fg
namespace Go.Fg
open CR
namespace PS
variable {R : Type} [CR R]
structure Lw (f : PS (PS R)) (n : Nat) : Prop where
 pos : 1 ≤ n
 z0 : (f.c 0).c 0 = 0
 z1 : (f.c 1).c 0 = 1
 zz : ∀ i, i < n + 1 → i ≠ 1 → (f.c i).c 0 = 0
 sym : ∀ i j, i + j < n + 1 → (f.c i).c j = (f.c j).c i
 as : ∀ p q k, p + q + k < n → gam f (n + 1) p q k = 0
theorem Asr {n : Nat} {u : PS R} (hu : u.c 0 = 0) (e : R) : Ag (n + 1) (mono n e * u) 0 := fun i hi => by
 rw [tT]
 split
 · rfl
 · rw [show i - n = 0 by omega, hu, Go.Fg.mul_zero]; rfl
theorem zM {n : Nat} (hn : 1 ≤ n) (f : PS (PS R)) (h1 : (f.c 1).c 0 = 1) {a b : PS R} (ha : a.c 0 = 0) (hb : b.c 0 = 0) (e : R) :
   Ag (n + 1) (evT (n + 1) f (a + mono n e) b) (evT (n + 1) f a b + mono n e) := by
 have hs : evT (n + 1) f a b + mono n e = Go.Fg.sm (n + 1) fun i => (Go.Fg.sm (n + 1 - i) fun j => C ((f.c i).c j) * (Go.Fg.pw a i * Go.Fg.pw b j)) + (if i = 1 then mono n e else 0) := by
   rw [eU, cE (f := fun i => if i = 1 then mono n e else 0) 1 (by omega) (fun i _ h => if_neg h), if_pos rfl]; rfl
 rw [hs]
 refine Ag.sm (fun i hi => ?_)
 by_cases h : i = 1
 · rw [if_pos h, h]
   have hs2 : (Go.Fg.sm (n + 1 - 1) fun j => C ((f.c 1).c j) * (Go.Fg.pw a 1 * Go.Fg.pw b j)) + mono n e = Go.Fg.sm (n + 1 - 1) fun j => C ((f.c 1).c j) * (Go.Fg.pw a 1 * Go.Fg.pw b j) + (if j = 0 then mono n e else 0) := by
     rw [eU, cE (f := fun j => if j = 0 then mono n e else 0) 0 (by omega) (fun i _ h => if_neg h), if_pos rfl]
   rw [hs2]
   refine Ag.sm (fun j hj => ?_)
   rw [Go.Fg.pw_one, Go.Fg.pw_one]
   by_cases h0 : j = 0
   · rw [if_pos h0, h0, h1, Go.Fg.pw_zero, Go.Fg.mul_one, Go.Fg.mul_one, show (C (1 : R) : PS R) = 1 from rfl, CR.one_mul, CR.one_mul]
     exact Ag.rfl
   · rw [if_neg h0, Go.Fg.add_zero, Go.Fg.add_mul, CR.mul_add]
     refine (Ag.add Ag.rfl (Ag.rfl.mul (Asr (gC hb j 0 (by omega)) e))).trans (Ag.of_eq ?_)
     rw [Go.Fg.mul_zero, Go.Fg.add_zero]
 · rw [if_neg h, Go.Fg.add_zero]
   exact Ag.sm (fun j hj => Ag.rfl.mul ((Aex hn ha e i h).mul Ag.rfl))
theorem Aun {n : Nat} (hn : 1 ≤ n) {a : PS R} (ha : a.c 0 = 0) (e : R) : (a + mono n e).c 0 = 0 := by
 rw [add_c, bO, if_neg (by omega), ha, Go.Fg.add_zero]
theorem Aeb {n : Nat} {f : PS (PS R)} (L : Lw f n) {a b : PS R} (ha : a.c 0 = 0) (hb : b.c 0 = 0) (e : R) :
   Ag (n + 1) (evT (n + 1) f a (b + mono n e)) (evT (n + 1) f a b + mono n e) :=
 (kI f ha (Aun L.pos hb e) L.sym).trans ((zM L.pos f L.z1 hb ha e).trans (Ag.add (kI f hb ha L.sym) Ag.rfl))
theorem tW {n : Nat} {f : PS (PS R)} (L : Lw f n) {a b : PS R} (ha : a.c 0 = 0) (hb : b.c 0 = 0) : (evT (n + 1) f a b).c 1 = a.c 1 + b.c 1 := by
 have hn := L.pos
 have h : Ag 2 (evT (n + 1) f a b) (b + a) := by
   have x1 : Ag 2 (Go.Fg.sm (n + 1) fun i => Go.Fg.sm (n + 1 - i) fun j => C ((f.c i).c j) * (Go.Fg.pw a i * Go.Fg.pw b j)) (Go.Fg.sm 2 fun i => Go.Fg.sm (n + 1 - i) fun j => C ((f.c i).c j) * (Go.Fg.pw a i * Go.Fg.pw b j)) :=
     Ag.sm_drop (by omega) (fun i h1 h2 => (Ag.sm (g := fun _ => 0) (fun j hj => Ag.low2 ha hb (by omega) _)).trans (Ag.of_eq (cH (fun _ _ => rfl))))
   refine x1.trans ?_
   rw [bF, bF, fD, CR.zero_add]
   refine Ag.add ?_ ?_
   · refine (Ag.sm_drop (n := 2) (by omega) (fun j h1 h2 => Ag.low2 ha hb (by omega) _)).trans (Ag.of_eq ?_)
     rw [bF, bF, fD, CR.zero_add, L.z0, C_zero, Go.Fg.zero_mul, CR.zero_add, L.sym 0 1 (by omega), L.z1, Go.Fg.pw_zero, Go.Fg.pw_one, CR.one_mul]
     exact CR.one_mul _
   · refine (Ag.sm_drop (n := 1) (by omega) (fun j h1 h2 => Ag.low2 ha hb (by omega) _)).trans (Ag.of_eq ?_)
     rw [bF, fD, CR.zero_add, L.z1, Go.Fg.pw_zero, Go.Fg.pw_one, Go.Fg.mul_one]
     exact CR.one_mul _
 have := h 1 (by omega)
 rw [this, add_c, CR.add_comm]
theorem gS {n : Nat} {u v : PS R} {e : R} (h : Ag (n + 1) u (v + mono n e)) : u.c n = v.c n + e := by
 rw [h n (by omega), add_c, bO, if_pos rfl]
section
variable {n : Nat} {f : PS (PS R)} (L : Lw f n)
include L
theorem jV {a b c : PS R} (ha : a.c 0 = 0) (hb : b.c 0 = 0) (hc : c.c 0 = 0) :
   Ag (n + 1) (evT (n + 1) f (evT (n + 1) f a b) c) (evT (n + 1) f a (evT (n + 1) f b c) + mono n (Gm n (gam f (n + 1)) (a.c 1) (b.c 1) (c.c 1))) := Ary f L.z0 ha hb hc L.as
theorem Amg {w x y z : PS R} (hw : w.c 0 = 0) (hx : x.c 0 = 0) (hy : y.c 0 = 0) (hz : z.c 0 = 0) :
   Gm n (gam f (n + 1)) (w.c 1 + x.c 1) (y.c 1) (z.c 1) + Gm n (gam f (n + 1)) (w.c 1) (x.c 1) (y.c 1 + z.c 1)
     = Gm n (gam f (n + 1)) (w.c 1) (x.c 1) (y.c 1) + Gm n (gam f (n + 1)) (w.c 1) (x.c 1 + y.c 1) (z.c 1) + Gm n (gam f (n + 1)) (x.c 1) (y.c 1) (z.c 1) := by
 have hwx := eB (N := n + 1) L.z0 hw hx
 have hxy := eB (N := n + 1) L.z0 hx hy
 have hyz := eB (N := n + 1) L.z0 hy hz
 have hxyz := eB (N := n + 1) L.z0 hx hyz
 have hwxy := eB (N := n + 1) L.z0 hw hxy
 have A := gS (jV L hwx hy hz)
 have B := gS (jV L hw hx hyz)
 have c1 := (fW (f := f) (fun i j _ => rfl) (jV L hw hx hy) (Ag.rfl (a := z))).trans (zM L.pos f L.z1 hwxy hz _)
 have Cc := gS c1
 have D := gS (jV L hw hxy hz)
 have e1 := (fW (f := f) (fun i j _ => rfl) (Ag.rfl (a := w)) (jV L hx hy hz)).trans (Aeb L hw hxyz _)
 have Ec := gS e1
 rw [tW L hw hx] at A
 rw [tW L hy hz] at B
 rw [tW L hx hy] at D
 rw [B] at A
 rw [D, Ec] at Cc
 have key := A.symm.trans Cc
 refine add_left_cancel (a := (evT (n + 1) f w (evT (n + 1) f x (evT (n + 1) f y z))).c n) ?_
 rw [CR.add_comm (Gm n (gam f (n + 1)) (w.c 1 + x.c 1) (y.c 1) (z.c 1)), ← CR.add_assoc, key]
 ac_rfl
theorem Au0 {x y z : PS R} (hx : x.c 0 = 0) (hy : y.c 0 = 0) (hz : z.c 0 = 0) : Gm n (gam f (n + 1)) (x.c 1) (y.c 1) (z.c 1) + Gm n (gam f (n + 1)) (z.c 1) (y.c 1) (x.c 1) = 0 := by
 have hxy := eB (N := n + 1) L.z0 hx hy
 have hyz := eB (N := n + 1) L.z0 hy hz
 have hyx := eB (N := n + 1) L.z0 hy hx
 have hzy := eB (N := n + 1) L.z0 hz hy
 have A := gS (jV L hx hy hz)
 have B := gS (jV L hz hy hx)
 have e1 : Ag (n + 1) (evT (n + 1) f (evT (n + 1) f z y) x) (evT (n + 1) f x (evT (n + 1) f y z)) := (kI f hzy hx L.sym).trans (fW (fun i j _ => rfl) Ag.rfl (kI f hz hy L.sym))
 have e2 : Ag (n + 1) (evT (n + 1) f z (evT (n + 1) f y x)) (evT (n + 1) f (evT (n + 1) f x y) z) := (kI f hz hyx L.sym).trans (fW (fun i j _ => rfl) (kI f hy hx L.sym) Ag.rfl)
 rw [e1 n (by omega), e2 n (by omega), A] at B
 refine add_left_cancel (a := (evT (n + 1) f x (evT (n + 1) f y z)).c n) ?_
 rw [← CR.add_assoc, ← B, Go.Fg.add_zero]
theorem Ajm {x y z : PS R} (hx : x.c 0 = 0) (hy : y.c 0 = 0) (hz : z.c 0 = 0) :
   Gm n (gam f (n + 1)) (x.c 1) (y.c 1) (z.c 1) + Gm n (gam f (n + 1)) (y.c 1) (z.c 1) (x.c 1) + Gm n (gam f (n + 1)) (z.c 1) (x.c 1) (y.c 1) = 0 := by
 have hxy := eB (N := n + 1) L.z0 hx hy
 have hyz := eB (N := n + 1) L.z0 hy hz
 have hzx := eB (N := n + 1) L.z0 hz hx
 have A := gS (jV L hx hy hz)
 have B := gS (jV L hy hz hx)
 have D := gS (jV L hz hx hy)
 rw [kI f hx hyz L.sym n (by omega), B, kI f hy hzx L.sym n (by omega), D, kI f hz hxy L.sym n (by omega)] at A
 refine add_left_cancel (a := (evT (n + 1) f (evT (n + 1) f x y) z).c n) ?_
 rw [Go.Fg.add_zero]
 refine Eq.trans ?_ A.symm
 ac_rfl
end
end PS
end Go.Fg
namespace Go.Fg
open CR
namespace PS
variable {R : Type} [CR R]
def up (f : PS (PS R)) : PS (PS (PS R)) := ⟨fun i => ⟨fun j => C ((f.c i).c j)⟩⟩
theorem oF (f : PS (PS R)) (i j : Nat) : ((up f).c i).c j = C ((f.c i).c j) := rfl
theorem up_mul (f g : PS (PS R)) : up (f * g) = up f * up g := by
 refine PS.ext (fun i => PS.ext (fun j => ?_))
 rw [oF, bS, bS, sm_c, sm_c, lN]
 refine aR (fun p _ => ?_)
 rw [bS, bS, lN]
 exact aR (fun q _ => by rw [← iC]; rfl)
theorem Anq : up (1 : PS (PS R)) = 1 := by
 refine PS.ext (fun i => PS.ext (fun j => ?_))
 rw [oF, one_c, one_c]
 by_cases h : i = 0
 · rw [if_pos h, if_pos h, one_c, one_c]
   by_cases h2 : j = 0
   · rw [if_pos h2, if_pos h2]; rfl
   · rw [if_neg h2, if_neg h2]; exact C_zero
 · rw [if_neg h, if_neg h]; exact C_zero
theorem Agp (f : PS (PS R)) (k : Nat) : Go.Fg.pw (up f) k = up (Go.Fg.pw f k) := by
 induction k with
 | zero => exact Anq.symm
 | succ k ih => rw [bX, bX, up_mul, ih]
theorem Alw (a : R) : C (-a) = -C a := by
 refine Go.Fg.neg_unique ?_
 rw [kL, Go.Fg.add_neg]; exact C_zero
theorem Aas (f : PS (PS R)) (N p q k : Nat) : gam (up f) N p q k = C (gam f N p q k) := by
 unfold gam
 rw [Go.Fg.sub_def, Go.Fg.sub_def, ← kL, Alw, lN, lN]
 refine congr (congrArg _ (aR (fun i _ => ?_))) (congrArg _ (aR (fun i _ => ?_)))
 · rw [Agp, ← iC]; rfl
 · rw [Agp, ← iC]; rfl
theorem Lw.up {f : PS (PS R)} {n : Nat} (L : Lw f n) : Lw (up f) n where
 pos := L.pos
 z0 := by rw [oF, L.z0, C_zero]
 z1 := by rw [oF, L.z1]; rfl
 zz := fun i h1 h2 => by rw [oF, L.zz i h1 h2, C_zero]
 sym := fun i j h => by rw [oF, oF, L.sym i j h]
 as := fun p q k h => by rw [Aas, L.as p q k h, C_zero]
theorem lR {n : Nat} (g : Nat → Nat → Nat → R) {X Y Z : PS R} {K p0 q0 k0 : Nat} {β : R} (h0 : p0 + q0 + k0 = n)
   (h : ∀ p q k, p + q + k = n → (Go.Fg.pw X p * (Go.Fg.pw Y q * Go.Fg.pw Z k)).c K = if p = p0 ∧ q = q0 ∧ k = k0 then β else 0) :
   (Gm n (fun p q k => C (g p q k)) X Y Z).c K = g p0 q0 k0 * β := by
 unfold Gm
 rw [sm_c, cE p0 (by omega) (fun p hp hne => ?_), sm_c, cE q0 (by omega) (fun q hq hne => ?_), sm_c, cE k0 (by omega) (fun k hk hne => ?_), if_pos h0, C_mul, h p0 q0 k0 h0, if_pos ⟨rfl, rfl, rfl⟩]
 · split
   · rename_i e; omega
   · rfl
 · rw [sm_c]; refine cH (fun k hk => ?_)
   split
   · rename_i e; rw [C_mul, h _ _ _ e, if_neg (by omega), Go.Fg.mul_zero]
   · rfl
 · rw [sm_c]; refine cH (fun q hq => ?_)
   rw [sm_c]; refine cH (fun k hk => ?_)
   split
   · rename_i e; rw [C_mul, h _ _ _ e, if_neg (by omega), Go.Fg.mul_zero]
   · rfl
theorem Ael {n : Nat} (g : Nat → Nat → Nat → R) {X Y Z : PS R} {K : Nat} (h : ∀ p q k, p + q + k = n → (Go.Fg.pw X p * (Go.Fg.pw Y q * Go.Fg.pw Z k)).c K = 0) :
   (Gm n (fun p q k => C (g p q k)) X Y Z).c K = 0 := by
 unfold Gm
 rw [sm_c]; refine cH (fun p hp => ?_)
 rw [sm_c]; refine cH (fun q hq => ?_)
 rw [sm_c]; refine cH (fun k hk => ?_)
 split
 · rename_i e; rw [C_mul, h _ _ _ e, Go.Fg.mul_zero]
 · rfl
end PS
variable {m : Int}
open PS
theorem uA (A B p : Nat) : Go.Fg.pw (mono A (1 : Zm m) + mono B 1) p = sm (p + 1) fun i => mono (A * i + B * (p - i)) (Zm.mk m (aS p i : Nat)) := by
 induction p with
 | zero =>
   rw [pw_zero, bF, fD, CR.zero_add]
   refine PS.ext (fun i => ?_)
   rw [one_c, bO, Nat.sub_self, Nat.mul_zero, Nat.mul_zero]
   rfl
 | succ p ih =>
   have e1 : ∀ i, i < p + 1 → mono (A * i + B * (p - i)) (Zm.mk m (aS p i : Nat)) * (mono A (1 : Zm m) + mono B 1) = mono (A * (i + 1) + B * (p - i)) (Zm.mk m (aS p i : Nat)) + mono (A * i + B * (p + 1 - i)) (Zm.mk m (aS p i : Nat)) := fun i hi => by
     rw [CR.mul_add, jH, jH, Go.Fg.mul_one, show p + 1 - i = (p - i) + 1 by omega, Nat.mul_add, Nat.mul_add, Nat.mul_one, Nat.mul_one, Nat.add_assoc (A * i) (B * (p - i)) B, Nat.add_right_comm]
   rw [bX, ih, fS, aR e1, eU]
   have e2 : sm (p + 1 + 1) (fun i => mono (A * i + B * (p + 1 - i)) (Zm.mk m (aS p i : Nat))) = sm (p + 1) fun i => mono (A * i + B * (p + 1 - i)) (Zm.mk m (aS p i : Nat)) := by
     rw [bF, vU (by omega), show Zm.mk m ((0 : Nat) : Int) = 0 from rfl, V8, Go.Fg.add_zero]
   rw [← e2, lP (p + 1) fun i => mono (A * i + B * (p + 1 - i)) (Zm.mk m (aS p i : Nat)), lP (p + 1) fun i => mono (A * i + B * (p + 1 - i)) (Zm.mk m (aS (p + 1) i : Nat)), rC, rC]
   rw [← CR.add_assoc, CR.add_comm (sm (p + 1) _), CR.add_assoc, ← eU]
   congr 1
   refine aR (fun i hi => ?_)
   rw [sJ, Int.natCast_add, Zm.mk_add, Arg, show p + 1 - (i + 1) = p - i by omega]
theorem gY (A p : Nat) : Go.Fg.pw (mono A (1 : Zm m)) p = mono (p * A) 1 := by rw [E0, vI]
theorem vR (A B p M K i0 : Nat) (P : Prop) [Decidable P] (h1 : P → A * i0 + B * (p - i0) + M = K ∧ i0 ≤ p) (h2 : ∀ i, i ≤ p → A * i + B * (p - i) + M = K → P ∧ i = i0) :
   ((sm (p + 1) fun i => mono (A * i + B * (p - i)) (Zm.mk m (aS p i : Nat))) * mono M 1).c K = if P then Zm.mk m (aS p i0 : Nat) else 0 := by
 rw [fS, sm_c]
 by_cases hP : P
 · rw [if_pos hP, cE i0 (by have := h1 hP; omega) (fun i hi hne => ?_), jH, bO, if_pos (h1 hP).1.symm, Go.Fg.mul_one]
   rw [jH, bO, if_neg (fun e => hne (h2 i (by omega) e.symm).2)]
 · rw [if_neg hP]
   exact cH (fun i hi => by rw [jH, bO, if_neg (fun e => hP (h2 i (by omega) e.symm).1)])
theorem uD {a b c d a' b' c' d' : Nat} (h1 : a ≤ 10) (h2 : b ≤ 10) (h3 : c ≤ 10) (k1 : a' ≤ 10) (k2 : b' ≤ 10) (k3 : c' ≤ 10) (e : a + 11 * b + 121 * c + 1331 * d = a' + 11 * b' + 121 * c' + 1331 * d') : a = a' ∧ b = b' ∧ c = c' ∧ d = d' := by
 have e1 : a = a' := by omega
 subst e1
 have e2 : b = b' := by omega
 subst e2
 have e3 : c = c' := by omega
 subst e3
 exact ⟨rfl, rfl, rfl, by omega⟩
section
variable {f : PS (PS (Zm m))} {n : Nat}
theorem xM (x y z : PS (Zm m)) : Gm n (gam (up f) (n + 1)) x y z = Gm n (fun p q k => C (gam f (n + 1) p q k)) x y z := by
 refine congrArg (fun g => Gm n g x y z) ?_
 funext p q k; exact Aas f (n + 1) p q k
theorem nO (a b c p q k : Nat) : Go.Fg.pw (mono a (1 : Zm m)) p * (Go.Fg.pw (mono b 1) q * Go.Fg.pw (mono c 1) k) = mono (a * p + b * q + c * k) 1 := by
 rw [gY, gY, gY, jH, jH, Go.Fg.mul_one, Go.Fg.mul_one, Nat.mul_comm p, Nat.mul_comm q, Nat.mul_comm k, Nat.add_assoc]
theorem jS (u : PS (Zm m)) : (mono 1 u).c 0 = 0 := rfl
theorem yN (u : PS (Zm m)) : (mono 1 u).c 1 = u := rfl
theorem Asc (L : Lw f n) (hn : n ≤ 10) {p q k : Nat} (h : p + q + k = n) : gam f (n + 1) p q k + gam f (n + 1) k q p = 0 := by
 have e := congrArg (fun s => s.c (p + 11 * q + 121 * k)) (Au0 L.up (jS (mono 1 1)) (jS (mono 11 1)) (jS (mono 121 1)))
 simp only [add_c, yN, xM] at e
 rw [lR (gam f (n + 1)) (β := 1) h (fun p' q' k' h' => ?_), lR (gam f (n + 1)) (β := 1) (p0 := k) (q0 := q) (k0 := p) (by omega) (fun p' q' k' h' => ?_), Go.Fg.mul_one, Go.Fg.mul_one] at e
 · exact e
 · rw [nO, bO]
   by_cases e : p' = k ∧ q' = q ∧ k' = p
   · rw [if_pos e, if_pos (by omega)]
   · rw [if_neg e, if_neg (by omega)]
 · rw [nO, bO]
   by_cases e : p' = p ∧ q' = q ∧ k' = k
   · rw [if_pos e, if_pos (by omega)]
   · rw [if_neg e, if_neg (by omega)]
theorem Aw6 (L : Lw f n) (hn : n ≤ 10) {p q k : Nat} (h : p + q + k = n) : gam f (n + 1) p q k + gam f (n + 1) q k p + gam f (n + 1) k p q = 0 := by
 have e := congrArg (fun s => s.c (p + 11 * q + 121 * k)) (Ajm L.up (jS (mono 1 1)) (jS (mono 11 1)) (jS (mono 121 1)))
 simp only [add_c, yN, xM] at e
 rw [lR (gam f (n + 1)) (β := 1) h (fun p' q' k' h' => ?_), lR (gam f (n + 1)) (β := 1) (p0 := q) (q0 := k) (k0 := p) (by omega) (fun p' q' k' h' => ?_),
   lR (gam f (n + 1)) (β := 1) (p0 := k) (q0 := p) (k0 := q) (by omega) (fun p' q' k' h' => ?_), Go.Fg.mul_one, Go.Fg.mul_one, Go.Fg.mul_one] at e
 · exact e
 · rw [nO, bO]
   by_cases e : p' = k ∧ q' = p ∧ k' = q
   · rw [if_pos e, if_pos (by omega)]
   · rw [if_neg e, if_neg (by omega)]
 · rw [nO, bO]
   by_cases e : p' = q ∧ q' = k ∧ k' = p
   · rw [if_pos e, if_pos (by omega)]
   · rw [if_neg e, if_neg (by omega)]
 · rw [nO, bO]
   by_cases e : p' = p ∧ q' = q ∧ k' = k
   · rw [if_pos e, if_pos (by omega)]
   · rw [if_neg e, if_neg (by omega)]
theorem Aou (L : Lw f n) (hn : n ≤ 10) {i j k l : Nat} (hi : 1 ≤ i) (hl : 1 ≤ l) (h : i + j + k + l = n) :
   gam f (n + 1) (i + j) k l * Zm.mk m (aS (i + j) i : Nat) + gam f (n + 1) i j (k + l) * Zm.mk m (aS (k + l) k : Nat) = gam f (n + 1) i (j + k) l * Zm.mk m (aS (j + k) j : Nat) := by
 have e := congrArg (fun s => s.c (i + 11 * j + 121 * k + 1331 * l)) (Amg L.up (jS (mono 1 1)) (jS (mono 11 1)) (jS (mono 121 1)) (jS (mono 1331 1)))
 simp only [add_c, yN, xM] at e
 rw [lR (gam f (n + 1)) (p0 := i + j) (q0 := k) (k0 := l) (β := Zm.mk m (aS (i + j) i : Nat)) (by omega) (fun p' q' k' h' => ?_),
   lR (gam f (n + 1)) (p0 := i) (q0 := j) (k0 := k + l) (β := Zm.mk m (aS (k + l) k : Nat)) (by omega) (fun p' q' k' h' => ?_),
   Ael (gam f (n + 1)) (fun p' q' k' h' => ?_),
   lR (gam f (n + 1)) (p0 := i) (q0 := j + k) (k0 := l) (β := Zm.mk m (aS (j + k) j : Nat)) (by omega) (fun p' q' k' h' => ?_),
   Ael (gam f (n + 1)) (fun p' q' k' h' => ?_), CR.zero_add, Go.Fg.add_zero] at e
 · exact e
 · rw [nO, bO, if_neg (by omega)]
 · rw [show Go.Fg.pw (mono 1 (1 : Zm m)) p' * (Go.Fg.pw (mono 11 1 + mono 121 1) q' * Go.Fg.pw (mono 1331 1) k') = Go.Fg.pw (mono 11 1 + mono 121 1) q' * (Go.Fg.pw (mono 1 1) p' * Go.Fg.pw (mono 1331 1) k') by ac_rfl,
     uA, gY, gY, jH, Go.Fg.mul_one, vR 11 121 q' (p' * 1 + k' * 1331) _ j (p' = i ∧ q' = j + k ∧ k' = l) (by omega) (fun x hx e => by have := uD (a := p') (b := x) (c := q' - x) (d := k') (a' := i) (b' := j) (c' := k) (d' := l) (by omega) (by omega) (by omega) (by omega) (by omega) (by omega) (by omega); omega)]
   split
   · rename_i e; rw [e.2.1]
   · rfl
 · rw [nO, bO, if_neg (by omega)]
 · rw [show Go.Fg.pw (mono 1 (1 : Zm m)) p' * (Go.Fg.pw (mono 11 1) q' * Go.Fg.pw (mono 121 1 + mono 1331 1) k') = Go.Fg.pw (mono 121 1 + mono 1331 1) k' * (Go.Fg.pw (mono 1 1) p' * Go.Fg.pw (mono 11 1) q') by ac_rfl,
     uA, gY, gY, jH, Go.Fg.mul_one, vR 121 1331 k' (p' * 1 + q' * 11) _ k (p' = i ∧ q' = j ∧ k' = k + l) (by omega) (fun x hx e => by have := uD (a := p') (b := q') (c := x) (d := k' - x) (a' := i) (b' := j) (c' := k) (d' := l) (by omega) (by omega) (by omega) (by omega) (by omega) (by omega) (by omega); omega)]
   split
   · rename_i e; rw [e.2.2]
   · rfl
 · rw [uA, gY, gY, jH, Go.Fg.mul_one, vR 1 11 p' (q' * 121 + k' * 1331) _ i (p' = i + j ∧ q' = k ∧ k' = l) (by omega) (fun x hx e => by have := uD (a := x) (b := p' - x) (c := q') (d := k') (a' := i) (b' := j) (c' := k) (d' := l) (by omega) (by omega) (by omega) (by omega) (by omega) (by omega) (by omega); omega)]
   split
   · rename_i e; rw [e.1]
   · rfl
end
end Go.Fg
namespace Go.Fg
open CR PS
inductive RK where
 | an (a b c : Nat)
 | cy (a b c : Nat)
 | pe (i j k l : Nat)
abbrev RV := List (Int × Nat × Nat × Nat)
def RK.vec : RK → RV
 | .an a b c => [(1, a, b, c), (1, c, b, a)]
 | .cy a b c => [(1, a, b, c), (1, b, c, a), (1, c, a, b)]
 | .pe i j k l => [((aS (i + j) i : Nat), i + j, k, l), ((aS (k + l) k : Nat), i, j, k + l), (-((aS (j + k) j : Nat) : Int), i, j + k, l)]
def RK.ok (n : Nat) : RK → Bool
 | .an a b c => a + b + c == n
 | .cy a b c => a + b + c == n
 | .pe i j k l => decide (1 ≤ i) && decide (1 ≤ l) && i + j + k + l == n
def cL (g : Nat → Nat → Nat → Int) : RV → Int
 | [] => 0
 | (c, p, q, k) :: r => c * g p q k + cL g r
def rD (c : Int) (l : RV) : RV := l.map fun x => (c * x.1, x.2)
def wL (x : Int × Nat × Nat × Nat) : RV → RV
 | [] => [x]
 | y :: r => if x.2.1 == y.2.1 && x.2.2.1 == y.2.2.1 && x.2.2.2 == y.2.2.2 then (x.1 + y.1, y.2) :: r else y :: wL x r
def zU : RV → RV
 | [] => []
 | x :: r => wL x (zU r)
def uG : List (Int × RK) → RV
 | [] => []
 | (c, k) :: r => rD c k.vec ++ uG r
theorem U2 (g) (a b : RV) : cL g (a ++ b) = cL g a + cL g b := by
 induction a with
 | nil => simp [cL]
 | cons x r ih => obtain ⟨c, p, q, k⟩ := x; simp only [List.cons_append, cL, ih, Int.add_assoc]
theorem xV (g) (c : Int) (a : RV) : cL g (rD c a) = c * cL g a := by
 induction a with
 | nil => simp [cL, rD]
 | cons x r ih =>
   obtain ⟨d, p, q, k⟩ := x
   simp only [rD, List.map_cons, cL] at ih ⊢
   rw [ih, Int.mul_add, Int.mul_assoc]
theorem Ata (g) (x : Int × Nat × Nat × Nat) (a : RV) : cL g (wL x a) = cL g [x] + cL g a := by
 induction a with
 | nil => simp [cL, wL]
 | cons y r ih =>
   obtain ⟨c, p, q, k⟩ := x
   obtain ⟨c', p', q', k'⟩ := y
   unfold wL
   split
   · rename_i h
     simp only [Bool.and_eq_true, beq_iff_eq] at h
     obtain ⟨⟨h1, h2⟩, h3⟩ := h
     subst h1 h2 h3
     simp only [cL, Int.add_mul]; omega
   · simp only [cL] at ih ⊢; omega
theorem Alg (g) (a : RV) : cL g (zU a) = cL g a := by
 induction a with
 | nil => rfl
 | cons x r ih =>
   obtain ⟨c, p, q, k⟩ := x
   rw [zU, Ata, ih]; simp only [cL]; omega
def Ahk (a : RV) : Bool := (zU a).all fun x => x.1 == 0
theorem Akf (g) (a : RV) (h : (a.all fun x => x.1 == 0) = true) : cL g a = 0 := by
 induction a with
 | nil => rfl
 | cons x r ih =>
   obtain ⟨c, p, q, k⟩ := x
   simp only [List.all_cons, Bool.and_eq_true, beq_iff_eq] at h
   simp only [cL, h.1, ih h.2]; omega
theorem Aoa {g} {a : RV} (h : Ahk a = true) : cL g a = 0 := by rw [← Alg]; exact Akf g _ h
theorem Atv {m : Int} {g : Nat → Nat → Nat → Int} {n : Nat} (hr : ∀ k : RK, k.ok n = true → m ∣ cL g k.vec) (l : List (Int × RK)) (h : (l.all fun x => x.2.ok n) = true) : m ∣ cL g (uG l) := by
 induction l with
 | nil => exact Int.dvd_zero m
 | cons x r ih =>
   obtain ⟨c, k⟩ := x
   simp only [List.all_cons, Bool.and_eq_true] at h
   rw [uG, U2, xV]
   exact Int.dvd_add (Int.dvd_trans (hr k h.1) (Int.dvd_mul_left _ _)) (ih h.2)
def hdL : Nat → List RV
 | 2 => [[], []]
 | 3 => [[], []]
 | 4 => [[], [(1, 2, 1, 1)], [(2, 2, 1, 1)]]
 | 5 => [[], [], [(-1, 2, 2, 1), (2, 3, 1, 1)]]
 | 6 => [[], [(-16, 3, 2, 1), (3, 4, 1, 1)], [(-40, 3, 2, 1), (8, 4, 1, 1)], [(-53, 3, 2, 1), (10, 4, 1, 1)]]
 | 7 => [[], [], [(-1, 4, 1, 2), (1, 4, 2, 1), (-2, 5, 1, 1)], [(1, 3, 3, 1), (-1, 4, 2, 1)]]
 | 8 => [[], [(-12, 4, 1, 3), (6, 4, 2, 2), (4, 4, 3, 1), (-18, 5, 1, 2), (-2, 5, 2, 1), (-9, 6, 1, 1)], [(-42, 4, 1, 3), (21, 4, 2, 2), (14, 4, 3, 1), (-63, 5, 1, 2), (-7, 5, 2, 1), (-31, 6, 1, 1)], [(-92, 4, 1, 3), (46, 4, 2, 2), (30, 4, 3, 1), (-138, 5, 1, 2), (-15, 5, 2, 1), (-69, 6, 1, 1)], [(-108, 4, 1, 3), (54, 4, 2, 2), (36, 4, 3, 1), (-162, 5, 1, 2), (-18, 5, 2, 1), (-81, 6, 1, 1)]]
 | 9 => [[], [(-1, 6, 2, 1)], [(-1, 6, 1, 2), (-3, 6, 2, 1), (-3, 7, 1, 1)], [(-9, 6, 2, 1)], [(1, 4, 4, 1), (-1, 5, 3, 1), (-14, 6, 2, 1)]]
 | 10 => [[], [(-92, 4, 4, 2), (-322, 5, 1, 4), (276, 5, 4, 1), (-138, 6, 3, 1), (-3215, 8, 1, 1)], [(-414, 4, 4, 2), (-1449, 5, 1, 4), (1242, 5, 4, 1), (-621, 6, 3, 1), (-14467, 8, 1, 1)], [(1, 4, 3, 3), (-1104, 4, 4, 2), (-3864, 5, 1, 4), (3312, 5, 4, 1), (-1661, 6, 3, 1), (12, 7, 2, 1), (-38580, 8, 1, 1)], [(-1931, 4, 4, 2), (-6759, 5, 1, 4), (5793, 5, 4, 1), (-2897, 6, 3, 1), (-67480, 8, 1, 1)], [(-2318, 4, 4, 2), (-8113, 5, 1, 4), (6954, 5, 4, 1), (-3477, 6, 3, 1), (-81004, 8, 1, 1)]]
 | _ => []
def ctL : Nat → List (List (List (Int × RK)))
 | 2 => []
 | 3 => [[[(-1, .an 1 1 1), (1, .cy 1 1 1)]]]
 | 4 => [[[(1, .an 1 1 2)], [(-1, .an 1 1 2), (1, .cy 1 1 2)]],
   [[]]]
 | 5 => [[[(7, .an 1 1 3), (-3, .cy 1 1 3), (-1, .pe 1 1 2 1)], [(12, .an 1 1 3), (1, .an 1 2 2), (-6, .cy 1 1 3), (-2, .pe 1 1 2 1)], [(-1, .an 1 1 3), (1, .cy 1 1 3)]],
   [[(-1, .an 1 2 2), (1, .cy 1 2 2)], [(-12, .an 1 1 3), (6, .cy 1 1 3), (2, .pe 1 1 2 1)]],
   [[(-6, .an 1 1 3), (3, .cy 1 1 3), (1, .pe 1 1 2 1)]]]
 | 6 => [[[(1, .an 1 1 4)], [(1, .an 1 2 3)], [(-2, .an 1 2 3), (1, .an 1 3 2), (-1, .an 2 2 2), (2, .cy 1 2 3), (1, .pe 2 2 1 1), (-1, .pe 3 1 1 1)], [(-1, .an 1 1 4), (1, .cy 1 1 4)]],
   [[(3, .an 1 2 3), (1, .an 2 1 3), (1, .an 2 2 2), (-3, .cy 1 2 3), (-1, .pe 2 2 1 1), (1, .pe 3 1 1 1)], [(-1, .an 2 2 2), (1, .cy 2 2 2)], [(2, .an 1 2 3), (1, .an 2 2 2), (-2, .cy 1 2 3), (-1, .pe 2 2 1 1), (1, .pe 3 1 1 1)]],
   [[(-3, .an 1 2 3), (-1, .an 2 2 2), (3, .cy 1 2 3), (1, .pe 2 2 1 1), (-1, .pe 3 1 1 1)], []],
   [[]]]
 | 7 => [[[(1, .an 1 1 5), (-1, .pe 4 1 1 1)], [(1, .an 1 2 4), (4, .an 1 4 2), (-4, .cy 1 4 2), (1, .pe 2 1 3 1)], [(1, .an 1 3 3), (4, .an 1 4 2), (-4, .cy 1 4 2), (1, .pe 2 1 3 1)], [(-1, .an 2 1 4), (1, .cy 1 4 2), (-2, .pe 4 1 1 1)], [(-1, .an 1 1 5), (1, .cy 1 1 5)]],
   [[(4, .an 1 4 2), (1, .an 2 1 4), (-4, .cy 1 4 2), (1, .pe 2 1 3 1), (2, .pe 4 1 1 1)], [(7, .an 2 2 3), (-3, .cy 2 2 3), (-1, .pe 2 2 1 2), (-2, .pe 3 2 1 1), (8, .pe 4 1 1 1)], [(-1, .an 2 2 3), (1, .cy 2 2 3)], [(1, .an 1 4 2), (1, .an 2 1 4), (-1, .cy 1 4 2), (2, .pe 4 1 1 1)]],
   [[(-1, .an 1 3 3), (1, .cy 1 3 3)], [(-6, .an 2 2 3), (3, .cy 2 2 3), (1, .pe 2 2 1 2), (2, .pe 3 2 1 1), (-8, .pe 4 1 1 1)], [(-4, .an 1 4 2), (4, .cy 1 4 2), (-1, .pe 2 1 3 1)]],
   [[(-4, .an 1 4 2), (4, .cy 1 4 2), (-1, .pe 2 1 3 1), (-2, .pe 4 1 1 1)], [(-4, .an 1 4 2), (4, .cy 1 4 2), (-1, .pe 2 1 3 1)]],
   [[(1, .pe 4 1 1 1)]]]
 | 8 => [[[(1, .an 1 1 6)], [(1, .an 1 2 5), (-8, .pe 4 1 1 2), (-2, .pe 4 2 1 1), (2, .pe 5 1 1 1)], [(1, .an 1 3 4), (-4, .pe 4 1 1 2), (-1, .pe 4 2 1 1), (1, .pe 5 1 1 1)], [(1, .an 1 3 4), (1, .an 1 4 3), (-1, .cy 1 3 4), (-12, .pe 4 1 1 2), (-1, .pe 4 1 2 1), (-2, .pe 4 2 1 1)], [(1, .an 1 2 5), (1, .an 1 5 2), (-1, .cy 1 2 5), (-1, .pe 4 1 1 2), (1, .pe 4 1 2 1), (-1, .pe 4 2 1 1), (3, .pe 5 1 1 1)], [(-1, .an 1 1 6), (1, .cy 1 1 6)]],
   [[(1, .an 2 1 5), (-7, .pe 4 1 1 2), (-1, .pe 4 1 2 1), (-1, .pe 4 2 1 1), (-1, .pe 5 1 1 1)], [(1, .an 2 2 4), (-5, .pe 4 1 1 2), (-1, .pe 4 1 2 1), (-1, .pe 4 2 1 1), (-1, .pe 5 1 1 1)], [(8, .an 1 3 4), (1, .an 2 3 3), (6, .an 3 1 4), (-8, .cy 1 3 4), (-1, .pe 3 1 2 2), (-2, .pe 3 3 1 1), (-26, .pe 4 1 1 2), (-4, .pe 4 2 1 1), (5, .pe 5 1 1 1)], [(-1, .an 2 2 4), (1, .cy 2 2 4)], [(-1, .an 1 2 5), (1, .cy 1 2 5), (1, .pe 4 1 1 2), (-1, .pe 4 1 2 1), (1, .pe 4 2 1 1), (-3, .pe 5 1 1 1)]],
   [[(1, .an 3 1 4), (8, .pe 4 1 1 2), (1, .pe 4 1 2 1), (1, .pe 4 2 1 1), (1, .pe 5 1 1 1)], [(-1, .an 2 3 3), (1, .cy 2 3 3)], [(-8, .an 1 3 4), (-6, .an 3 1 4), (8, .cy 1 3 4), (1, .pe 3 1 2 2), (2, .pe 3 3 1 1), (26, .pe 4 1 1 2), (4, .pe 4 2 1 1), (-5, .pe 5 1 1 1)], [(-1, .an 1 3 4), (1, .cy 1 3 4), (12, .pe 4 1 1 2), (1, .pe 4 1 2 1), (2, .pe 4 2 1 1)]],
   [[(-8, .pe 4 1 1 2), (-1, .pe 4 1 2 1), (-1, .pe 4 2 1 1), (-1, .pe 5 1 1 1)], [(5, .pe 4 1 1 2), (1, .pe 4 1 2 1), (1, .pe 4 2 1 1), (1, .pe 5 1 1 1)], [(4, .pe 4 1 1 2), (1, .pe 4 2 1 1), (-1, .pe 5 1 1 1)]],
   [[(7, .pe 4 1 1 2), (1, .pe 4 1 2 1), (1, .pe 4 2 1 1), (1, .pe 5 1 1 1)], [(8, .pe 4 1 1 2), (2, .pe 4 2 1 1), (-2, .pe 5 1 1 1)]],
   [[]]]
 | 9 => [[[(1, .an 1 1 7), (-1, .pe 6 1 1 1)], [(1, .an 1 2 6)], [(1, .an 1 3 5), (-4, .an 1 4 4), (4, .cy 1 4 4), (-1, .pe 4 1 3 1)], [(-3, .an 1 4 4), (4, .cy 1 4 4), (-1, .pe 4 1 3 1)], [(-9, .an 1 3 5), (1, .an 1 5 3), (9, .cy 1 3 5), (-1, .cy 3 3 3), (1, .pe 3 3 2 1), (-3, .pe 5 1 2 1)], [(-1, .an 2 1 6), (1, .cy 1 6 2), (-3, .pe 6 1 1 1)], [(-1, .an 1 1 7), (1, .cy 1 1 7)]],
   [[(1, .an 2 1 6), (3, .pe 6 1 1 1)], [(-210, .an 1 3 5), (-6, .an 1 4 4), (1, .an 2 2 5), (210, .cy 1 3 5), (6, .cy 1 4 4), (-21, .cy 3 3 3), (21, .pe 3 3 2 1), (-6, .pe 4 1 1 3), (1, .pe 4 1 2 2), (3, .pe 4 1 3 1), (-1, .pe 4 2 1 2), (-3, .pe 4 2 2 1), (3, .pe 5 1 1 2), (-63, .pe 5 1 2 1), (9, .pe 6 1 1 1)], [(-300, .an 1 3 5), (-8, .an 1 4 4), (1, .an 2 3 4), (300, .cy 1 3 5), (8, .cy 1 4 4), (-30, .cy 3 3 3), (30, .pe 3 3 2 1), (-6, .pe 4 1 1 3), (4, .pe 4 1 3 1), (-1, .pe 4 2 1 2), (-3, .pe 4 2 2 1), (-2, .pe 4 3 1 1), (-90, .pe 5 1 2 1), (25, .pe 6 1 1 1)], [(-400, .an 1 3 5), (1, .an 2 3 4), (1, .an 2 4 3), (400, .cy 1 3 5), (-1, .cy 2 3 4), (-40, .cy 3 3 3), (40, .pe 3 3 2 1), (-8, .pe 4 1 1 3), (8, .pe 4 1 3 1), (-1, .pe 4 2 1 2), (-4, .pe 4 2 2 1), (-2, .pe 4 3 1 1), (-120, .pe 5 1 2 1), (25, .pe 6 1 1 1)], [(-1, .an 2 2 5), (1, .cy 2 2 5)], [(1, .an 1 6 2), (1, .an 2 1 6), (-1, .cy 1 6 2), (3, .pe 6 1 1 1)]],
   [[(10, .an 1 3 5), (-4, .an 1 4 4), (1, .an 3 1 5), (-10, .cy 1 3 5), (4, .cy 1 4 4), (1, .cy 3 3 3), (-1, .pe 3 3 2 1), (-1, .pe 4 1 3 1), (3, .pe 5 1 2 1)], [(100, .an 1 3 5), (-8, .an 1 4 4), (1, .an 3 2 4), (-100, .cy 1 3 5), (8, .cy 1 4 4), (10, .cy 3 3 3), (-10, .pe 3 3 2 1), (2, .pe 4 1 1 3), (-4, .pe 4 1 3 1), (1, .pe 4 2 2 1), (30, .pe 5 1 2 1)], [(-1, .an 3 3 3), (1, .cy 3 3 3)], [(400, .an 1 3 5), (-1, .an 2 3 4), (-400, .cy 1 3 5), (1, .cy 2 3 4), (40, .cy 3 3 3), (-40, .pe 3 3 2 1), (8, .pe 4 1 1 3), (-8, .pe 4 1 3 1), (1, .pe 4 2 1 2), (4, .pe 4 2 2 1), (2, .pe 4 3 1 1), (120, .pe 5 1 2 1), (-25, .pe 6 1 1 1)], [(9, .an 1 3 5), (-9, .cy 1 3 5), (1, .cy 3 3 3), (-1, .pe 3 3 2 1), (3, .pe 5 1 2 1)]],
   [[(-1, .an 1 4 4), (1, .cy 1 4 4)], [(-100, .an 1 3 5), (8, .an 1 4 4), (100, .cy 1 3 5), (-8, .cy 1 4 4), (-10, .cy 3 3 3), (10, .pe 3 3 2 1), (-2, .pe 4 1 1 3), (4, .pe 4 1 3 1), (-1, .pe 4 2 2 1), (-30, .pe 5 1 2 1)], [(300, .an 1 3 5), (8, .an 1 4 4), (-300, .cy 1 3 5), (-8, .cy 1 4 4), (30, .cy 3 3 3), (-30, .pe 3 3 2 1), (6, .pe 4 1 1 3), (-4, .pe 4 1 3 1), (1, .pe 4 2 1 2), (3, .pe 4 2 2 1), (2, .pe 4 3 1 1), (90, .pe 5 1 2 1), (-25, .pe 6 1 1 1)], [(4, .an 1 4 4), (-4, .cy 1 4 4), (1, .pe 4 1 3 1)]],
   [[(-10, .an 1 3 5), (4, .an 1 4 4), (10, .cy 1 3 5), (-4, .cy 1 4 4), (-1, .cy 3 3 3), (1, .pe 3 3 2 1), (1, .pe 4 1 3 1), (-3, .pe 5 1 2 1)], [(210, .an 1 3 5), (6, .an 1 4 4), (-210, .cy 1 3 5), (-6, .cy 1 4 4), (21, .cy 3 3 3), (-21, .pe 3 3 2 1), (6, .pe 4 1 1 3), (-1, .pe 4 1 2 2), (-3, .pe 4 1 3 1), (1, .pe 4 2 1 2), (3, .pe 4 2 2 1), (-3, .pe 5 1 1 2), (63, .pe 5 1 2 1), (-9, .pe 6 1 1 1)], [(4, .an 1 4 4), (-4, .cy 1 4 4), (1, .pe 4 1 3 1)]],
   [[(-3, .pe 6 1 1 1)], []],
   [[(1, .pe 6 1 1 1)]]]
 | 10 => [[[(1, .an 1 1 8)], [(1, .an 1 2 7), (-4, .an 2 4 4), (4, .cy 2 4 4), (-1, .pe 4 2 1 3), (5, .pe 6 1 2 1)], [(-14, .an 1 3 6), (10, .an 1 5 4), (4, .an 2 4 4), (-4, .cy 2 4 4), (1, .pe 1 3 2 4), (2, .pe 4 4 1 1), (3, .pe 5 1 3 1)], [(-15, .an 1 3 6), (6, .an 1 4 5), (10, .an 1 5 4), (4, .an 2 4 4), (-5, .cy 1 4 5), (-4, .cy 2 4 4), (1, .pe 1 3 2 4), (1, .pe 4 4 1 1), (3, .pe 5 1 3 1)], [(-30, .an 1 3 6), (6, .an 1 4 5), (21, .an 1 5 4), (8, .an 2 4 4), (-6, .cy 1 4 5), (-8, .cy 2 4 4), (2, .pe 1 3 2 4), (3, .pe 4 4 1 1), (6, .pe 5 1 3 1)], [(1, .an 1 3 6), (21, .an 1 6 3), (-4, .an 2 4 4), (-21, .cy 1 3 6), (4, .cy 2 4 4), (1, .pe 1 3 3 3), (-1, .pe 4 2 1 3), (12, .pe 6 1 2 1)], [(1, .an 1 2 7), (75, .an 1 3 6), (-60, .an 1 4 5), (-50, .an 1 5 4), (1, .an 1 7 2), (-16, .an 2 4 4), (-1, .cy 1 2 7), (60, .cy 1 4 5), (16, .cy 2 4 4), (-5, .pe 1 3 2 4), (1, .pe 4 2 1 3), (1, .pe 4 3 1 2), (2, .pe 4 4 1 1), (-15, .pe 5 1 3 1), (-5, .pe 6 1 2 1), (-17, .pe 7 1 1 1)], [(-1, .an 1 1 8), (1, .cy 1 1 8)]],
   [[(-75, .an 1 3 6), (60, .an 1 4 5), (50, .an 1 5 4), (1, .an 2 1 7), (12, .an 2 4 4), (-60, .cy 1 4 5), (-12, .cy 2 4 4), (5, .pe 1 3 2 4), (-2, .pe 4 2 1 3), (-1, .pe 4 3 1 2), (-2, .pe 4 4 1 1), (15, .pe 5 1 3 1), (10, .pe 6 1 2 1), (17, .pe 7 1 1 1)], [(3540, .an 1 3 6), (-2850, .an 1 4 5), (-2360, .an 1 5 4), (420, .an 1 6 3), (-29, .an 2 2 6), (-636, .an 2 4 4), (-420, .cy 1 3 6), (2850, .cy 1 4 5), (15, .cy 2 2 6), (636, .cy 2 4 4), (-236, .pe 1 3 2 4), (21, .pe 1 3 3 3), (1, .pe 2 2 4 2), (77, .pe 4 2 1 3), (49, .pe 4 3 1 2), (98, .pe 4 4 1 1), (-708, .pe 5 1 3 1), (-7, .pe 6 1 1 2), (-238, .pe 6 1 2 1), (-833, .pe 7 1 1 1)], [(-21450, .an 1 3 6), (17140, .an 1 4 5), (14300, .an 1 5 4), (-2520, .an 1 6 3), (180, .an 2 2 6), (1, .an 2 3 5), (3872, .an 2 4 4), (2520, .cy 1 3 6), (-17140, .cy 1 4 5), (-90, .cy 2 2 6), (-3872, .cy 2 4 4), (1430, .pe 1 3 2 4), (-126, .pe 1 3 3 3), (-6, .pe 2 2 4 2), (-462, .pe 4 2 1 3), (-294, .pe 4 3 1 2), (-568, .pe 4 4 1 1), (-1, .pe 5 1 2 2), (4290, .pe 5 1 3 1), (-2, .pe 5 3 1 1), (42, .pe 6 1 1 2), (1428, .pe 6 1 2 1), (4998, .pe 7 1 1 1)], [(-75, .an 1 3 6), (15, .an 1 4 5), (50, .an 1 5 4), (21, .an 2 4 4), (-15, .cy 1 4 5), (-20, .cy 2 4 4), (5, .pe 1 3 2 4), (7, .pe 4 4 1 1), (15, .pe 5 1 3 1)], [(-21435, .an 1 3 6), (17140, .an 1 4 5), (14290, .an 1 5 4), (-2160, .an 1 6 3), (180, .an 2 2 6), (3940, .an 2 4 4), (-1, .an 3 2 5), (10, .an 4 1 5), (2160, .cy 1 3 6), (-17140, .cy 1 4 5), (-90, .cy 2 2 6), (-3940, .cy 2 4 4), (1, .cy 2 5 3), (1429, .pe 1 3 2 4), (-108, .pe 1 3 3 3), (-6, .pe 2 2 4 2), (-1, .pe 4 1 2 3), (-444, .pe 4 2 1 3), (-294, .pe 4 3 1 2), (-570, .pe 4 4 1 1), (-3, .pe 5 1 1 3), (-1, .pe 5 1 2 2), (4287, .pe 5 1 3 1), (-2, .pe 5 3 1 1), (42, .pe 6 1 1 2), (1464, .pe 6 1 2 1), (4998, .pe 7 1 1 1)], [(-1, .an 2 2 6), (1, .cy 2 2 6)], [(-1, .an 1 2 7), (-75, .an 1 3 6), (60, .an 1 4 5), (50, .an 1 5 4), (16, .an 2 4 4), (1, .cy 1 2 7), (-60, .cy 1 4 5), (-16, .cy 2 4 4), (5, .pe 1 3 2 4), (-1, .pe 4 2 1 3), (-1, .pe 4 3 1 2), (-2, .pe 4 4 1 1), (15, .pe 5 1 3 1), (5, .pe 6 1 2 1), (17, .pe 7 1 1 1)]],
   [[(-15, .an 1 3 6), (10, .an 1 5 4), (-20, .an 1 6 3), (8, .an 2 4 4), (1, .an 3 1 6), (20, .cy 1 3 6), (-8, .cy 2 4 4), (1, .pe 1 3 2 4), (-1, .pe 1 3 3 3), (1, .pe 4 2 1 3), (2, .pe 4 4 1 1), (3, .pe 5 1 3 1), (-12, .pe 6 1 2 1)], [(-15, .an 1 3 6), (10, .an 1 5 4), (-360, .an 1 6 3), (-68, .an 2 4 4), (1, .an 3 2 5), (-10, .an 4 1 5), (360, .cy 1 3 6), (68, .cy 2 4 4), (1, .pe 1 3 2 4), (-18, .pe 1 3 3 3), (1, .pe 4 1 2 3), (-18, .pe 4 2 1 3), (2, .pe 4 4 1 1), (3, .pe 5 1 1 3), (3, .pe 5 1 3 1), (-36, .pe 6 1 2 1)], [(-75, .an 1 3 6), (50, .an 1 5 4), (68, .an 2 4 4), (1, .an 3 3 4), (-68, .cy 2 4 4), (5, .pe 1 3 2 4), (12, .pe 4 2 1 3), (10, .pe 4 4 1 1), (15, .pe 5 1 3 1), (-60, .pe 6 1 2 1)], [(-1, .an 3 3 4), (1, .cy 3 3 4)], [(21435, .an 1 3 6), (-17140, .an 1 4 5), (-14290, .an 1 5 4), (2160, .an 1 6 3), (-180, .an 2 2 6), (-3940, .an 2 4 4), (1, .an 2 5 3), (1, .an 3 2 5), (-10, .an 4 1 5), (-2160, .cy 1 3 6), (17140, .cy 1 4 5), (90, .cy 2 2 6), (3940, .cy 2 4 4), (-1, .cy 2 5 3), (-1429, .pe 1 3 2 4), (108, .pe 1 3 3 3), (6, .pe 2 2 4 2), (1, .pe 4 1 2 3), (444, .pe 4 2 1 3), (294, .pe 4 3 1 2), (570, .pe 4 4 1 1), (3, .pe 5 1 1 3), (1, .pe 5 1 2 2), (-4287, .pe 5 1 3 1), (2, .pe 5 3 1 1), (-42, .pe 6 1 1 2), (-1464, .pe 6 1 2 1), (-4998, .pe 7 1 1 1)], [(-1, .an 1 3 6), (-20, .an 1 6 3), (4, .an 2 4 4), (21, .cy 1 3 6), (-4, .cy 2 4 4), (-1, .pe 1 3 3 3), (1, .pe 4 2 1 3), (-12, .pe 6 1 2 1)]],
   [[(15, .an 1 3 6), (-10, .an 1 5 4), (-4, .an 2 4 4), (1, .an 4 1 5), (4, .cy 2 4 4), (-1, .pe 1 3 2 4), (-2, .pe 4 4 1 1), (-3, .pe 5 1 3 1)], [(-1, .an 2 4 4), (1, .cy 2 4 4)], [(75, .an 1 3 6), (-50, .an 1 5 4), (-68, .an 2 4 4), (68, .cy 2 4 4), (-5, .pe 1 3 2 4), (-12, .pe 4 2 1 3), (-10, .pe 4 4 1 1), (-15, .pe 5 1 3 1), (60, .pe 6 1 2 1)], [(75, .an 1 3 6), (-15, .an 1 4 5), (-50, .an 1 5 4), (-20, .an 2 4 4), (15, .cy 1 4 5), (20, .cy 2 4 4), (-5, .pe 1 3 2 4), (-7, .pe 4 4 1 1), (-15, .pe 5 1 3 1)], [(30, .an 1 3 6), (-6, .an 1 4 5), (-20, .an 1 5 4), (-8, .an 2 4 4), (6, .cy 1 4 5), (8, .cy 2 4 4), (-2, .pe 1 3 2 4), (-3, .pe 4 4 1 1), (-6, .pe 5 1 3 1)]],
   [[(-15, .an 1 3 6), (10, .an 1 5 4), (4, .an 2 4 4), (-4, .cy 2 4 4), (1, .pe 1 3 2 4), (2, .pe 4 4 1 1), (3, .pe 5 1 3 1)], [(15, .an 1 3 6), (-10, .an 1 5 4), (360, .an 1 6 3), (68, .an 2 4 4), (10, .an 4 1 5), (-360, .cy 1 3 6), (-68, .cy 2 4 4), (-1, .pe 1 3 2 4), (18, .pe 1 3 3 3), (-1, .pe 4 1 2 3), (18, .pe 4 2 1 3), (-2, .pe 4 4 1 1), (-3, .pe 5 1 1 3), (-3, .pe 5 1 3 1), (36, .pe 6 1 2 1)], [(21450, .an 1 3 6), (-17140, .an 1 4 5), (-14300, .an 1 5 4), (2520, .an 1 6 3), (-180, .an 2 2 6), (-3872, .an 2 4 4), (-2520, .cy 1 3 6), (17140, .cy 1 4 5), (90, .cy 2 2 6), (3872, .cy 2 4 4), (-1430, .pe 1 3 2 4), (126, .pe 1 3 3 3), (6, .pe 2 2 4 2), (462, .pe 4 2 1 3), (294, .pe 4 3 1 2), (568, .pe 4 4 1 1), (1, .pe 5 1 2 2), (-4290, .pe 5 1 3 1), (2, .pe 5 3 1 1), (-42, .pe 6 1 1 2), (-1428, .pe 6 1 2 1), (-4998, .pe 7 1 1 1)], [(15, .an 1 3 6), (-5, .an 1 4 5), (-10, .an 1 5 4), (-4, .an 2 4 4), (5, .cy 1 4 5), (4, .cy 2 4 4), (-1, .pe 1 3 2 4), (-1, .pe 4 4 1 1), (-3, .pe 5 1 3 1)]],
   [[(15, .an 1 3 6), (-10, .an 1 5 4), (20, .an 1 6 3), (-8, .an 2 4 4), (-20, .cy 1 3 6), (8, .cy 2 4 4), (-1, .pe 1 3 2 4), (1, .pe 1 3 3 3), (-1, .pe 4 2 1 3), (-2, .pe 4 4 1 1), (-3, .pe 5 1 3 1), (12, .pe 6 1 2 1)], [(-3540, .an 1 3 6), (2850, .an 1 4 5), (2360, .an 1 5 4), (-420, .an 1 6 3), (30, .an 2 2 6), (636, .an 2 4 4), (420, .cy 1 3 6), (-2850, .cy 1 4 5), (-15, .cy 2 2 6), (-636, .cy 2 4 4), (236, .pe 1 3 2 4), (-21, .pe 1 3 3 3), (-1, .pe 2 2 4 2), (-77, .pe 4 2 1 3), (-49, .pe 4 3 1 2), (-98, .pe 4 4 1 1), (708, .pe 5 1 3 1), (7, .pe 6 1 1 2), (238, .pe 6 1 2 1), (833, .pe 7 1 1 1)], [(15, .an 1 3 6), (-10, .an 1 5 4), (-4, .an 2 4 4), (4, .cy 2 4 4), (-1, .pe 1 3 2 4), (-2, .pe 4 4 1 1), (-3, .pe 5 1 3 1)]],
   [[(75, .an 1 3 6), (-60, .an 1 4 5), (-50, .an 1 5 4), (-12, .an 2 4 4), (60, .cy 1 4 5), (12, .cy 2 4 4), (-5, .pe 1 3 2 4), (2, .pe 4 2 1 3), (1, .pe 4 3 1 2), (2, .pe 4 4 1 1), (-15, .pe 5 1 3 1), (-10, .pe 6 1 2 1), (-17, .pe 7 1 1 1)], [(4, .an 2 4 4), (-4, .cy 2 4 4), (1, .pe 4 2 1 3), (-5, .pe 6 1 2 1)]],
   [[]]]
 | _ => []
def kS (n i : Nat) : RV := (hdL n).getD (min i (n - i)) []
def S4 (n a b : Nat) : List (Int × RK) := ((ctL n).getD (a - 1) []).getD (b - 1) []
def O9 (n a b : Nat) : Bool :=
 ((S4 n a b).all fun x => x.2.ok n) && Ahk ((1, a, b, n - a - b) :: (rD (-((aS (n - a) b : Nat) : Int)) (kS n a) ++ rD ((aS (a + b) a : Nat) : Int) (kS n (a + b)) ++ rD (-1) (uG (S4 n a b))))
theorem Au8 : ((List.range 11).all fun n => (List.range 11).all fun a => (List.range 11).all fun b => decide (n < 2) || decide (a = 0) || decide (b = 0) || decide (n ≤ a + b) || O9 n a b) = true := by decide +kernel
theorem Auu {n a b : Nat} (hn : 2 ≤ n ∧ n ≤ 10) (ha : 1 ≤ a) (hb : 1 ≤ b) (h : a + b < n) : O9 n a b = true := by
 have := List.all_eq_true.1 (List.all_eq_true.1 (List.all_eq_true.1 Au8 n (List.mem_range.2 (by omega))) a (List.mem_range.2 (by omega))) b (List.mem_range.2 (by omega))
 rw [show decide (n < 2) = false from decide_eq_false (by omega), show decide (a = 0) = false from decide_eq_false (by omega), show decide (b = 0) = false from decide_eq_false (by omega), show decide (n ≤ a + b) = false from decide_eq_false (by omega)] at this
 simpa using this
theorem Asx {n : Nat} (hn : 2 ≤ n ∧ n ≤ 10) : kS n 0 = [] := by
 rcases (show n = 2 ∨ n = 3 ∨ n = 4 ∨ n = 5 ∨ n = 6 ∨ n = 7 ∨ n = 8 ∨ n = 9 ∨ n = 10 by omega) with rfl | rfl | rfl | rfl | rfl | rfl | rfl | rfl | rfl <;> rfl
theorem Aij {n i : Nat} (h : i ≤ n) : kS n (n - i) = kS n i := by
 unfold kS; rw [show n - (n - i) = i by omega, Nat.min_comm]
theorem Amz {m : Int} {n : Nat} (hn : 2 ≤ n ∧ n ≤ 10) (g : Nat → Nat → Nat → Int) (hr : ∀ k : RK, k.ok n = true → m ∣ cL g k.vec) :
   ∃ h : Nat → Int, h 0 = 0 ∧ (∀ i, i ≤ n → h (n - i) = h i) ∧ ∀ a b c, 1 ≤ a → 1 ≤ b → 1 ≤ c → a + b + c = n → m ∣ g a b c - ((aS (b + c) b : Nat) : Int) * h a + ((aS (a + b) a : Nat) : Int) * h (a + b) := by
 refine ⟨fun i => cL g (kS n i), by show cL g (kS n 0) = 0; rw [Asx hn]; rfl, fun i hi => congrArg (cL g) (Aij hi), fun a b c ha hb hc h => ?_⟩
 have hk := Auu hn ha hb (by omega)
 unfold O9 at hk
 rw [Bool.and_eq_true] at hk
 have hz := Aoa (g := g) hk.2
 have hd := Atv hr _ hk.1
 rw [cL, U2, U2, xV, xV, xV, show n - a - b = c by omega, show n - a = b + c by omega, Int.one_mul, Int.neg_mul, Int.neg_mul, Int.one_mul] at hz
 have e : g a b c - ((aS (b + c) b : Nat) : Int) * cL g (kS n a) + ((aS (a + b) a : Nat) : Int) * cL g (kS n (a + b)) = cL g (uG (S4 n a b)) := by omega
 show m ∣ g a b c - ((aS (b + c) b : Nat) : Int) * cL g (kS n a) + ((aS (a + b) a : Nat) : Int) * cL g (kS n (a + b))
 rw [e]; exact hd
variable {m : Int}
theorem Zm.dvd_of_zero {a : Int} (h : Zm.mk m a = 0) : m ∣ a := by
 have := Zm.mk_eq.1 (h.trans Zm.mk_zero.symm)
 exact Int.dvd_of_emod_eq_zero (this.trans (Int.zero_emod m))
theorem Zm.zero_of_dvd {a : Int} (h : m ∣ a) : Zm.mk m a = 0 := Zm.mk_eq.2 ((Int.emod_eq_zero_of_dvd h).trans (Int.zero_emod m).symm)
theorem Arw {f : PS (PS (Zm m))} {n : Nat} (L : Lw f n) (hn : 2 ≤ n ∧ n ≤ 10) :
   ∃ v : Nat → Zm m, v 0 = 0 ∧ (∀ i, i ≤ n → v (n - i) = v i) ∧ ∀ p q k, 1 ≤ p → 1 ≤ q → 1 ≤ k → p + q + k = n → gam f (n + 1) p q k + v (p + q) * Zm.mk m (aS (p + q) p : Nat) = v p * Zm.mk m (aS (q + k) q : Nat) := by
 obtain ⟨h, h0, h1, h2⟩ := Amz (m := m) hn (fun p q k => (gam f (n + 1) p q k).val) (fun K hK => by
   cases K with
   | an a b c =>
     simp only [RK.ok, beq_iff_eq] at hK
     refine Zm.dvd_of_zero ?_
     simp only [RK.vec, cL, Int.one_mul, Int.add_zero, Zm.mk_add, Zm.mk_val]
     exact Asc L hn.2 hK
   | cy a b c =>
     simp only [RK.ok, beq_iff_eq] at hK
     refine Zm.dvd_of_zero ?_
     simp only [RK.vec, cL, Int.one_mul, Int.add_zero, Zm.mk_add, Zm.mk_val]
     rw [← CR.add_assoc]
     exact Aw6 L hn.2 hK
   | pe i j k l =>
     simp only [RK.ok, Bool.and_eq_true, decide_eq_true_eq, beq_iff_eq] at hK
     refine Zm.dvd_of_zero ?_
     have := Aou L hn.2 hK.1.1 hK.1.2 hK.2
     simp only [RK.vec, cL, Int.add_zero, Zm.mk_add, Zm.mk_mul, Zm.mk_neg, Zm.mk_val, Go.Fg.neg_mul]
     rw [← CR.add_assoc, CR.mul_comm, CR.mul_comm (Zm.mk m (aS (k + l) k : Nat)), this, CR.mul_comm, Go.Fg.add_neg])
 refine ⟨fun i => Zm.mk m (h i), congrArg (Zm.mk m) h0, fun i hi => congrArg (Zm.mk m) (h1 i hi), fun p q k hp hq hk hs => ?_⟩
 have e := Zm.zero_of_dvd (h2 p q k hp hq hk hs)
 rw [Zm.mk_add, Zm.mk_sub, Zm.mk_mul, Zm.mk_mul, Zm.mk_val] at e
 have e2 : gam f (n + 1) p q k + Zm.mk m (h (p + q)) * Zm.mk m (aS (p + q) p : Nat) - Zm.mk m (h p) * Zm.mk m (aS (q + k) q : Nat) = 0 := by
   rw [← e, Go.Fg.sub_def, Go.Fg.sub_def, CR.mul_comm (Zm.mk m (h p)), CR.mul_comm (Zm.mk m (h (p + q)))]
   ac_rfl
 exact Go.Fg.sub_eq_zero.1 e2
end Go.Fg
namespace Go.Fg
open CR
namespace PS
variable {R : Type} [CR R]
def kQ (f : PS (PS R)) (n : Nat) (v : Nat → R) : PS (PS R) := ⟨fun i => ⟨fun j => if i + j = n then (f.c i).c j + v i else (f.c i).c j⟩⟩
theorem oU (f : PS (PS R)) (n : Nat) (v : Nat → R) (i j : Nat) : ((kQ f n v).c i).c j = if i + j = n then (f.c i).c j + v i else (f.c i).c j := rfl
theorem D8 (f : PS (PS R)) {n : Nat} (v : Nat → R) {i j : Nat} (h : i + j < n) : ((kQ f n v).c i).c j = (f.c i).c j := if_neg (by omega)
theorem Acr {f g : PS (PS R)} {n : Nat} (h : ∀ i j, i + j < n → (f.c i).c j = (g.c i).c j) : ∀ k p q, p + q < n → ((Go.Fg.pw f k).c p).c q = ((Go.Fg.pw g k).c p).c q := by
 intro k
 induction k with
 | zero => intro p q _; rfl
 | succ k ih =>
   intro p q hpq
   rw [bX, bX, bS, bS, sm_c, sm_c]
   refine aR (fun i hi => ?_)
   rw [bS, bS]
   exact aR (fun j hj => by rw [ih i j (by omega), h (p - i) (q - j) (by omega)])
theorem W2 {f g : PS (PS R)} {n N p q k : Nat} (hf : (f.c 0).c 0 = 0) (hg : (g.c 0).c 0 = 0) (h : ∀ i j, i + j < n → (f.c i).c j = (g.c i).c j) (hs : p + q + k < n) : gam f N p q k = gam g N p q k := by
 unfold gam
 refine congr (congrArg _ (aR (fun i _ => ?_))) (aR (fun j _ => ?_))
 · by_cases hi : i ≤ p + q
   · rw [h i k (by omega), Acr h i p q (by omega)]
   · rw [nF hf i p q (by omega), nF hg i p q (by omega), Go.Fg.mul_zero, Go.Fg.mul_zero]
 · by_cases hj : j ≤ q + k
   · rw [h p j (by omega), Acr h j q k (by omega)]
   · rw [nF hf j q k (by omega), nF hg j q k (by omega), Go.Fg.mul_zero, Go.Fg.mul_zero]
theorem Lw.top {f : PS (PS R)} {n : Nat} (L : Lw f n) (hn : 2 ≤ n) {v : Nat → R} (h0 : v 0 = 0) (hs : ∀ i, i ≤ n → v (n - i) = v i) : Lw (kQ f n v) n where
 pos := L.pos
 z0 := by rw [D8 f v (by omega), L.z0]
 z1 := by rw [D8 f v (by omega), L.z1]
 zz := fun i h1 h2 => by
   rw [oU]
   split
   · rename_i e
     rw [L.zz i h1 h2, CR.zero_add, ← hs i (by omega), show n - i = 0 by omega, h0]
   · exact L.zz i h1 h2
 sym := fun i j h => by
   rw [oU, oU, L.sym i j h]
   by_cases e : i + j = n
   · rw [if_pos e, if_pos (by omega), ← hs i (by omega), show n - i = j by omega]
   · rw [if_neg e, if_neg (by omega)]
 as := fun p q k h => by
   rw [W2 (g := f) (by rw [D8 f v (by omega), L.z0]) L.z0 (fun i j hij => D8 f v hij) h, L.as p q k h]
def Hm (n : Nat) (v : Nat → R) (x y : R) : R := sm (n + 1) fun i => v i * (Go.Fg.pw x i * Go.Fg.pw y (n - i))
theorem zH (f : PS (PS R)) (n : Nat) (v : Nat → R) {a b : PS R} (ha : a.c 0 = 0) (hb : b.c 0 = 0) : Ag (n + 1) (evT (n + 1) (kQ f n v) a b) (evT (n + 1) f a b + mono n (Hm n v (a.c 1) (b.c 1))) := by
 unfold Hm
 rw [xX]
 unfold evT
 rw [← eU]
 refine Ag.sm (fun i hi => ?_)
 have hs : (Go.Fg.sm (n + 1 - i) fun j => C ((f.c i).c j) * (Go.Fg.pw a i * Go.Fg.pw b j)) + mono n (v i * (Go.Fg.pw (a.c 1) i * Go.Fg.pw (b.c 1) (n - i)))
     = Go.Fg.sm (n + 1 - i) fun j => C ((f.c i).c j) * (Go.Fg.pw a i * Go.Fg.pw b j) + (if j = n - i then mono n (v i * (Go.Fg.pw (a.c 1) i * Go.Fg.pw (b.c 1) (n - i))) else 0) := by
   rw [eU, cE (f := fun j => if j = n - i then mono n (v i * (Go.Fg.pw (a.c 1) i * Go.Fg.pw (b.c 1) (n - i))) else 0) (n - i) (by omega) (fun j _ h => if_neg h), if_pos rfl]
 rw [hs]
 refine Ag.sm (fun j hj => ?_)
 rw [oU]
 by_cases e : j = n - i
 · rw [if_pos (by omega), if_pos e, ← kL, Go.Fg.add_mul]
   refine Ag.add Ag.rfl ?_
   have := Aal ha hb hb (n := n) (p := i) (q := j) (k := 0) (by omega) (v i)
   rw [Go.Fg.pw_zero, Go.Fg.pw_zero, Go.Fg.mul_one, Go.Fg.mul_one] at this
   rw [← e]; exact this
 · rw [if_neg (by omega), if_neg e, Go.Fg.add_zero]; exact Ag.rfl
theorem At4 {f : PS (PS R)} {n : Nat} (L : Lw f n) (hn : 2 ≤ n) {v : Nat → R} (h0 : v 0 = 0) (hs : ∀ i, i ≤ n → v (n - i) = v i) {x y z : PS R} (hx : x.c 0 = 0) (hy : y.c 0 = 0) (hz : z.c 0 = 0) :
   Gm n (gam (kQ f n v) (n + 1)) (x.c 1) (y.c 1) (z.c 1) + Hm n v (y.c 1) (z.c 1) + Hm n v (x.c 1) (y.c 1 + z.c 1)
     = Gm n (gam f (n + 1)) (x.c 1) (y.c 1) (z.c 1) + Hm n v (x.c 1) (y.c 1) + Hm n v (x.c 1 + y.c 1) (z.c 1) := by
 have L' := L.top hn h0 hs
 have hxy := eB (N := n + 1) L.z0 hx hy
 have hyz := eB (N := n + 1) L.z0 hy hz
 have hxy' := eB (N := n + 1) L'.z0 hx hy
 have hyz' := eB (N := n + 1) L'.z0 hy hz
 have A := gS (jV L hx hy hz)
 have A' := gS (jV L' hx hy hz)
 have l1 := gS (zH f n v hxy' hz)
 have l2 := gS ((fW (f := f) (fun i j _ => rfl) (zH f n v hx hy) (Ag.rfl (a := z))).trans (zM L.pos f L.z1 hxy hz _))
 have r1 := gS (zH f n v hx hyz')
 have r2 := gS ((fW (f := f) (fun i j _ => rfl) (Ag.rfl (a := x)) (zH f n v hy hz)).trans (Aeb L hx hyz _))
 rw [tW L' hx hy] at l1
 rw [tW L' hy hz] at r1
 rw [l1, l2, A, r1, r2] at A'
 refine add_left_cancel (a := (evT (n + 1) f x (evT (n + 1) f y z)).c n) ?_
 refine Eq.trans ?_ (A'.symm.trans ?_) <;> ac_rfl
theorem Z6 {n : Nat} (v : Nat → R) {X Y : PS R} {K p0 : Nat} {β : R} (h0 : p0 ≤ n) (h : ∀ p, p ≤ n → (Go.Fg.pw X p * Go.Fg.pw Y (n - p)).c K = if p = p0 then β else 0) : (Hm n (fun i => C (v i)) X Y).c K = v p0 * β := by
 unfold Hm
 rw [sm_c, cE p0 (by omega) (fun p hp hne => ?_), C_mul, h p0 h0, if_pos rfl]
 rw [C_mul, h p (by omega), if_neg hne, Go.Fg.mul_zero]
theorem Aet {n : Nat} (v : Nat → R) {X Y : PS R} {K : Nat} (h : ∀ p, p ≤ n → (Go.Fg.pw X p * Go.Fg.pw Y (n - p)).c K = 0) : (Hm n (fun i => C (v i)) X Y).c K = 0 := by
 unfold Hm
 rw [sm_c]
 exact cH (fun p hp => by rw [C_mul, h p (by omega), Go.Fg.mul_zero])
theorem Apv (f : PS (PS R)) (n : Nat) (v : Nat → R) : up (kQ f n v) = kQ (up f) n fun i => C (v i) := by
 refine PS.ext (fun i => PS.ext (fun j => ?_))
 rw [oF, oU, oU]
 split
 · rw [← kL]; rfl
 · rfl
theorem zO {f : PS (PS R)} {n : Nat} (L : Lw f n) : ∀ k q, q < n + 1 → ((Go.Fg.pw f k).c 0).c q = if q = k then 1 else 0 := by
 intro k
 induction k with
 | zero => intro q _; rw [pw_zero, one_c, if_pos rfl, one_c]
 | succ k ih =>
   intro q hq
   rw [bX, mul_c0, bS]
   have hf : ∀ j, j < n + 1 → (f.c 0).c j = if j = 1 then 1 else 0 := fun j hj => by
     rw [L.sym 0 j (by omega)]
     by_cases e : j = 1
     · rw [if_pos e, e, L.z1]
     · rw [if_neg e, L.zz j hj e]
   by_cases e : q = k + 1
   · rw [if_pos e, cE k (by omega) (fun i hi hne => ?_), ih k (by omega), if_pos rfl, hf _ (by omega), if_pos (by omega), CR.one_mul]
     rw [ih i (by omega), if_neg hne, Go.Fg.zero_mul]
   · rw [if_neg e]
     refine cH (fun i hi => ?_)
     by_cases e2 : i = k
     · rw [hf _ (by omega), if_neg (by omega), Go.Fg.mul_zero]
     · rw [ih i (by omega), if_neg e2, Go.Fg.zero_mul]
theorem xF {f : PS (PS R)} {n : Nat} (L : Lw f n) : ∀ k p, p < n + 1 → ((Go.Fg.pw f k).c p).c 0 = if p = k then 1 else 0 := by
 intro k
 induction k with
 | zero => intro p _; rw [pw_zero, one_c]; split <;> rfl
 | succ k ih =>
   intro p hp
   rw [bX, bS, sm_c]
   have hf : ∀ j, j < n + 1 → (f.c j).c 0 = if j = 1 then 1 else 0 := fun j hj => by
     by_cases e : j = 1
     · rw [if_pos e, e, L.z1]
     · rw [if_neg e, L.zz j hj e]
   by_cases e : p = k + 1
   · rw [if_pos e, cE k (by omega) (fun i hi hne => ?_), mul_c0, ih k (by omega), if_pos rfl, hf _ (by omega), if_pos (by omega), CR.one_mul]
     rw [mul_c0, ih i (by omega), if_neg hne, Go.Fg.zero_mul]
   · rw [if_neg e]
     refine cH (fun i hi => ?_)
     rw [mul_c0]
     by_cases e2 : i = k
     · rw [hf _ (by omega), if_neg (by omega), Go.Fg.mul_zero]
     · rw [ih i (by omega), if_neg e2, Go.Fg.zero_mul]
theorem Am4 {f : PS (PS R)} {n : Nat} (L : Lw f n) {p q k : Nat} (h : p + q + k < n + 1) (hz : p = 0 ∨ q = 0 ∨ k = 0) : gam f (n + 1) p q k = 0 := by
 have hrow : ∀ j, j < n + 1 → (f.c 0).c j = if j = 1 then 1 else 0 := fun j hj => by
   rw [L.sym 0 j (by omega)]
   by_cases e : j = 1
   · rw [if_pos e, e, L.z1]
   · rw [if_neg e, L.zz j hj e]
 have hcol : ∀ j, j < n + 1 → (f.c j).c 0 = if j = 1 then 1 else 0 := fun j hj => by
   by_cases e : j = 1
   · rw [if_pos e, e, L.z1]
   · rw [if_neg e, L.zz j hj e]
 have hn := L.pos
 unfold gam
 refine Go.Fg.sub_eq_zero.2 ?_
 rcases hz with rfl | rfl | rfl
 · rw [cE q (by omega) (fun i hi hne => by rw [zO L i q (by omega), if_neg (fun e => hne e.symm), Go.Fg.mul_zero]), zO L q q (by omega), if_pos rfl, Go.Fg.mul_one,
     cE 1 (by omega) (fun j hj hne => by rw [hrow j hj, if_neg hne, Go.Fg.zero_mul]), hrow 1 (by omega), if_pos rfl, CR.one_mul, Go.Fg.pw_one]
 · rw [cE p (by omega) (fun i hi hne => by rw [xF L i p (by omega), if_neg (fun e => hne e.symm), Go.Fg.mul_zero]), xF L p p (by omega), if_pos rfl, Go.Fg.mul_one,
     cE k (by omega) (fun j hj hne => by rw [zO L j k (by omega), if_neg (fun e => hne e.symm), Go.Fg.mul_zero]), zO L k k (by omega), if_pos rfl, Go.Fg.mul_one]
 · rw [cE 1 (by omega) (fun j hj hne => by rw [hcol j hj, if_neg hne, Go.Fg.zero_mul]), hcol 1 (by omega), if_pos rfl, CR.one_mul, Go.Fg.pw_one,
     cE q (by omega) (fun j hj hne => by rw [xF L j q (by omega), if_neg (fun e => hne e.symm), Go.Fg.mul_zero]), xF L q q (by omega), if_pos rfl, Go.Fg.mul_one]
end PS
variable {m : Int}
open PS
theorem Aep {f : PS (PS (Zm m))} {n : Nat} (L : Lw f n) (hn : 2 ≤ n ∧ n ≤ 10) {v : Nat → Zm m} (h0 : v 0 = 0) (hs : ∀ i, i ≤ n → v (n - i) = v i) {p q k : Nat} (hp : 1 ≤ p) (hk : 1 ≤ k) (h : p + q + k = n) :
   gam (kQ f n v) (n + 1) p q k + v p * Zm.mk m (aS (q + k) q : Nat) = gam f (n + 1) p q k + v (p + q) * Zm.mk m (aS (p + q) p : Nat) := by
 have e := congrArg (fun s => s.c (p + 11 * q + 121 * k)) (At4 (v := fun i => C (v i)) L.up hn.1 (by rw [h0]; exact C_zero) (fun i hi => by rw [hs i hi]) (jS (mono 1 1)) (jS (mono 11 1)) (jS (mono 121 1)))
 rw [← Apv] at e
 simp only [add_c, yN, xM] at e
 rw [lR (gam (kQ f n v) (n + 1)) (β := 1) h (fun p' q' k' h' => ?_), lR (gam f (n + 1)) (β := 1) h (fun p' q' k' h' => ?_), Go.Fg.mul_one, Go.Fg.mul_one,
   Aet v (fun p' h' => ?_), Go.Fg.add_zero, Z6 v (p0 := p) (β := Zm.mk m (aS (q + k) q : Nat)) (by omega) (fun p' h' => ?_), Aet v (fun p' h' => ?_), Go.Fg.add_zero,
   Z6 v (p0 := p + q) (β := Zm.mk m (aS (p + q) p : Nat)) (by omega) (fun p' h' => ?_)] at e
 · exact e
 · rw [uA, gY, vR 1 11 p' ((n - p') * 121) _ p (p' = p + q) (by omega) (fun x hx e => by have := uD (a := x) (b := p' - x) (c := n - p') (d := 0) (a' := p) (b' := q) (c' := k) (d' := 0) (by omega) (by omega) (by omega) (by omega) (by omega) (by omega) (by omega); omega)]
   split
   · rename_i e; rw [e]
   · rfl
 · rw [gY, gY, jH, bO, if_neg (by omega)]
 · rw [CR.mul_comm, uA, gY, vR 11 121 (n - p') (p' * 1) _ q (p' = p) (by omega) (fun x hx e => by have := uD (a := p') (b := x) (c := n - p' - x) (d := 0) (a' := p) (b' := q) (c' := k) (d' := 0) (by omega) (by omega) (by omega) (by omega) (by omega) (by omega) (by omega); omega)]
   split
   · rename_i e; rw [show n - p' = q + k by omega]
   · rfl
 · rw [gY, gY, jH, bO, if_neg (by omega)]
 · rw [nO, bO]
   by_cases e : p' = p ∧ q' = q ∧ k' = k
   · rw [if_pos e, if_pos (by omega)]
   · rw [if_neg e, if_neg (by omega)]
 · rw [nO, bO]
   by_cases e : p' = p ∧ q' = q ∧ k' = k
   · rw [if_pos e, if_pos (by omega)]
   · rw [if_neg e, if_neg (by omega)]
def iL (f : PS (PS (Zm m))) (n : Nat) (v : Nat → Zm m) : Prop :=
 (∀ i, i ≤ n → v (n - i) = v i) ∧ ∀ p q k, 1 ≤ p → 1 ≤ q → 1 ≤ k → p + q + k = n → gam f (n + 1) p q k + v (p + q) * Zm.mk m (aS (p + q) p : Nat) = v p * Zm.mk m (aS (q + k) q : Nat)
theorem Atr {f : PS (PS (Zm m))} {n : Nat} (L : Lw f n) (hn : 2 ≤ n ∧ n ≤ 10) : ∃ v : Nat → Zm m, v 0 = 0 ∧ iL f n v := by
 obtain ⟨v, h0, h1, h2⟩ := Arw L hn
 exact ⟨v, h0, h1, h2⟩
theorem Y0 {f : PS (PS (Zm m))} {n : Nat} (L : Lw f n) (hn : 2 ≤ n ∧ n ≤ 10) {v : Nat → Zm m} (h0 : v 0 = 0) (hs : ∀ i, i ≤ n → v (n - i) = v i) :
   (∀ p q k, p + q + k < n + 1 → gam (kQ f n v) (n + 1) p q k = 0) ↔ iL f n v := by
 have L' := L.top hn.1 h0 hs
 constructor
 · intro h
   refine ⟨hs, fun p q k hp hq hk e => ?_⟩
   have := Aep L hn h0 hs hp hk e
   rw [h p q k (by omega), CR.zero_add] at this
   exact this.symm
 · rintro ⟨-, h⟩ p q k e
   by_cases hz : p = 0 ∨ q = 0 ∨ k = 0
   · exact Am4 L' e hz
   · by_cases e2 : p + q + k < n
     · exact L'.as p q k e2
     · have := Aep L hn h0 hs (p := p) (q := q) (k := k) (by omega) (by omega) (by omega)
       rw [h p q k (by omega) (by omega) (by omega) (by omega)] at this
       exact At5 (this.trans (CR.zero_add _).symm)
end Go.Fg
namespace Go.Fg
def Agg : Nat → (Nat → Int) → Int
 | 0, _ => 0
 | n + 1, f => Agg n f + f n
def swp (a b i : Nat) : Nat := if i = a then b else if i = b then a else i
end Go.Fg
namespace Go.Fg
structure Elim (q : Int) (N u s : Nat) (M : Nat → Nat → Int) (o : Nat → Nat) : Prop where
 sN : s ≤ N
 su : s ≤ u
 piv : ∀ k, k < s → 0 < M k k ∧ M k k ∣ q
 dv : ∀ k j, k < s → k ≤ j → j < u → M k k ∣ M k j
 zr : ∀ i k, k < s → k < i → i < N → M i k = 0
 ol : ∀ k, k < u → o k < u
 inj : ∀ k j, k < u → j < u → o k = o j → k = j
section
variable {q : Int} {N u s : Nat} {M : Nat → Nat → Int} {o : Nat → Nat}
end
end Go.Fg
namespace Go.Fg
def tN (m : Int) (u : Nat) (r : List Int) (x : Nat → Int) : Prop := m ∣ Agg u (fun k => r.getD k 0 * x k) - r.getD u 0
def qL (m : Int) (u : Nat) (R : List (List Int)) (x : Nat → Int) : Prop := ∀ r ∈ R, tN m u r x
structure RowB (m : Int) (u j : Nat) (r : List Int) : Prop where
 len : r.length = u + 1
 rng : ∀ k, 0 ≤ r.getD k 0 ∧ r.getD k 0 < m
 zr : ∀ k, j ≤ k → k < u → r.getD k 0 = 0
def R3 (S : (Nat → Int) → Prop) (j : Nat) (x : Nat → Int) : Prop := ∃ y, (∀ i, i < j → y i = x i) ∧ S y
structure PivOk (m : Int) (u : Nat) (S : (Nat → Int) → Prop) (j : Nat) (R P : List (List Int)) : Prop where
 rb : ∀ r ∈ R, RowB m u j r
 pl : P.length = u
 lo : ∀ k, k < j → P.getD k [] = []
 pb : ∀ k, j ≤ k → k < u → P.getD k [] ≠ [] → RowB m u (k + 1) (P.getD k [])
 ex : ∀ x, qL m u R x ↔ R3 S j x
 a : ∀ k, j ≤ k → k < u → P.getD k [] ≠ [] → ∀ x, S x → tN m u (P.getD k []) x
 b : ∀ k, j ≤ k → k < u → ∀ x, R3 S k x → (P.getD k [] ≠ [] → tN m u (P.getD k []) x) → R3 S (k + 1) x
section
variable {m : Int} {u j : Nat} {S : (Nat → Int) → Prop} {R P : List (List Int)}
structure EucI (m : Int) (u j : Nat) (R : List (List Int)) (i : Nat) (rest : List (List Int)) (piv : List Int) : Prop where
 rb : ∀ r ∈ rest, RowB m u j r
 pb : piv ≠ [] → RowB m u (j + 1) piv ∧ piv.getD j 0 ≠ 0
 iff : ∀ x, qL m u R x ↔ qL m u rest x ∧ (piv ≠ [] → tN m u piv x) ∧ qL m u (R.drop i) x
structure EucR (m : Int) (u j : Nat) (R : List (List Int)) (i : Nat) (rest : List (List Int)) (piv row : List Int) : Prop where
 rb : ∀ r ∈ rest, RowB m u j r
 pb : piv ≠ [] → RowB m u (j + 1) piv ∧ piv.getD j 0 ≠ 0
 ob : RowB m u (j + 1) row
 iff : ∀ x, qL m u R x ↔ qL m u rest x ∧ (piv ≠ [] → tN m u piv x) ∧ tN m u row x ∧ qL m u (R.drop i) x
def Af5 (m : Int) (a b : List Int) (k : Int) : List Int := (List.range a.length).map fun i => (a.getD i 0 - k * b.getD i 0) % m
@[simp] theorem Ax0 (m : Int) (a b : List Int) (k : Int) : (Af5 m a b k).length = a.length := by simp [Af5]
section
variable {i : Nat} {rest : List (List Int)} {piv row : List Int}
end
end
end Go.Fg
namespace Go.Fg
open CR PS
variable {m : Int}
def Akn (n : Nat) (v w : Nat → Zm m) : Prop := (∀ k, k < n → v k = w k) ∨ ∃ k, k < n ∧ (∀ i, i < k → v i = w i) ∧ (v k).val < (w k).val
structure First (f : PS (PS (Zm m))) (n : Nat) (v : Nat → Zm m) : Prop where
 z : v 0 = 0
 eq : iL f n v
 le : ∀ w, w 0 = 0 → iL f n w → Akn (n + 1) v w
theorem xJ {x : Int} : Zm.mk m x = 0 ↔ m ∣ x := ⟨fun h => Int.dvd_of_emod_eq_zero (Zm.mk_eq_zero.1 h), fun h => Zm.mk_eq_zero.2 (Int.emod_eq_zero_of_dvd h)⟩
theorem R4 {x y : Int} : Zm.mk m x = Zm.mk m y ↔ m ∣ x - y := by
 rw [← xJ, Zm.mk_sub, Go.Fg.sub_eq_zero]
def tE (m : Int) (n : Nat) (x : Nat → Int) (i : Nat) : Zm m := if 0 < i ∧ i < n then Zm.mk m (x (i - 1)) else 0
def EqI (f : PS (PS (Zm m))) (n : Nat) (x : Nat → Int) : Prop :=
 (∀ k, 1 ≤ k → 2 * k < n → m ∣ x (k - 1) - x (n - k - 1)) ∧ ∀ a b c, 1 ≤ a → 1 ≤ b → 1 ≤ c → a + b + c = n → m ∣ x (a + b - 1) * (aS (a + b) a : Nat) - x (a - 1) * (aS (b + c) b : Nat) + (gam f (n + 1) a b c).val
theorem Ax3 (f : PS (PS (Zm m))) (n : Nat) (x : Nat → Int) : EqI f n x ↔ iL f n (tE m n x) := by
 have key : ∀ a b c, 1 ≤ a → 1 ≤ b → 1 ≤ c → a + b + c = n → (m ∣ x (a + b - 1) * (aS (a + b) a : Nat) - x (a - 1) * (aS (b + c) b : Nat) + (gam f (n + 1) a b c).val ↔
     gam f (n + 1) a b c + tE m n x (a + b) * Zm.mk m (aS (a + b) a : Nat) = tE m n x a * Zm.mk m (aS (b + c) b : Nat)) := by
   intro a b c ha hb hc h
   unfold tE
   rw [if_pos (by omega), if_pos (by omega), ← xJ, Zm.mk_add, Zm.mk_sub, Zm.mk_mul, Zm.mk_mul, Zm.mk_val]
   rw [show Zm.mk m (x (a + b - 1)) * Zm.mk m (aS (a + b) a : Nat) - Zm.mk m (x (a - 1)) * Zm.mk m (aS (b + c) b : Nat) + gam f (n + 1) a b c = (gam f (n + 1) a b c + Zm.mk m (x (a + b - 1)) * Zm.mk m (aS (a + b) a : Nat)) - Zm.mk m (x (a - 1)) * Zm.mk m (aS (b + c) b : Nat) by
     rw [Go.Fg.sub_def, Go.Fg.sub_def]; ac_rfl]
   exact Go.Fg.sub_eq_zero
 constructor
 · rintro ⟨h1, h2⟩
   refine ⟨fun i hi => ?_, fun a b c ha hb hc h => (key a b c ha hb hc h).1 (h2 a b c ha hb hc h)⟩
   unfold tE
   by_cases e : 0 < i ∧ i < n
   · rw [if_pos e, if_pos (by omega)]
     rcases Nat.lt_trichotomy (2 * i) n with h | h | h
     · exact (R4.2 (h1 i (by omega) h)).symm
     · rw [show n - i = i by omega]
     · have := R4.2 (h1 (n - i) (by omega) (by omega))
       rw [show n - (n - i) - 1 = i - 1 by omega] at this
       exact this
   · rw [if_neg e, if_neg (by omega)]
 · rintro ⟨h1, h2⟩
   refine ⟨fun k hk h => ?_, fun a b c ha hb hc h => (key a b c ha hb hc h).2 (h2 a b c ha hb hc h)⟩
   have := h1 k (by omega)
   unfold tE at this
   rw [if_pos (by omega), if_pos (by omega)] at this
   exact R4.1 this.symm
def ckL (n : Nat) : Bool := (List.range n).all fun a => (List.range n).all fun b => (a == 0 || b == 0 || Nat.ble n (a + b)) || (aS (a + b) a * dE n (a + b) == aS (n - a) b * dE n a)
theorem Asz {n : Nat} (hn : 2 ≤ n ∧ n ≤ 10) : ckL n = true := by
 rcases (show n = 2 ∨ n = 3 ∨ n = 4 ∨ n = 5 ∨ n = 6 ∨ n = 7 ∨ n = 8 ∨ n = 9 ∨ n = 10 by omega) with rfl | rfl | rfl | rfl | rfl | rfl | rfl | rfl | rfl <;> decide +kernel
theorem Asp {n : Nat} (hn : 2 ≤ n ∧ n ≤ 10) {a b : Nat} (ha : 1 ≤ a) (hb : 1 ≤ b) (h : a + b < n) : aS (a + b) a * dE n (a + b) = aS (n - a) b * dE n a := by
 have h1 := List.all_eq_true.1 (List.all_eq_true.1 (Asz hn) a (List.mem_range.2 (by omega))) b (List.mem_range.2 (by omega))
 simp only [Bool.or_eq_true, beq_iff_eq, Nat.ble_eq] at h1
 rcases h1 with h1 | h1
 · omega
 · exact h1
theorem Ajk {n i : Nat} (hi : i ≤ n) : dE n (n - i) = dE n i := by
 unfold dE
 by_cases e : 0 < i ∧ i < n
 · rw [if_pos e, if_pos (by omega), yS n i hi]
 · rw [if_neg e, if_neg (by omega)]
def pT (m : Int) (n : Nat) (c : Zm m) (i : Nat) : Zm m := c * Zm.mk m (dE n i : Nat)
theorem iL.laz {f : PS (PS (Zm m))} {n : Nat} (hn : 2 ≤ n ∧ n ≤ 10) {v : Nat → Zm m} (h : iL f n v) (c : Zm m) : iL f n (fun i => v i + pT m n c i) := by
 refine ⟨fun i hi => ?_, fun p q k hp hq hk e => ?_⟩
 · show v (n - i) + c * Zm.mk m (dE n (n - i) : Nat) = v i + c * Zm.mk m (dE n i : Nat)
   rw [h.1 i hi, Ajk hi]
 · have h1 := h.2 p q k hp hq hk e
   have h2 := Asp hn hp hq (show p + q < n by omega)
   rw [show n - p = q + k by omega] at h2
   have h3 := congrArg (fun t : Nat => Zm.mk m (t : Int)) h2
   simp only [Int.natCast_mul, Zm.mk_mul] at h3
   show gam f (n + 1) p q k + (v (p + q) + c * Zm.mk m (dE n (p + q) : Nat)) * Zm.mk m (aS (p + q) p : Nat) = (v p + c * Zm.mk m (dE n p : Nat)) * Zm.mk m (aS (q + k) q : Nat)
   rw [Go.Fg.add_mul, Go.Fg.add_mul, ← h1, show c * Zm.mk m (dE n (p + q) : Nat) * Zm.mk m (aS (p + q) p : Nat) = c * (Zm.mk m (aS (p + q) p : Nat) * Zm.mk m (dE n (p + q) : Nat)) by ac_rfl, h3]
   ac_rfl
theorem Akm {f : PS (PS (Zm m))} {n : Nat} (hm : 0 < m) (hn : 2 ≤ n ∧ n ≤ 10) {v w : Nat → Zm m} (hv0 : v 0 = 0) (hw0 : w 0 = 0) (hv : iL f n v) (hw : iL f n w) :
   ∃ c : Nat, c < m.toNat ∧ ∀ i, i ≤ n → w i = v i + pT m n (Zm.mk m c) i := by
 obtain ⟨t, ht⟩ := Auv (m := m) hn (fun i => (w i).val - (v i).val) (fun i h1 h2 => by
     show (w i).val - (v i).val = (w (n - i)).val - (v (n - i)).val
     rw [hv.1 i (by omega), hw.1 i (by omega)]) (fun a b ha hb hab => by
     have e1 := hv.2 a b (n - a - b) ha hb (by omega) (by omega)
     have e2 := hw.2 a b (n - a - b) ha hb (by omega) (by omega)
     rw [show b + (n - a - b) = n - a by omega] at e1 e2
     refine xJ.1 ?_
     simp only [Zm.mk_sub, Zm.mk_mul, Zm.mk_val]
     have e3 : w (a + b) * Zm.mk m (aS (a + b) a : Nat) - v (a + b) * Zm.mk m (aS (a + b) a : Nat) = w a * Zm.mk m (aS (n - a) b : Nat) - v a * Zm.mk m (aS (n - a) b : Nat) := by
       rw [← e1, ← e2, Go.Fg.sub_def, Go.Fg.sub_def, Go.Fg.neg_add_rev]
       rw [show gam f (n + 1) a b (n - a - b) + w (a + b) * Zm.mk m (aS (a + b) a : Nat) + (-gam f (n + 1) a b (n - a - b) + -(v (a + b) * Zm.mk m (aS (a + b) a : Nat))) = (gam f (n + 1) a b (n - a - b) + -gam f (n + 1) a b (n - a - b)) + (w (a + b) * Zm.mk m (aS (a + b) a : Nat) + -(v (a + b) * Zm.mk m (aS (a + b) a : Nat))) by ac_rfl, Go.Fg.add_neg, CR.zero_add]
     rw [CR.mul_comm, Go.Fg.sub_mul, e3, ← Go.Fg.sub_mul, CR.mul_comm]
     exact Go.Fg.sub_self _)
 refine ⟨(t % m).toNat, ?_, fun i hi => ?_⟩
 · have h1 := Int.emod_nonneg t (show m ≠ 0 by omega)
   have h2 := Int.emod_lt_of_pos t hm
   omega
 · have h1 := Int.emod_nonneg t (show m ≠ 0 by omega)
   show w i = v i + Zm.mk m ((t % m).toNat : Int) * Zm.mk m (dE n i : Nat)
   rw [Int.toNat_of_nonneg h1, Zm.mk_mod]
   by_cases e : 1 ≤ i ∧ i < n
   · have h3 := xJ.2 (ht i e.1 e.2)
     simp only [Zm.mk_sub, Zm.mk_mul, Zm.mk_val] at h3
     have h4 := Go.Fg.sub_eq_zero.1 h3
     have h5 : w i = w i - v i + v i := (Go.Fg.sub_add_cancel _ _).symm
     rw [h5, h4]
     ac_rfl
   · have hl : dE n i = 0 := by unfold dE; rw [if_neg (by omega)]
     have hvn : v n = 0 := by have := hv.1 0 (by omega); rw [Nat.sub_zero] at this; rw [this, hv0]
     have hwn : w n = 0 := by have := hw.1 0 (by omega); rw [Nat.sub_zero] at this; rw [this, hw0]
     rw [hl]
     show w i = v i + Zm.mk m t * 0
     rw [Go.Fg.mul_zero, Go.Fg.add_zero]
     rcases (show i = 0 ∨ i = n by omega) with h | h
     · rw [h, hv0, hw0]
     · rw [h, hvn, hwn]
def mN (f : PS (PS (Zm m))) (n : Nat) : PS (PS (Zm m)) := ⟨fun i => ⟨fun j => if i + j < n then (f.c i).c j else 0⟩⟩
theorem pB (f : PS (PS (Zm m))) (n i j : Nat) : ((mN f n).c i).c j = if i + j < n then (f.c i).c j else 0 := rfl
end Go.Fg
