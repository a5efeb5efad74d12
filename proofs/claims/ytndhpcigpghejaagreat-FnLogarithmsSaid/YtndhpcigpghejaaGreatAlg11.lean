import Derived.Test.YtndhpcigpghejaaGreatAlg10
import Derived.Test.YtndhpcigpghejaaGreatAlg8
set_option linter.unusedVariables false
set_option linter.unusedSimpArgs false
set_option linter.unusedSectionVars false
namespace Go.Fg
open CR
namespace PS
variable {R : Type} [CR R]
def E (N : Nat) (g : PS (PS R)) (x : PS R) : PS R := sm N fun i => g.c i * pw x i
theorem Ag.sm_drop {N n k : Nat} {f : Nat → PS R} (hk : n ≤ k) (h : ∀ i, n ≤ i → i < k → Ag N (f i) 0) : Ag N (Go.Fg.sm k f) (Go.Fg.sm n f) := fun i hi => by
 rw [sm_c, sm_c]
 exact sm_ext hk (fun j h1 h2 => h j h1 h2 i hi)
theorem Ag.low_pw {N : Nat} {x : PS R} (hx : x.c 0 = 0) {k : Nat} (h : N ≤ k) (y : PS R) : Ag N (y * Go.Fg.pw x k) 0 := fun i hi => by
 rw [mul_c]
 exact sm_zero (fun j hj => by rw [pw_low hx k (i - j) (by omega), Go.Fg.mul_zero])
theorem E_mul {N : Nat} (g h : PS (PS R)) {x : PS R} (hx : x.c 0 = 0) : Ag N (E N (g * h) x) (E N g x * E N h x) := by
 cases N with
 | zero => exact fun i hi => absurd hi (by omega)
 | succ N =>
 have e1 : E (N + 1) (g * h) x = sm (N + 1) fun j => sm (N - j + 1) fun k => g.c j * h.c k * pw x (j + k) := by
   rw [← sm_tri N (fun j k => g.c j * h.c k * pw x (j + k))]
   refine sm_congr (fun i hi => ?_)
   rw [mul_c, sm_mul_right]
   exact sm_congr (fun j hj => by rw [show j + (i - j) = i by omega])
 have e2 : E (N + 1) g x * E (N + 1) h x = sm (N + 1) fun j => sm (N + 1) fun k => g.c j * h.c k * pw x (j + k) := by
   unfold E
   rw [sm_mul_right]
   refine sm_congr (fun j hj => ?_)
   rw [sm_mul]
   exact sm_congr (fun k hk => by rw [pw_add]; ac_rfl)
 rw [e1, e2]
 refine Ag.sm (fun j hj => Ag.symm ?_)
 exact Ag.sm_drop (by omega) (fun k h1 h2 => Ag.low_pw hx (by omega) _)
theorem E_add (N : Nat) (g h : PS (PS R)) (x : PS R) : E N (g + h) x = E N g x + E N h x := by
 unfold E
 rw [← sm_add]
 exact sm_congr (fun i _ => by rw [add_c, Go.Fg.add_mul])
theorem E_zero (N : Nat) (x : PS R) : E N 0 x = 0 := sm_zero (fun i _ => by rw [zero_c, Go.Fg.zero_mul])
theorem E_sm (N k : Nat) (g : Nat → PS (PS R)) (x : PS R) : E N (sm k g) x = sm k fun i => E N (g i) x := by
 induction k with
 | zero => exact E_zero N x
 | succ k ih => rw [sm_succ, E_add, ih, sm_succ]
theorem E_congr {N : Nat} {g h : PS (PS R)} {x y : PS R} (h1 : ∀ i, i < N → Ag N (g.c i) (h.c i)) (h2 : Ag N x y) : Ag N (E N g x) (E N h y) :=
 Ag.sm (fun i hi => (h1 i hi).mul (h2.pw i))
theorem E_one {N : Nat} (hN : 1 ≤ N) (x : PS R) : E N 1 x = 1 := by
 unfold E
 rw [sm_one 0 (by omega) (fun i _ hne => by rw [one_c, if_neg hne, Go.Fg.zero_mul]), one_c, if_pos rfl, pw_zero, CR.one_mul]
theorem axX_add (u v : PS R) : axX (u + v) = axX u + axX v := by
 refine PS.ext (fun i => ?_)
 show C (u.c i + v.c i) = C (u.c i) + C (v.c i)
 rw [C_add_C]
theorem axX_sm (k : Nat) (u : Nat → PS R) : axX (sm k u) = sm k fun i => axX (u i) := by
 induction k with
 | zero => exact axX_zero
 | succ k ih => rw [sm_succ, axX_add, ih, sm_succ]
theorem C_sm (k : Nat) (u : Nat → R) : C (sm k u) = sm k fun i => C (u i) := by
 induction k with
 | zero => exact C_zero
 | succ k ih => rw [sm_succ, ← C_add_C, ih, sm_succ]
theorem axX_mul (u v : PS R) : axX (u * v) = axX u * axX v := by
 refine PS.ext (fun i => ?_)
 show C ((u * v).c i) = (axX u * axX v).c i
 rw [mul_c, mul_c, C_sm]
 exact sm_congr (fun j _ => by show C (_ * _) = C _ * C _; rw [C_mul_C])
theorem axX_one : axX (1 : PS R) = 1 := by
 refine PS.ext (fun i => ?_)
 show C ((1 : PS R).c i) = (1 : PS (PS R)).c i
 rw [one_c, one_c]
 split
 · rfl
 · exact C_zero
def e2 (N : Nat) (b : PS R) (g : PS (PS R)) : PS (PS R) := ⟨fun i => E N (axX (g.c i)) b⟩
def ev (N : Nat) (a b : PS R) (g : PS (PS R)) : PS R := E N (e2 N b g) a
theorem ev_mul {N : Nat} (g h : PS (PS R)) {a b : PS R} (ha : a.c 0 = 0) (hb : b.c 0 = 0) : Ag N (ev N a b (g * h)) (ev N a b g * ev N a b h) := by
 refine Ag.trans (E_congr (fun i _ => ?_) Ag.rfl) (E_mul (e2 N b g) (e2 N b h) ha)
 show Ag N (E N (axX ((g * h).c i)) b) ((e2 N b g * e2 N b h).c i)
 rw [mul_c, mul_c, axX_sm, E_sm]
 refine Ag.sm (fun j hj => ?_)
 rw [axX_mul]
 exact E_mul _ _ hb
theorem ev_one {N : Nat} (hN : 1 ≤ N) (a b : PS R) : ev N a b 1 = 1 := by
 unfold ev
 rw [show e2 N b (1 : PS (PS R)) = 1 from PS.ext (fun i => by
   show E N (axX ((1 : PS (PS R)).c i)) b = (1 : PS (PS R)).c i
   rw [one_c]
   split
   · rw [axX_one, E_one hN]
   · rw [axX_zero, E_zero]), E_one hN]
theorem ev_pw {N : Nat} (hN : 1 ≤ N) (g : PS (PS R)) {a b : PS R} (ha : a.c 0 = 0) (hb : b.c 0 = 0) (k : Nat) : Ag N (ev N a b (pw g k)) (pw (ev N a b g) k) := by
 induction k with
 | zero => exact Ag.of_eq (ev_one hN a b)
 | succ k ih => exact (ev_mul _ _ ha hb).trans (ih.mul Ag.rfl)
theorem ev_eq (N : Nat) (a b : PS R) (g : PS (PS R)) : ev N a b g = sm N fun i => sm N fun j => C ((g.c i).c j) * (pw a i * pw b j) := by
 refine sm_congr (fun i _ => ?_)
 show E N (axX (g.c i)) b * pw a i = _
 unfold E
 rw [sm_mul_right]
 refine sm_congr (fun j _ => ?_)
 show C ((g.c i).c j) * pw b j * pw a i = _
 ac_rfl
theorem Ag.low2 {N i j : Nat} {a b : PS R} (ha : a.c 0 = 0) (hb : b.c 0 = 0) (h : N ≤ i + j) (y : PS R) : Ag N (y * (Go.Fg.pw a i * Go.Fg.pw b j)) 0 := by
 have h0 : Ag N (Go.Fg.pw a i * Go.Fg.pw b j) 0 := fun n hn => by
   rw [mul_c]
   refine sm_zero (fun k hk => ?_)
   by_cases h1 : k < i
   · rw [pw_low ha i k h1, Go.Fg.zero_mul]
   · rw [pw_low hb j (n - k) (by omega), Go.Fg.mul_zero]
 exact (Ag.rfl.mul h0).trans (Ag.of_eq (Go.Fg.mul_zero y))
theorem pw_low2 {f : PS (PS R)} (h0 : (f.c 0).c 0 = 0) : ∀ (k i j : Nat), i + j < k → ((pw f k).c i).c j = 0 := by
 intro k
 induction k with
 | zero => intro i j h; omega
 | succ k ih =>
   intro i j h
   rw [pw_succ, mul_c, sm_c]
   refine sm_zero (fun p hp => ?_)
   rw [mul_c]
   refine sm_zero (fun q hq => ?_)
   by_cases e : p + q < k
   · rw [ih p q e, Go.Fg.zero_mul]
   · rw [show i - p = 0 by omega, show j - q = 0 by omega, h0, Go.Fg.mul_zero]
def evT (N : Nat) (f : PS (PS R)) (a b : PS R) : PS R := sm N fun i => sm (N - i) fun j => C ((f.c i).c j) * (pw a i * pw b j)
theorem evT_ev {N : Nat} (f : PS (PS R)) {a b : PS R} (ha : a.c 0 = 0) (hb : b.c 0 = 0) : Ag N (evT N f a b) (ev N a b f) := by
 rw [ev_eq]
 exact Ag.sm (fun i hi => Ag.symm (Ag.sm_drop (by omega) (fun j h1 h2 => Ag.low2 ha hb (by omega) _)))
theorem evT_congr {N : Nat} {f g : PS (PS R)} {a b a' b' : PS R} (hf : ∀ i j, i + j < N → (f.c i).c j = (g.c i).c j) (h : Ag N a a') (h2 : Ag N b b') : Ag N (evT N f a b) (evT N g a' b') :=
 Ag.sm (fun i hi => Ag.sm (fun j hj => by rw [hf i j (by omega)]; exact Ag.rfl.mul ((h.pw i).mul (h2.pw j))))
theorem evT_0 {N : Nat} {f : PS (PS R)} {a b : PS R} (hf : (f.c 0).c 0 = 0) (ha : a.c 0 = 0) (hb : b.c 0 = 0) : (evT N f a b).c 0 = 0 := by
 unfold evT
 rw [sm_c]
 refine sm_zero (fun i _ => ?_)
 rw [sm_c]
 refine sm_zero (fun j _ => ?_)
 rw [C_mul, mul_c0]
 cases i with
 | succ i => rw [pw_low ha (i + 1) 0 (by omega), Go.Fg.zero_mul, Go.Fg.mul_zero]
 | zero => cases j with
   | succ j => rw [pw_low hb (j + 1) 0 (by omega), Go.Fg.mul_zero, Go.Fg.mul_zero]
   | zero => rw [hf, Go.Fg.zero_mul]
theorem evT_left {N : Nat} (hN : 1 ≤ N) (f : PS (PS R)) {a b c : PS R} (hf : (f.c 0).c 0 = 0) (ha : a.c 0 = 0) (hb : b.c 0 = 0) (hc : c.c 0 = 0) :
   Ag N (evT N f (evT N f a b) c) (sm N fun p => sm N fun q => sm N fun k => C (sm N fun i => (f.c i).c k * ((pw f i).c p).c q) * (pw a p * (pw b q * pw c k))) := by
 refine (evT_ev f (evT_0 hf ha hb) hc).trans ?_
 rw [ev_eq]
 have h1 : Ag N (sm N fun i => sm N fun k => C ((f.c i).c k) * (pw (evT N f a b) i * pw c k))
     (sm N fun i => sm N fun k => sm N fun p => sm N fun q => C ((f.c i).c k * ((pw f i).c p).c q) * (pw a p * (pw b q * pw c k))) := by
   refine Ag.sm (fun i hi => Ag.sm (fun k hk => ?_))
   refine Ag.trans (Ag.rfl.mul (((((evT_ev f ha hb).pw i).trans (ev_pw hN f ha hb i).symm)).mul Ag.rfl)) (Ag.of_eq ?_)
   rw [ev_eq, sm_mul_right, sm_mul]
   refine sm_congr (fun p _ => ?_)
   rw [sm_mul_right, sm_mul]
   refine sm_congr (fun q _ => ?_)
   rw [← C_mul_C]
   ac_rfl
 refine h1.trans (Ag.of_eq ?_)
 rw [sm_congr (fun i _ => sm_swap N N _), sm_swap N N]
 refine sm_congr (fun p _ => ?_)
 rw [sm_congr (fun i _ => sm_congr (fun k _ => rfl)), sm_congr (fun i _ => sm_swap N N _), sm_swap N N]
 refine sm_congr (fun q _ => ?_)
 rw [sm_swap N N]
 refine sm_congr (fun k _ => ?_)
 rw [C_sm, sm_mul_right]
theorem evT_right {N : Nat} (hN : 1 ≤ N) (f : PS (PS R)) {a b c : PS R} (hf : (f.c 0).c 0 = 0) (ha : a.c 0 = 0) (hb : b.c 0 = 0) (hc : c.c 0 = 0) :
   Ag N (evT N f a (evT N f b c)) (sm N fun p => sm N fun q => sm N fun k => C (sm N fun j => (f.c p).c j * ((pw f j).c q).c k) * (pw a p * (pw b q * pw c k))) := by
 refine (evT_ev f ha (evT_0 hf hb hc)).trans ?_
 rw [ev_eq]
 refine Ag.sm (fun p hp => ?_)
 have h1 : Ag N (sm N fun j => C ((f.c p).c j) * (pw a p * pw (evT N f b c) j))
     (sm N fun j => sm N fun q => sm N fun k => C ((f.c p).c j * ((pw f j).c q).c k) * (pw a p * (pw b q * pw c k))) := by
   refine Ag.sm (fun j hj => ?_)
   refine Ag.trans (Ag.rfl.mul (Ag.rfl.mul ((((evT_ev f hb hc).pw j).trans (ev_pw hN f hb hc j).symm)))) (Ag.of_eq ?_)
   rw [ev_eq, sm_mul, sm_mul]
   refine sm_congr (fun q _ => ?_)
   rw [sm_mul, sm_mul]
   refine sm_congr (fun k _ => ?_)
   rw [← C_mul_C]
   ac_rfl
 refine h1.trans (Ag.of_eq ?_)
 rw [sm_swap N N]
 refine sm_congr (fun q _ => ?_)
 rw [sm_swap N N]
 refine sm_congr (fun k _ => ?_)
 rw [C_sm, sm_mul_right]
theorem Ag.low3 {N p q k : Nat} {a b c : PS R} (ha : a.c 0 = 0) (hb : b.c 0 = 0) (hc : c.c 0 = 0) (h : N ≤ p + q + k) (y : PS R) : Ag N (y * (Go.Fg.pw a p * (Go.Fg.pw b q * Go.Fg.pw c k))) 0 := by
 have h0 : Ag N (Go.Fg.pw a p * (Go.Fg.pw b q * Go.Fg.pw c k)) 0 := fun n hn => by
   rw [mul_c]
   refine sm_zero (fun i hi => ?_)
   by_cases h1 : i < p
   · rw [pw_low ha p i h1, Go.Fg.zero_mul]
   · have := Ag.low2 (N := n - i + 1) hb hc (i := q) (j := k) (by omega) (1 : PS R) (n - i) (by omega)
     rw [CR.one_mul] at this
     rw [this, zero_c, Go.Fg.mul_zero]
 exact (Ag.rfl.mul h0).trans (Ag.of_eq (Go.Fg.mul_zero y))
theorem evT_assoc {N : Nat} (hN : 1 ≤ N) (f : PS (PS R)) {a b c : PS R} (hf : (f.c 0).c 0 = 0) (ha : a.c 0 = 0) (hb : b.c 0 = 0) (hc : c.c 0 = 0)
   (h : ∀ p q k, p + q + k < N → sm (N - k) (fun i => (f.c i).c k * ((pw f i).c p).c q) = sm (N - p) (fun j => (f.c p).c j * ((pw f j).c q).c k)) :
   Ag N (evT N f (evT N f a b) c) (evT N f a (evT N f b c)) := by
 refine (evT_left hN f hf ha hb hc).trans (Ag.trans ?_ (evT_right hN f hf ha hb hc).symm)
 refine Ag.sm (fun p hp => Ag.sm (fun q hq => Ag.sm (fun k hk => ?_)))
 by_cases hs : p + q + k < N
 · refine Ag.of_eq (congrArg (fun z => C z * (pw a p * (pw b q * pw c k))) ?_)
   have x1 : sm N (fun i => (f.c i).c k * ((pw f i).c p).c q) = sm (N - k) (fun i => (f.c i).c k * ((pw f i).c p).c q) :=
     sm_ext (by omega) (fun i h1 h2 => by rw [pw_low2 hf i p q (by omega), Go.Fg.mul_zero])
   have x2 : sm N (fun j => (f.c p).c j * ((pw f j).c q).c k) = sm (N - p) (fun j => (f.c p).c j * ((pw f j).c q).c k) :=
     sm_ext (by omega) (fun j h1 h2 => by rw [pw_low2 hf j q k (by omega), Go.Fg.mul_zero])
   rw [x1, x2]
   exact h p q k hs
 · exact (Ag.low3 ha hb hc (by omega) _).trans (Ag.low3 ha hb hc (by omega) _).symm
theorem evT_comm {N : Nat} (f : PS (PS R)) {a b : PS R} (ha : a.c 0 = 0) (hb : b.c 0 = 0) (h : ∀ i j, i + j < N → (f.c i).c j = (f.c j).c i) : Ag N (evT N f a b) (evT N f b a) := by
 refine (evT_ev f ha hb).trans (Ag.trans ?_ (evT_ev f hb ha).symm)
 rw [ev_eq, ev_eq, sm_swap N N]
 refine Ag.sm (fun j hj => Ag.sm (fun i hi => ?_))
 by_cases hs : i + j < N
 · rw [h i j hs, CR.mul_comm (pw a i)]
   exact Ag.rfl
 · exact (Ag.low2 ha hb (by omega) _).trans (Ag.low2 hb ha (by omega) _).symm
end PS
end Go.Fg
set_option linter.unusedVariables false
set_option linter.unusedSimpArgs false
set_option linter.unusedSectionVars false
namespace Go.Fg
open CR
namespace PS
variable {R : Type} [CR R]
theorem mono_sm (n k : Nat) (f : Nat → R) : mono n (sm k f) = sm k fun i => mono n (f i) := by
 ext i
 rw [mono_c, sm_c]
 by_cases h : i = n
 · rw [if_pos h]; exact sm_congr (fun j _ => by rw [mono_c, if_pos h])
 · rw [if_neg h]; exact (sm_zero (fun j _ => by rw [mono_c, if_neg h])).symm
theorem pw_lead {a : PS R} (ha : a.c 0 = 0) : ∀ p : Nat, (Go.Fg.pw a p).c p = Go.Fg.pw (a.c 1) p
 | 0 => by rw [pw_zero, pw_zero]; rfl
 | p + 1 => by
   rw [pw_succ, mul_c, pw_succ, ← pw_lead ha p]
   rw [sm_one p (by omega) (fun i hi hne => ?_), show p + 1 - p = 1 by omega]
   by_cases h : i < p
   · rw [pw_low ha p i h, Go.Fg.zero_mul]
   · rw [show p + 1 - i = 0 by omega, ha, Go.Fg.mul_zero]
theorem mul_lead {u v : PS R} {p q : Nat} (hu : ∀ i, i < p → u.c i = 0) (hv : ∀ i, i < q → v.c i = 0) : (∀ i, i < p + q → (u * v).c i = 0) ∧ (u * v).c (p + q) = u.c p * v.c q := by
 constructor
 · intro i hi
   rw [mul_c]
   refine sm_zero (fun j hj => ?_)
   by_cases h : j < p
   · rw [hu j h, Go.Fg.zero_mul]
   · rw [hv (i - j) (by omega), Go.Fg.mul_zero]
 · rw [mul_c, sm_one p (by omega) (fun j hj hne => ?_), show p + q - p = q by omega]
   by_cases h : j < p
   · rw [hu j h, Go.Fg.zero_mul]
   · rw [hv (p + q - j) (by omega), Go.Fg.mul_zero]
theorem prod3_lead {a b c : PS R} (ha : a.c 0 = 0) (hb : b.c 0 = 0) (hc : c.c 0 = 0) {n p q k : Nat} (h : p + q + k = n) (g : R) :
   Ag (n + 1) (C g * (Go.Fg.pw a p * (Go.Fg.pw b q * Go.Fg.pw c k))) (mono n (g * (Go.Fg.pw (a.c 1) p * (Go.Fg.pw (b.c 1) q * Go.Fg.pw (c.c 1) k)))) := fun i hi => by
 have h1 := mul_lead (u := Go.Fg.pw b q) (v := Go.Fg.pw c k) (fun i hi => pw_low hb q i hi) (fun i hi => pw_low hc k i hi)
 have h2 := mul_lead (u := Go.Fg.pw a p) (v := Go.Fg.pw b q * Go.Fg.pw c k) (fun i hi => pw_low ha p i hi) h1.1
 rw [C_mul, mono_c]
 by_cases e : i = n
 · rw [if_pos e, e, show n = p + (q + k) by omega, h2.2, h1.2, pw_lead ha, pw_lead hb, pw_lead hc]
 · rw [if_neg e, h2.1 i (by omega), Go.Fg.mul_zero]
def gam (f : PS (PS R)) (N p q k : Nat) : R := sm N (fun i => (f.c i).c k * ((Go.Fg.pw f i).c p).c q) - sm N (fun j => (f.c p).c j * ((Go.Fg.pw f j).c q).c k)
def Gm (n : Nat) (G : Nat → Nat → Nat → R) (x y z : R) : R := sm (n + 1) fun p => sm (n + 1) fun q => sm (n + 1) fun k => if p + q + k = n then G p q k * (Go.Fg.pw x p * (Go.Fg.pw y q * Go.Fg.pw z k)) else 0
theorem evT_defect {n : Nat} (f : PS (PS R)) {a b c : PS R} (hf : (f.c 0).c 0 = 0) (ha : a.c 0 = 0) (hb : b.c 0 = 0) (hc : c.c 0 = 0) (hl : ∀ p q k, p + q + k < n → gam f (n + 1) p q k = 0) :
   Ag (n + 1) (evT (n + 1) f (evT (n + 1) f a b) c) (evT (n + 1) f a (evT (n + 1) f b c) + mono n (Gm n (gam f (n + 1)) (a.c 1) (b.c 1) (c.c 1))) := by
 refine (evT_left (by omega) f hf ha hb hc).trans (Ag.trans ?_ (Ag.add (evT_right (by omega) f hf ha hb hc).symm Ag.rfl))
 unfold Gm
 rw [mono_sm, ← sm_add]
 refine Ag.sm (fun p hp => ?_)
 rw [mono_sm, ← sm_add]
 refine Ag.sm (fun q hq => ?_)
 rw [mono_sm, ← sm_add]
 refine Ag.sm (fun k hk => ?_)
 have e : sm (n + 1) (fun i => (f.c i).c k * ((Go.Fg.pw f i).c p).c q) = sm (n + 1) (fun j => (f.c p).c j * ((Go.Fg.pw f j).c q).c k) + gam f (n + 1) p q k := by
   unfold gam; rw [CR.add_comm, Go.Fg.sub_add_cancel]
 rw [e, ← C_add_C, Go.Fg.add_mul]
 refine Ag.add Ag.rfl ?_
 by_cases h1 : p + q + k < n
 · rw [hl p q k h1, if_neg (by omega), C_zero, Go.Fg.zero_mul]
   exact fun i _ => by rw [mono_c]; split <;> rfl
 · by_cases h2 : p + q + k = n
   · rw [if_pos h2]; exact prod3_lead ha hb hc h2 _
   · rw [if_neg h2]
     refine (Ag.low3 ha hb hc (by omega) _).trans (fun i _ => ?_)
     rw [mono_c]; split <;> rfl
theorem pw_pert {n : Nat} (hn : 1 ≤ n) {a : PS R} (ha : a.c 0 = 0) (e : R) : ∀ i : Nat, i ≠ 1 → Ag (n + 1) (Go.Fg.pw (a + mono n e) i) (Go.Fg.pw a i)
 | 0, _ => Ag.rfl
 | 1, h => absurd rfl h
 | i + 2, _ => by
   have key : ∀ (u : PS R), u.c 0 = 0 → Ag (n + 1) (u * mono n e) 0 := fun u hu j hj => by
     rw [mul_c]
     refine sm_zero (fun k hk => ?_)
     by_cases h0 : k = 0
     · rw [h0, hu, Go.Fg.zero_mul]
     · rw [mono_c, if_neg (by omega), Go.Fg.mul_zero]
   have hs : ∀ i : Nat, ∃ d : R, Ag (n + 1) (Go.Fg.pw (a + mono n e) (i + 1)) (Go.Fg.pw a (i + 1) + mono n d) := by
     intro i
     induction i with
     | zero => exact ⟨e, by rw [pw_one, pw_one]; exact Ag.rfl⟩
     | succ i ih =>
       obtain ⟨d, hd⟩ := ih
       refine ⟨0, ?_⟩
       rw [pw_succ (a + mono n e)]
       refine (hd.mul Ag.rfl).trans ?_
       rw [Go.Fg.add_mul, CR.mul_add, CR.mul_add]
       refine (Ag.add (Ag.add Ag.rfl (key _ (pw_low ha (i + 1) 0 (by omega)))) (Ag.add ?_ ?_)).trans (b := Go.Fg.pw a (i + 1) * a + 0 + (0 + 0)) ?_
       · rw [CR.mul_comm]
         intro j hj
         rw [mul_c]
         refine sm_zero (fun k hk => ?_)
         by_cases h0 : k = 0
         · rw [h0, ha, Go.Fg.zero_mul]
         · rw [mono_c, if_neg (by omega), Go.Fg.mul_zero]
       · exact key _ (by rw [mono_c, if_neg (by omega)])
       · rw [Go.Fg.add_zero, Go.Fg.add_zero, Go.Fg.add_zero, ← pw_succ]
         intro j hj
         rw [add_c, mono_c]
         split <;> exact (Go.Fg.add_zero _).symm
   obtain ⟨d, hd⟩ := hs i
   rw [pw_succ (a + mono n e)]
   refine (hd.mul Ag.rfl).trans ?_
   rw [Go.Fg.add_mul, CR.mul_add, CR.mul_add]
   refine (Ag.add (Ag.add Ag.rfl (key _ (pw_low ha (i + 1) 0 (by omega)))) (Ag.add ?_ ?_)).trans (b := Go.Fg.pw a (i + 1) * a + 0 + (0 + 0)) ?_
   · rw [CR.mul_comm]
     intro j hj
     rw [mul_c]
     refine sm_zero (fun k hk => ?_)
     by_cases h0 : k = 0
     · rw [h0, ha, Go.Fg.zero_mul]
     · rw [mono_c, if_neg (by omega), Go.Fg.mul_zero]
   · exact key _ (by rw [mono_c, if_neg (by omega)])
   · rw [Go.Fg.add_zero, Go.Fg.add_zero, Go.Fg.add_zero, ← pw_succ]
     exact Ag.rfl
end PS
end Go.Fg
set_option linter.unusedVariables false
set_option linter.unusedSimpArgs false
set_option linter.unusedSectionVars false
namespace Go.Fg
open CR
namespace PS
variable {R : Type} [CR R]
structure Lw (f : PS (PS R)) (n : Nat) : Prop where
 pos : 1 ≤ n
 z0 : (f.c 0).c 0 = 0
 z1 : (f.c 1).c 0 = 1
 zz : ∀ i, i < n + 1 → i ≠ 1 → (f.c i).c 0 = 0
 sym : ∀ i j, i + j < n + 1 → (f.c i).c j = (f.c j).c i
 as : ∀ p q k, p + q + k < n → gam f (n + 1) p q k = 0
theorem mono_low {n : Nat} {u : PS R} (hu : u.c 0 = 0) (e : R) : Ag (n + 1) (mono n e * u) 0 := fun i hi => by
 rw [mono_mul_c]
 split
 · rfl
 · rw [show i - n = 0 by omega, hu, Go.Fg.mul_zero]; rfl
theorem evT_pert {n : Nat} (hn : 1 ≤ n) (f : PS (PS R)) (h1 : (f.c 1).c 0 = 1) {a b : PS R} (ha : a.c 0 = 0) (hb : b.c 0 = 0) (e : R) :
   Ag (n + 1) (evT (n + 1) f (a + mono n e) b) (evT (n + 1) f a b + mono n e) := by
 have hs : evT (n + 1) f a b + mono n e = Go.Fg.sm (n + 1) fun i => (Go.Fg.sm (n + 1 - i) fun j => C ((f.c i).c j) * (Go.Fg.pw a i * Go.Fg.pw b j)) + (if i = 1 then mono n e else 0) := by
   rw [sm_add, sm_one (f := fun i => if i = 1 then mono n e else 0) 1 (by omega) (fun i _ h => if_neg h), if_pos rfl]; rfl
 rw [hs]
 refine Ag.sm (fun i hi => ?_)
 by_cases h : i = 1
 · rw [if_pos h, h]
   have hs2 : (Go.Fg.sm (n + 1 - 1) fun j => C ((f.c 1).c j) * (Go.Fg.pw a 1 * Go.Fg.pw b j)) + mono n e = Go.Fg.sm (n + 1 - 1) fun j => C ((f.c 1).c j) * (Go.Fg.pw a 1 * Go.Fg.pw b j) + (if j = 0 then mono n e else 0) := by
     rw [sm_add, sm_one (f := fun j => if j = 0 then mono n e else 0) 0 (by omega) (fun i _ h => if_neg h), if_pos rfl]
   rw [hs2]
   refine Ag.sm (fun j hj => ?_)
   rw [Go.Fg.pw_one, Go.Fg.pw_one]
   by_cases h0 : j = 0
   · rw [if_pos h0, h0, h1, Go.Fg.pw_zero, Go.Fg.mul_one, Go.Fg.mul_one, show (C (1 : R) : PS R) = 1 from rfl, CR.one_mul, CR.one_mul]
     exact Ag.rfl
   · rw [if_neg h0, Go.Fg.add_zero, Go.Fg.add_mul, CR.mul_add]
     refine (Ag.add Ag.rfl (Ag.rfl.mul (mono_low (pw_low hb j 0 (by omega)) e))).trans (Ag.of_eq ?_)
     rw [Go.Fg.mul_zero, Go.Fg.add_zero]
 · rw [if_neg h, Go.Fg.add_zero]
   exact Ag.sm (fun j hj => Ag.rfl.mul ((pw_pert hn ha e i h).mul Ag.rfl))
theorem add_mono_0 {n : Nat} (hn : 1 ≤ n) {a : PS R} (ha : a.c 0 = 0) (e : R) : (a + mono n e).c 0 = 0 := by
 rw [add_c, mono_c, if_neg (by omega), ha, Go.Fg.add_zero]
theorem evT_pert2 {n : Nat} {f : PS (PS R)} (L : Lw f n) {a b : PS R} (ha : a.c 0 = 0) (hb : b.c 0 = 0) (e : R) :
   Ag (n + 1) (evT (n + 1) f a (b + mono n e)) (evT (n + 1) f a b + mono n e) :=
 (evT_comm f ha (add_mono_0 L.pos hb e) L.sym).trans ((evT_pert L.pos f L.z1 hb ha e).trans (Ag.add (evT_comm f hb ha L.sym) Ag.rfl))
theorem evT_lead {n : Nat} {f : PS (PS R)} (L : Lw f n) {a b : PS R} (ha : a.c 0 = 0) (hb : b.c 0 = 0) : (evT (n + 1) f a b).c 1 = a.c 1 + b.c 1 := by
 have hn := L.pos
 have h : Ag 2 (evT (n + 1) f a b) (b + a) := by
   have x1 : Ag 2 (Go.Fg.sm (n + 1) fun i => Go.Fg.sm (n + 1 - i) fun j => C ((f.c i).c j) * (Go.Fg.pw a i * Go.Fg.pw b j)) (Go.Fg.sm 2 fun i => Go.Fg.sm (n + 1 - i) fun j => C ((f.c i).c j) * (Go.Fg.pw a i * Go.Fg.pw b j)) :=
     Ag.sm_drop (by omega) (fun i h1 h2 => (Ag.sm (g := fun _ => 0) (fun j hj => Ag.low2 ha hb (by omega) _)).trans (Ag.of_eq (sm_zero (fun _ _ => rfl))))
   refine x1.trans ?_
   rw [sm_succ, sm_succ, sm_zero', CR.zero_add]
   refine Ag.add ?_ ?_
   · refine (Ag.sm_drop (n := 2) (by omega) (fun j h1 h2 => Ag.low2 ha hb (by omega) _)).trans (Ag.of_eq ?_)
     rw [sm_succ, sm_succ, sm_zero', CR.zero_add, L.z0, C_zero, Go.Fg.zero_mul, CR.zero_add, L.sym 0 1 (by omega), L.z1, Go.Fg.pw_zero, Go.Fg.pw_one, CR.one_mul]
     exact CR.one_mul _
   · refine (Ag.sm_drop (n := 1) (by omega) (fun j h1 h2 => Ag.low2 ha hb (by omega) _)).trans (Ag.of_eq ?_)
     rw [sm_succ, sm_zero', CR.zero_add, L.z1, Go.Fg.pw_zero, Go.Fg.pw_one, Go.Fg.mul_one]
     exact CR.one_mul _
 have := h 1 (by omega)
 rw [this, add_c, CR.add_comm]
theorem evT_mono_c {n : Nat} {u v : PS R} {e : R} (h : Ag (n + 1) u (v + mono n e)) : u.c n = v.c n + e := by
 rw [h n (by omega), add_c, mono_c, if_pos rfl]
section
variable {n : Nat} {f : PS (PS R)} (L : Lw f n)
include L
theorem defect {a b c : PS R} (ha : a.c 0 = 0) (hb : b.c 0 = 0) (hc : c.c 0 = 0) :
   Ag (n + 1) (evT (n + 1) f (evT (n + 1) f a b) c) (evT (n + 1) f a (evT (n + 1) f b c) + mono n (Gm n (gam f (n + 1)) (a.c 1) (b.c 1) (c.c 1))) := evT_defect f L.z0 ha hb hc L.as
theorem pentagon {w x y z : PS R} (hw : w.c 0 = 0) (hx : x.c 0 = 0) (hy : y.c 0 = 0) (hz : z.c 0 = 0) :
   Gm n (gam f (n + 1)) (w.c 1 + x.c 1) (y.c 1) (z.c 1) + Gm n (gam f (n + 1)) (w.c 1) (x.c 1) (y.c 1 + z.c 1)
     = Gm n (gam f (n + 1)) (w.c 1) (x.c 1) (y.c 1) + Gm n (gam f (n + 1)) (w.c 1) (x.c 1 + y.c 1) (z.c 1) + Gm n (gam f (n + 1)) (x.c 1) (y.c 1) (z.c 1) := by
 have hwx := evT_0 (N := n + 1) L.z0 hw hx
 have hxy := evT_0 (N := n + 1) L.z0 hx hy
 have hyz := evT_0 (N := n + 1) L.z0 hy hz
 have hxyz := evT_0 (N := n + 1) L.z0 hx hyz
 have hwxy := evT_0 (N := n + 1) L.z0 hw hxy
 have A := evT_mono_c (defect L hwx hy hz)
 have B := evT_mono_c (defect L hw hx hyz)
 have c1 := (evT_congr (f := f) (fun i j _ => rfl) (defect L hw hx hy) (Ag.rfl (a := z))).trans (evT_pert L.pos f L.z1 hwxy hz _)
 have Cc := evT_mono_c c1
 have D := evT_mono_c (defect L hw hxy hz)
 have e1 := (evT_congr (f := f) (fun i j _ => rfl) (Ag.rfl (a := w)) (defect L hx hy hz)).trans (evT_pert2 L hw hxyz _)
 have Ec := evT_mono_c e1
 rw [evT_lead L hw hx] at A
 rw [evT_lead L hy hz] at B
 rw [evT_lead L hx hy] at D
 rw [B] at A
 rw [D, Ec] at Cc
 have key := A.symm.trans Cc
 refine add_left_cancel (a := (evT (n + 1) f w (evT (n + 1) f x (evT (n + 1) f y z))).c n) ?_
 rw [CR.add_comm (Gm n (gam f (n + 1)) (w.c 1 + x.c 1) (y.c 1) (z.c 1)), ← CR.add_assoc, key]
 ac_rfl
end
end PS
end Go.Fg
set_option linter.unusedVariables false
set_option linter.unusedSimpArgs false
set_option linter.unusedSectionVars false
namespace Go.Fg
open CR
namespace PS
variable {R : Type} [CR R]
def up (f : PS (PS R)) : PS (PS (PS R)) := ⟨fun i => ⟨fun j => C ((f.c i).c j)⟩⟩
end PS
variable {m : Int}
open PS
section
variable {f : PS (PS (Zm m))} {n : Nat}
end
end Go.Fg
set_option linter.unusedVariables false
set_option linter.unusedSimpArgs false
namespace Go.Fg
open CR PS
inductive RK where
 | an (a b c : Nat)
 | cy (a b c : Nat)
 | pe (i j k l : Nat)
variable {m : Int}
end Go.Fg
set_option linter.unusedVariables false
set_option linter.unusedSimpArgs false
set_option linter.unusedSectionVars false
namespace Go.Fg
open CR
namespace PS
variable {R : Type} [CR R]
end PS
variable {m : Int}
open PS
def BudEq (f : PS (PS (Zm m))) (n : Nat) (v : Nat → Zm m) : Prop :=
 (∀ i, i ≤ n → v (n - i) = v i) ∧ ∀ p q k, 1 ≤ p → 1 ≤ q → 1 ≤ k → p + q + k = n → gam f (n + 1) p q k + v (p + q) * Zm.mk m (bin (p + q) p : Nat) = v p * Zm.mk m (bin (q + k) q : Nat)
end Go.Fg
set_option linter.unusedVariables false
set_option linter.unusedSimpArgs false
namespace Go.Fg
def sumI : Nat → (Nat → Int) → Int
 | 0, _ => 0
 | n + 1, f => sumI n f + f n
def swp (a b i : Nat) : Nat := if i = a then b else if i = b then a else i
end Go.Fg
set_option linter.unusedVariables false
set_option linter.unusedSimpArgs false
namespace Go.Fg
structure Elim (q : Int) (N u s : Nat) (M : Nat → Nat → Int) (o : Nat → Nat) : Prop where
 sN : s ≤ N
 su : s ≤ u
 piv : ∀ k, k < s → 0 < M k k ∧ M k k ∣ q
 dv : ∀ k j, k < s → k ≤ j → j < u → M k k ∣ M k j
 zr : ∀ i k, k < s → k < i → i < N → M i k = 0
 ol : ∀ k, k < u → o k < u
 inj : ∀ k j, k < u → j < u → o k = o j → k = j
section
variable {q : Int} {N u s : Nat} {M : Nat → Nat → Int} {o : Nat → Nat}
end
end Go.Fg
set_option linter.unusedVariables false
set_option linter.unusedSimpArgs false
namespace Go.Fg
def RowS (m : Int) (u : Nat) (r : List Int) (x : Nat → Int) : Prop := m ∣ sumI u (fun k => r.getD k 0 * x k) - r.getD u 0
def AllS (m : Int) (u : Nat) (R : List (List Int)) (x : Nat → Int) : Prop := ∀ r ∈ R, RowS m u r x
structure RowB (m : Int) (u j : Nat) (r : List Int) : Prop where
 len : r.length = u + 1
 rng : ∀ k, 0 ≤ r.getD k 0 ∧ r.getD k 0 < m
 zr : ∀ k, j ≤ k → k < u → r.getD k 0 = 0
def Ext (S : (Nat → Int) → Prop) (j : Nat) (x : Nat → Int) : Prop := ∃ y, (∀ i, i < j → y i = x i) ∧ S y
structure PivOk (m : Int) (u : Nat) (S : (Nat → Int) → Prop) (j : Nat) (R P : List (List Int)) : Prop where
 rb : ∀ r ∈ R, RowB m u j r
 pl : P.length = u
 lo : ∀ k, k < j → P.getD k [] = []
 pb : ∀ k, j ≤ k → k < u → P.getD k [] ≠ [] → RowB m u (k + 1) (P.getD k [])
 ex : ∀ x, AllS m u R x ↔ Ext S j x
 a : ∀ k, j ≤ k → k < u → P.getD k [] ≠ [] → ∀ x, S x → RowS m u (P.getD k []) x
 b : ∀ k, j ≤ k → k < u → ∀ x, Ext S k x → (P.getD k [] ≠ [] → RowS m u (P.getD k []) x) → Ext S (k + 1) x
section
variable {m : Int} {u j : Nat} {S : (Nat → Int) → Prop} {R P : List (List Int)}
structure EucI (m : Int) (u j : Nat) (R : List (List Int)) (i : Nat) (rest : List (List Int)) (piv : List Int) : Prop where
 rb : ∀ r ∈ rest, RowB m u j r
 pb : piv ≠ [] → RowB m u (j + 1) piv ∧ piv.getD j 0 ≠ 0
 iff : ∀ x, AllS m u R x ↔ AllS m u rest x ∧ (piv ≠ [] → RowS m u piv x) ∧ AllS m u (R.drop i) x
structure EucR (m : Int) (u j : Nat) (R : List (List Int)) (i : Nat) (rest : List (List Int)) (piv row : List Int) : Prop where
 rb : ∀ r ∈ rest, RowB m u j r
 pb : piv ≠ [] → RowB m u (j + 1) piv ∧ piv.getD j 0 ≠ 0
 ob : RowB m u (j + 1) row
 iff : ∀ x, AllS m u R x ↔ AllS m u rest x ∧ (piv ≠ [] → RowS m u piv x) ∧ RowS m u row x ∧ AllS m u (R.drop i) x
def minR (m : Int) (a b : List Int) (k : Int) : List Int := (List.range a.length).map fun i => (a.getD i 0 - k * b.getD i 0) % m
@[simp] theorem minR_length (m : Int) (a b : List Int) (k : Int) : (minR m a b k).length = a.length := by simp [minR]
section
variable {i : Nat} {rest : List (List Int)} {piv row : List Int}
end
end
end Go.Fg
set_option linter.unusedVariables false
set_option linter.unusedSimpArgs false
set_option linter.unusedSectionVars false
namespace Go.Fg
open CR PS
variable {m : Int}
def LexV (n : Nat) (v w : Nat → Zm m) : Prop := (∀ k, k < n → v k = w k) ∨ ∃ k, k < n ∧ (∀ i, i < k → v i = w i) ∧ (v k).val < (w k).val
structure First (f : PS (PS (Zm m))) (n : Nat) (v : Nat → Zm m) : Prop where
 z : v 0 = 0
 eq : BudEq f n v
 le : ∀ w, w 0 = 0 → BudEq f n w → LexV (n + 1) v w
end Go.Fg
