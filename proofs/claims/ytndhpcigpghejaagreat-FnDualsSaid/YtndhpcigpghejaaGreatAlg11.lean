import Derived.Test.YtndhpcigpghejaaGreatAlg10
import Derived.Test.YtndhpcigpghejaaGreatAlg8
set_option linter.unusedVariables false
set_option linter.unusedSimpArgs false
set_option linter.unusedSectionVars false
namespace Go.Fg
open CR
namespace PS
variable {R : Type} [CR R]
def E (N : Nat) (g : PS (PS R)) (x : PS R) : PS R := sm N fun i => g.c i * pw x i
theorem Ag.sm_drop {N n k : Nat} {f : Nat → PS R} (hk : n ≤ k) (h : ∀ i, n ≤ i → i < k → Ag N (f i) 0) : Ag N (Go.Fg.sm k f) (Go.Fg.sm n f) := fun i hi => by
 rw [sm_c, sm_c]
 exact sm_ext hk (fun j h1 h2 => h j h1 h2 i hi)
theorem Ag.low_pw {N : Nat} {x : PS R} (hx : x.c 0 = 0) {k : Nat} (h : N ≤ k) (y : PS R) : Ag N (y * Go.Fg.pw x k) 0 := fun i hi => by
 rw [mul_c]
 exact sm_zero (fun j hj => by rw [pw_low hx k (i - j) (by omega), Go.Fg.mul_zero])
theorem E_mul {N : Nat} (g h : PS (PS R)) {x : PS R} (hx : x.c 0 = 0) : Ag N (E N (g * h) x) (E N g x * E N h x) := by
 cases N with
 | zero => exact fun i hi => absurd hi (by omega)
 | succ N =>
 have e1 : E (N + 1) (g * h) x = sm (N + 1) fun j => sm (N - j + 1) fun k => g.c j * h.c k * pw x (j + k) := by
   rw [← sm_tri N (fun j k => g.c j * h.c k * pw x (j + k))]
   refine sm_congr (fun i hi => ?_)
   rw [mul_c, sm_mul_right]
   exact sm_congr (fun j hj => by rw [show j + (i - j) = i by omega])
 have e2 : E (N + 1) g x * E (N + 1) h x = sm (N + 1) fun j => sm (N + 1) fun k => g.c j * h.c k * pw x (j + k) := by
   unfold E
   rw [sm_mul_right]
   refine sm_congr (fun j hj => ?_)
   rw [sm_mul]
   exact sm_congr (fun k hk => by rw [pw_add]; ac_rfl)
 rw [e1, e2]
 refine Ag.sm (fun j hj => Ag.symm ?_)
 exact Ag.sm_drop (by omega) (fun k h1 h2 => Ag.low_pw hx (by omega) _)
theorem E_add (N : Nat) (g h : PS (PS R)) (x : PS R) : E N (g + h) x = E N g x + E N h x := by
 unfold E
 rw [← sm_add]
 exact sm_congr (fun i _ => by rw [add_c, Go.Fg.add_mul])
theorem E_zero (N : Nat) (x : PS R) : E N 0 x = 0 := sm_zero (fun i _ => by rw [zero_c, Go.Fg.zero_mul])
theorem E_sm (N k : Nat) (g : Nat → PS (PS R)) (x : PS R) : E N (sm k g) x = sm k fun i => E N (g i) x := by
 induction k with
 | zero => exact E_zero N x
 | succ k ih => rw [sm_succ, E_add, ih, sm_succ]
theorem E_congr {N : Nat} {g h : PS (PS R)} {x y : PS R} (h1 : ∀ i, i < N → Ag N (g.c i) (h.c i)) (h2 : Ag N x y) : Ag N (E N g x) (E N h y) :=
 Ag.sm (fun i hi => (h1 i hi).mul (h2.pw i))
theorem E_one {N : Nat} (hN : 1 ≤ N) (x : PS R) : E N 1 x = 1 := by
 unfold E
 rw [sm_one 0 (by omega) (fun i _ hne => by rw [one_c, if_neg hne, Go.Fg.zero_mul]), one_c, if_pos rfl, pw_zero, CR.one_mul]
theorem axX_add (u v : PS R) : axX (u + v) = axX u + axX v := by
 refine PS.ext (fun i => ?_)
 show C (u.c i + v.c i) = C (u.c i) + C (v.c i)
 rw [C_add_C]
theorem axX_sm (k : Nat) (u : Nat → PS R) : axX (sm k u) = sm k fun i => axX (u i) := by
 induction k with
 | zero => exact axX_zero
 | succ k ih => rw [sm_succ, axX_add, ih, sm_succ]
theorem C_sm (k : Nat) (u : Nat → R) : C (sm k u) = sm k fun i => C (u i) := by
 induction k with
 | zero => exact C_zero
 | succ k ih => rw [sm_succ, ← C_add_C, ih, sm_succ]
theorem axX_mul (u v : PS R) : axX (u * v) = axX u * axX v := by
 refine PS.ext (fun i => ?_)
 show C ((u * v).c i) = (axX u * axX v).c i
 rw [mul_c, mul_c, C_sm]
 exact sm_congr (fun j _ => by show C (_ * _) = C _ * C _; rw [C_mul_C])
theorem axX_one : axX (1 : PS R) = 1 := by
 refine PS.ext (fun i => ?_)
 show C ((1 : PS R).c i) = (1 : PS (PS R)).c i
 rw [one_c, one_c]
 split
 · rfl
 · exact C_zero
def e2 (N : Nat) (b : PS R) (g : PS (PS R)) : PS (PS R) := ⟨fun i => E N (axX (g.c i)) b⟩
def ev (N : Nat) (a b : PS R) (g : PS (PS R)) : PS R := E N (e2 N b g) a
theorem ev_mul {N : Nat} (g h : PS (PS R)) {a b : PS R} (ha : a.c 0 = 0) (hb : b.c 0 = 0) : Ag N (ev N a b (g * h)) (ev N a b g * ev N a b h) := by
 refine Ag.trans (E_congr (fun i _ => ?_) Ag.rfl) (E_mul (e2 N b g) (e2 N b h) ha)
 show Ag N (E N (axX ((g * h).c i)) b) ((e2 N b g * e2 N b h).c i)
 rw [mul_c, mul_c, axX_sm, E_sm]
 refine Ag.sm (fun j hj => ?_)
 rw [axX_mul]
 exact E_mul _ _ hb
theorem ev_one {N : Nat} (hN : 1 ≤ N) (a b : PS R) : ev N a b 1 = 1 := by
 unfold ev
 rw [show e2 N b (1 : PS (PS R)) = 1 from PS.ext (fun i => by
   show E N (axX ((1 : PS (PS R)).c i)) b = (1 : PS (PS R)).c i
   rw [one_c]
   split
   · rw [axX_one, E_one hN]
   · rw [axX_zero, E_zero]), E_one hN]
theorem ev_pw {N : Nat} (hN : 1 ≤ N) (g : PS (PS R)) {a b : PS R} (ha : a.c 0 = 0) (hb : b.c 0 = 0) (k : Nat) : Ag N (ev N a b (pw g k)) (pw (ev N a b g) k) := by
 induction k with
 | zero => exact Ag.of_eq (ev_one hN a b)
 | succ k ih => exact (ev_mul _ _ ha hb).trans (ih.mul Ag.rfl)
theorem ev_eq (N : Nat) (a b : PS R) (g : PS (PS R)) : ev N a b g = sm N fun i => sm N fun j => C ((g.c i).c j) * (pw a i * pw b j) := by
 refine sm_congr (fun i _ => ?_)
 show E N (axX (g.c i)) b * pw a i = _
 unfold E
 rw [sm_mul_right]
 refine sm_congr (fun j _ => ?_)
 show C ((g.c i).c j) * pw b j * pw a i = _
 ac_rfl
theorem Ag.low2 {N i j : Nat} {a b : PS R} (ha : a.c 0 = 0) (hb : b.c 0 = 0) (h : N ≤ i + j) (y : PS R) : Ag N (y * (Go.Fg.pw a i * Go.Fg.pw b j)) 0 := by
 have h0 : Ag N (Go.Fg.pw a i * Go.Fg.pw b j) 0 := fun n hn => by
   rw [mul_c]
   refine sm_zero (fun k hk => ?_)
   by_cases h1 : k < i
   · rw [pw_low ha i k h1, Go.Fg.zero_mul]
   · rw [pw_low hb j (n - k) (by omega), Go.Fg.mul_zero]
 exact (Ag.rfl.mul h0).trans (Ag.of_eq (Go.Fg.mul_zero y))
theorem pw_low2 {f : PS (PS R)} (h0 : (f.c 0).c 0 = 0) : ∀ (k i j : Nat), i + j < k → ((pw f k).c i).c j = 0 := by
 intro k
 induction k with
 | zero => intro i j h; omega
 | succ k ih =>
   intro i j h
   rw [pw_succ, mul_c, sm_c]
   refine sm_zero (fun p hp => ?_)
   rw [mul_c]
   refine sm_zero (fun q hq => ?_)
   by_cases e : p + q < k
   · rw [ih p q e, Go.Fg.zero_mul]
   · rw [show i - p = 0 by omega, show j - q = 0 by omega, h0, Go.Fg.mul_zero]
def evT (N : Nat) (f : PS (PS R)) (a b : PS R) : PS R := sm N fun i => sm (N - i) fun j => C ((f.c i).c j) * (pw a i * pw b j)
theorem evT_ev {N : Nat} (f : PS (PS R)) {a b : PS R} (ha : a.c 0 = 0) (hb : b.c 0 = 0) : Ag N (evT N f a b) (ev N a b f) := by
 rw [ev_eq]
 exact Ag.sm (fun i hi => Ag.symm (Ag.sm_drop (by omega) (fun j h1 h2 => Ag.low2 ha hb (by omega) _)))
theorem evT_congr {N : Nat} {f g : PS (PS R)} {a b a' b' : PS R} (hf : ∀ i j, i + j < N → (f.c i).c j = (g.c i).c j) (h : Ag N a a') (h2 : Ag N b b') : Ag N (evT N f a b) (evT N g a' b') :=
 Ag.sm (fun i hi => Ag.sm (fun j hj => by rw [hf i j (by omega)]; exact Ag.rfl.mul ((h.pw i).mul (h2.pw j))))
theorem evT_0 {N : Nat} {f : PS (PS R)} {a b : PS R} (hf : (f.c 0).c 0 = 0) (ha : a.c 0 = 0) (hb : b.c 0 = 0) : (evT N f a b).c 0 = 0 := by
 unfold evT
 rw [sm_c]
 refine sm_zero (fun i _ => ?_)
 rw [sm_c]
 refine sm_zero (fun j _ => ?_)
 rw [C_mul, mul_c0]
 cases i with
 | succ i => rw [pw_low ha (i + 1) 0 (by omega), Go.Fg.zero_mul, Go.Fg.mul_zero]
 | zero => cases j with
   | succ j => rw [pw_low hb (j + 1) 0 (by omega), Go.Fg.mul_zero, Go.Fg.mul_zero]
   | zero => rw [hf, Go.Fg.zero_mul]
theorem evT_left {N : Nat} (hN : 1 ≤ N) (f : PS (PS R)) {a b c : PS R} (hf : (f.c 0).c 0 = 0) (ha : a.c 0 = 0) (hb : b.c 0 = 0) (hc : c.c 0 = 0) :
   Ag N (evT N f (evT N f a b) c) (sm N fun p => sm N fun q => sm N fun k => C (sm N fun i => (f.c i).c k * ((pw f i).c p).c q) * (pw a p * (pw b q * pw c k))) := by
 refine (evT_ev f (evT_0 hf ha hb) hc).trans ?_
 rw [ev_eq]
 have h1 : Ag N (sm N fun i => sm N fun k => C ((f.c i).c k) * (pw (evT N f a b) i * pw c k))
     (sm N fun i => sm N fun k => sm N fun p => sm N fun q => C ((f.c i).c k * ((pw f i).c p).c q) * (pw a p * (pw b q * pw c k))) := by
   refine Ag.sm (fun i hi => Ag.sm (fun k hk => ?_))
   refine Ag.trans (Ag.rfl.mul (((((evT_ev f ha hb).pw i).trans (ev_pw hN f ha hb i).symm)).mul Ag.rfl)) (Ag.of_eq ?_)
   rw [ev_eq, sm_mul_right, sm_mul]
   refine sm_congr (fun p _ => ?_)
   rw [sm_mul_right, sm_mul]
   refine sm_congr (fun q _ => ?_)
   rw [← C_mul_C]
   ac_rfl
 refine h1.trans (Ag.of_eq ?_)
 rw [sm_congr (fun i _ => sm_swap N N _), sm_swap N N]
 refine sm_congr (fun p _ => ?_)
 rw [sm_congr (fun i _ => sm_congr (fun k _ => rfl)), sm_congr (fun i _ => sm_swap N N _), sm_swap N N]
 refine sm_congr (fun q _ => ?_)
 rw [sm_swap N N]
 refine sm_congr (fun k _ => ?_)
 rw [C_sm, sm_mul_right]
theorem evT_right {N : Nat} (hN : 1 ≤ N) (f : PS (PS R)) {a b c : PS R} (hf : (f.c 0).c 0 = 0) (ha : a.c 0 = 0) (hb : b.c 0 = 0) (hc : c.c 0 = 0) :
   Ag N (evT N f a (evT N f b c)) (sm N fun p => sm N fun q => sm N fun k => C (sm N fun j => (f.c p).c j * ((pw f j).c q).c k) * (pw a p * (pw b q * pw c k))) := by
 refine (evT_ev f ha (evT_0 hf hb hc)).trans ?_
 rw [ev_eq]
 refine Ag.sm (fun p hp => ?_)
 have h1 : Ag N (sm N fun j => C ((f.c p).c j) * (pw a p * pw (evT N f b c) j))
     (sm N fun j => sm N fun q => sm N fun k => C ((f.c p).c j * ((pw f j).c q).c k) * (pw a p * (pw b q * pw c k))) := by
   refine Ag.sm (fun j hj => ?_)
   refine Ag.trans (Ag.rfl.mul (Ag.rfl.mul ((((evT_ev f hb hc).pw j).trans (ev_pw hN f hb hc j).symm)))) (Ag.of_eq ?_)
   rw [ev_eq, sm_mul, sm_mul]
   refine sm_congr (fun q _ => ?_)
   rw [sm_mul, sm_mul]
   refine sm_congr (fun k _ => ?_)
   rw [← C_mul_C]
   ac_rfl
 refine h1.trans (Ag.of_eq ?_)
 rw [sm_swap N N]
 refine sm_congr (fun q _ => ?_)
 rw [sm_swap N N]
 refine sm_congr (fun k _ => ?_)
 rw [C_sm, sm_mul_right]
theorem Ag.low3 {N p q k : Nat} {a b c : PS R} (ha : a.c 0 = 0) (hb : b.c 0 = 0) (hc : c.c 0 = 0) (h : N ≤ p + q + k) (y : PS R) : Ag N (y * (Go.Fg.pw a p * (Go.Fg.pw b q * Go.Fg.pw c k))) 0 := by
 have h0 : Ag N (Go.Fg.pw a p * (Go.Fg.pw b q * Go.Fg.pw c k)) 0 := fun n hn => by
   rw [mul_c]
   refine sm_zero (fun i hi => ?_)
   by_cases h1 : i < p
   · rw [pw_low ha p i h1, Go.Fg.zero_mul]
   · have := Ag.low2 (N := n - i + 1) hb hc (i := q) (j := k) (by omega) (1 : PS R) (n - i) (by omega)
     rw [CR.one_mul] at this
     rw [this, zero_c, Go.Fg.mul_zero]
 exact (Ag.rfl.mul h0).trans (Ag.of_eq (Go.Fg.mul_zero y))
theorem evT_assoc {N : Nat} (hN : 1 ≤ N) (f : PS (PS R)) {a b c : PS R} (hf : (f.c 0).c 0 = 0) (ha : a.c 0 = 0) (hb : b.c 0 = 0) (hc : c.c 0 = 0)
   (h : ∀ p q k, p + q + k < N → sm (N - k) (fun i => (f.c i).c k * ((pw f i).c p).c q) = sm (N - p) (fun j => (f.c p).c j * ((pw f j).c q).c k)) :
   Ag N (evT N f (evT N f a b) c) (evT N f a (evT N f b c)) := by
 refine (evT_left hN f hf ha hb hc).trans (Ag.trans ?_ (evT_right hN f hf ha hb hc).symm)
 refine Ag.sm (fun p hp => Ag.sm (fun q hq => Ag.sm (fun k hk => ?_)))
 by_cases hs : p + q + k < N
 · refine Ag.of_eq (congrArg (fun z => C z * (pw a p * (pw b q * pw c k))) ?_)
   have x1 : sm N (fun i => (f.c i).c k * ((pw f i).c p).c q) = sm (N - k) (fun i => (f.c i).c k * ((pw f i).c p).c q) :=
     sm_ext (by omega) (fun i h1 h2 => by rw [pw_low2 hf i p q (by omega), Go.Fg.mul_zero])
   have x2 : sm N (fun j => (f.c p).c j * ((pw f j).c q).c k) = sm (N - p) (fun j => (f.c p).c j * ((pw f j).c q).c k) :=
     sm_ext (by omega) (fun j h1 h2 => by rw [pw_low2 hf j q k (by omega), Go.Fg.mul_zero])
   rw [x1, x2]
   exact h p q k hs
 · exact (Ag.low3 ha hb hc (by omega) _).trans (Ag.low3 ha hb hc (by omega) _).symm
theorem evT_comm {N : Nat} (f : PS (PS R)) {a b : PS R} (ha : a.c 0 = 0) (hb : b.c 0 = 0) (h : ∀ i j, i + j < N → (f.c i).c j = (f.c j).c i) : Ag N (evT N f a b) (evT N f b a) := by
 refine (evT_ev f ha hb).trans (Ag.trans ?_ (evT_ev f hb ha).symm)
 rw [ev_eq, ev_eq, sm_swap N N]
 refine Ag.sm (fun j hj => Ag.sm (fun i hi => ?_))
 by_cases hs : i + j < N
 · rw [h i j hs, CR.mul_comm (pw a i)]
   exact Ag.rfl
 · exact (Ag.low2 ha hb (by omega) _).trans (Ag.low2 hb ha (by omega) _).symm
end PS
end Go.Fg
namespace Go.Fg
open CR
namespace PS
variable {R : Type} [CR R]
theorem mono_sm (n k : Nat) (f : Nat → R) : mono n (sm k f) = sm k fun i => mono n (f i) := by
 ext i
 rw [mono_c, sm_c]
 by_cases h : i = n
 · rw [if_pos h]; exact sm_congr (fun j _ => by rw [mono_c, if_pos h])
 · rw [if_neg h]; exact (sm_zero (fun j _ => by rw [mono_c, if_neg h])).symm
theorem mono_add (n : Nat) (a b : R) : mono n (a + b) = mono n a + mono n b := by
 ext i
 rw [add_c, mono_c, mono_c, mono_c]
 split
 · rfl
 · exact (CR.zero_add _).symm
theorem pw_lead {a : PS R} (ha : a.c 0 = 0) : ∀ p : Nat, (Go.Fg.pw a p).c p = Go.Fg.pw (a.c 1) p
 | 0 => by rw [pw_zero, pw_zero]; rfl
 | p + 1 => by
   rw [pw_succ, mul_c, pw_succ, ← pw_lead ha p]
   rw [sm_one p (by omega) (fun i hi hne => ?_), show p + 1 - p = 1 by omega]
   by_cases h : i < p
   · rw [pw_low ha p i h, Go.Fg.zero_mul]
   · rw [show p + 1 - i = 0 by omega, ha, Go.Fg.mul_zero]
theorem mul_lead {u v : PS R} {p q : Nat} (hu : ∀ i, i < p → u.c i = 0) (hv : ∀ i, i < q → v.c i = 0) : (∀ i, i < p + q → (u * v).c i = 0) ∧ (u * v).c (p + q) = u.c p * v.c q := by
 constructor
 · intro i hi
   rw [mul_c]
   refine sm_zero (fun j hj => ?_)
   by_cases h : j < p
   · rw [hu j h, Go.Fg.zero_mul]
   · rw [hv (i - j) (by omega), Go.Fg.mul_zero]
 · rw [mul_c, sm_one p (by omega) (fun j hj hne => ?_), show p + q - p = q by omega]
   by_cases h : j < p
   · rw [hu j h, Go.Fg.zero_mul]
   · rw [hv (p + q - j) (by omega), Go.Fg.mul_zero]
theorem prod3_lead {a b c : PS R} (ha : a.c 0 = 0) (hb : b.c 0 = 0) (hc : c.c 0 = 0) {n p q k : Nat} (h : p + q + k = n) (g : R) :
   Ag (n + 1) (C g * (Go.Fg.pw a p * (Go.Fg.pw b q * Go.Fg.pw c k))) (mono n (g * (Go.Fg.pw (a.c 1) p * (Go.Fg.pw (b.c 1) q * Go.Fg.pw (c.c 1) k)))) := fun i hi => by
 have h1 := mul_lead (u := Go.Fg.pw b q) (v := Go.Fg.pw c k) (fun i hi => pw_low hb q i hi) (fun i hi => pw_low hc k i hi)
 have h2 := mul_lead (u := Go.Fg.pw a p) (v := Go.Fg.pw b q * Go.Fg.pw c k) (fun i hi => pw_low ha p i hi) h1.1
 rw [C_mul, mono_c]
 by_cases e : i = n
 · rw [if_pos e, e, show n = p + (q + k) by omega, h2.2, h1.2, pw_lead ha, pw_lead hb, pw_lead hc]
 · rw [if_neg e, h2.1 i (by omega), Go.Fg.mul_zero]
def gam (f : PS (PS R)) (N p q k : Nat) : R := sm N (fun i => (f.c i).c k * ((Go.Fg.pw f i).c p).c q) - sm N (fun j => (f.c p).c j * ((Go.Fg.pw f j).c q).c k)
def Gm (n : Nat) (G : Nat → Nat → Nat → R) (x y z : R) : R := sm (n + 1) fun p => sm (n + 1) fun q => sm (n + 1) fun k => if p + q + k = n then G p q k * (Go.Fg.pw x p * (Go.Fg.pw y q * Go.Fg.pw z k)) else 0
theorem evT_defect {n : Nat} (f : PS (PS R)) {a b c : PS R} (hf : (f.c 0).c 0 = 0) (ha : a.c 0 = 0) (hb : b.c 0 = 0) (hc : c.c 0 = 0) (hl : ∀ p q k, p + q + k < n → gam f (n + 1) p q k = 0) :
   Ag (n + 1) (evT (n + 1) f (evT (n + 1) f a b) c) (evT (n + 1) f a (evT (n + 1) f b c) + mono n (Gm n (gam f (n + 1)) (a.c 1) (b.c 1) (c.c 1))) := by
 refine (evT_left (by omega) f hf ha hb hc).trans (Ag.trans ?_ (Ag.add (evT_right (by omega) f hf ha hb hc).symm Ag.rfl))
 unfold Gm
 rw [mono_sm, ← sm_add]
 refine Ag.sm (fun p hp => ?_)
 rw [mono_sm, ← sm_add]
 refine Ag.sm (fun q hq => ?_)
 rw [mono_sm, ← sm_add]
 refine Ag.sm (fun k hk => ?_)
 have e : sm (n + 1) (fun i => (f.c i).c k * ((Go.Fg.pw f i).c p).c q) = sm (n + 1) (fun j => (f.c p).c j * ((Go.Fg.pw f j).c q).c k) + gam f (n + 1) p q k := by
   unfold gam; rw [CR.add_comm, Go.Fg.sub_add_cancel]
 rw [e, ← C_add_C, Go.Fg.add_mul]
 refine Ag.add Ag.rfl ?_
 by_cases h1 : p + q + k < n
 · rw [hl p q k h1, if_neg (by omega), C_zero, Go.Fg.zero_mul]
   exact fun i _ => by rw [mono_c]; split <;> rfl
 · by_cases h2 : p + q + k = n
   · rw [if_pos h2]; exact prod3_lead ha hb hc h2 _
   · rw [if_neg h2]
     refine (Ag.low3 ha hb hc (by omega) _).trans (fun i _ => ?_)
     rw [mono_c]; split <;> rfl
theorem pw_pert {n : Nat} (hn : 1 ≤ n) {a : PS R} (ha : a.c 0 = 0) (e : R) : ∀ i : Nat, i ≠ 1 → Ag (n + 1) (Go.Fg.pw (a + mono n e) i) (Go.Fg.pw a i)
 | 0, _ => Ag.rfl
 | 1, h => absurd rfl h
 | i + 2, _ => by
   have key : ∀ (u : PS R), u.c 0 = 0 → Ag (n + 1) (u * mono n e) 0 := fun u hu j hj => by
     rw [mul_c]
     refine sm_zero (fun k hk => ?_)
     by_cases h0 : k = 0
     · rw [h0, hu, Go.Fg.zero_mul]
     · rw [mono_c, if_neg (by omega), Go.Fg.mul_zero]
   have hs : ∀ i : Nat, ∃ d : R, Ag (n + 1) (Go.Fg.pw (a + mono n e) (i + 1)) (Go.Fg.pw a (i + 1) + mono n d) := by
     intro i
     induction i with
     | zero => exact ⟨e, by rw [pw_one, pw_one]; exact Ag.rfl⟩
     | succ i ih =>
       obtain ⟨d, hd⟩ := ih
       refine ⟨0, ?_⟩
       rw [pw_succ (a + mono n e)]
       refine (hd.mul Ag.rfl).trans ?_
       rw [Go.Fg.add_mul, CR.mul_add, CR.mul_add]
       refine (Ag.add (Ag.add Ag.rfl (key _ (pw_low ha (i + 1) 0 (by omega)))) (Ag.add ?_ ?_)).trans (b := Go.Fg.pw a (i + 1) * a + 0 + (0 + 0)) ?_
       · rw [CR.mul_comm]
         intro j hj
         rw [mul_c]
         refine sm_zero (fun k hk => ?_)
         by_cases h0 : k = 0
         · rw [h0, ha, Go.Fg.zero_mul]
         · rw [mono_c, if_neg (by omega), Go.Fg.mul_zero]
       · exact key _ (by rw [mono_c, if_neg (by omega)])
       · rw [Go.Fg.add_zero, Go.Fg.add_zero, Go.Fg.add_zero, ← pw_succ]
         intro j hj
         rw [add_c, mono_c]
         split <;> exact (Go.Fg.add_zero _).symm
   obtain ⟨d, hd⟩ := hs i
   rw [pw_succ (a + mono n e)]
   refine (hd.mul Ag.rfl).trans ?_
   rw [Go.Fg.add_mul, CR.mul_add, CR.mul_add]
   refine (Ag.add (Ag.add Ag.rfl (key _ (pw_low ha (i + 1) 0 (by omega)))) (Ag.add ?_ ?_)).trans (b := Go.Fg.pw a (i + 1) * a + 0 + (0 + 0)) ?_
   · rw [CR.mul_comm]
     intro j hj
     rw [mul_c]
     refine sm_zero (fun k hk => ?_)
     by_cases h0 : k = 0
     · rw [h0, ha, Go.Fg.zero_mul]
     · rw [mono_c, if_neg (by omega), Go.Fg.mul_zero]
   · exact key _ (by rw [mono_c, if_neg (by omega)])
   · rw [Go.Fg.add_zero, Go.Fg.add_zero, Go.Fg.add_zero, ← pw_succ]
     exact Ag.rfl
end PS
end Go.Fg
namespace Go.Fg
open CR
namespace PS
variable {R : Type} [CR R]
structure Lw (f : PS (PS R)) (n : Nat) : Prop where
 pos : 1 ≤ n
 z0 : (f.c 0).c 0 = 0
 z1 : (f.c 1).c 0 = 1
 zz : ∀ i, i < n + 1 → i ≠ 1 → (f.c i).c 0 = 0
 sym : ∀ i j, i + j < n + 1 → (f.c i).c j = (f.c j).c i
 as : ∀ p q k, p + q + k < n → gam f (n + 1) p q k = 0
theorem mono_low {n : Nat} {u : PS R} (hu : u.c 0 = 0) (e : R) : Ag (n + 1) (mono n e * u) 0 := fun i hi => by
 rw [mono_mul_c]
 split
 · rfl
 · rw [show i - n = 0 by omega, hu, Go.Fg.mul_zero]; rfl
theorem evT_pert {n : Nat} (hn : 1 ≤ n) (f : PS (PS R)) (h1 : (f.c 1).c 0 = 1) {a b : PS R} (ha : a.c 0 = 0) (hb : b.c 0 = 0) (e : R) :
   Ag (n + 1) (evT (n + 1) f (a + mono n e) b) (evT (n + 1) f a b + mono n e) := by
 have hs : evT (n + 1) f a b + mono n e = Go.Fg.sm (n + 1) fun i => (Go.Fg.sm (n + 1 - i) fun j => C ((f.c i).c j) * (Go.Fg.pw a i * Go.Fg.pw b j)) + (if i = 1 then mono n e else 0) := by
   rw [sm_add, sm_one (f := fun i => if i = 1 then mono n e else 0) 1 (by omega) (fun i _ h => if_neg h), if_pos rfl]; rfl
 rw [hs]
 refine Ag.sm (fun i hi => ?_)
 by_cases h : i = 1
 · rw [if_pos h, h]
   have hs2 : (Go.Fg.sm (n + 1 - 1) fun j => C ((f.c 1).c j) * (Go.Fg.pw a 1 * Go.Fg.pw b j)) + mono n e = Go.Fg.sm (n + 1 - 1) fun j => C ((f.c 1).c j) * (Go.Fg.pw a 1 * Go.Fg.pw b j) + (if j = 0 then mono n e else 0) := by
     rw [sm_add, sm_one (f := fun j => if j = 0 then mono n e else 0) 0 (by omega) (fun i _ h => if_neg h), if_pos rfl]
   rw [hs2]
   refine Ag.sm (fun j hj => ?_)
   rw [Go.Fg.pw_one, Go.Fg.pw_one]
   by_cases h0 : j = 0
   · rw [if_pos h0, h0, h1, Go.Fg.pw_zero, Go.Fg.mul_one, Go.Fg.mul_one, show (C (1 : R) : PS R) = 1 from rfl, CR.one_mul, CR.one_mul]
     exact Ag.rfl
   · rw [if_neg h0, Go.Fg.add_zero, Go.Fg.add_mul, CR.mul_add]
     refine (Ag.add Ag.rfl (Ag.rfl.mul (mono_low (pw_low hb j 0 (by omega)) e))).trans (Ag.of_eq ?_)
     rw [Go.Fg.mul_zero, Go.Fg.add_zero]
 · rw [if_neg h, Go.Fg.add_zero]
   exact Ag.sm (fun j hj => Ag.rfl.mul ((pw_pert hn ha e i h).mul Ag.rfl))
theorem add_mono_0 {n : Nat} (hn : 1 ≤ n) {a : PS R} (ha : a.c 0 = 0) (e : R) : (a + mono n e).c 0 = 0 := by
 rw [add_c, mono_c, if_neg (by omega), ha, Go.Fg.add_zero]
theorem evT_pert2 {n : Nat} {f : PS (PS R)} (L : Lw f n) {a b : PS R} (ha : a.c 0 = 0) (hb : b.c 0 = 0) (e : R) :
   Ag (n + 1) (evT (n + 1) f a (b + mono n e)) (evT (n + 1) f a b + mono n e) :=
 (evT_comm f ha (add_mono_0 L.pos hb e) L.sym).trans ((evT_pert L.pos f L.z1 hb ha e).trans (Ag.add (evT_comm f hb ha L.sym) Ag.rfl))
theorem evT_lead {n : Nat} {f : PS (PS R)} (L : Lw f n) {a b : PS R} (ha : a.c 0 = 0) (hb : b.c 0 = 0) : (evT (n + 1) f a b).c 1 = a.c 1 + b.c 1 := by
 have hn := L.pos
 have h : Ag 2 (evT (n + 1) f a b) (b + a) := by
   have x1 : Ag 2 (Go.Fg.sm (n + 1) fun i => Go.Fg.sm (n + 1 - i) fun j => C ((f.c i).c j) * (Go.Fg.pw a i * Go.Fg.pw b j)) (Go.Fg.sm 2 fun i => Go.Fg.sm (n + 1 - i) fun j => C ((f.c i).c j) * (Go.Fg.pw a i * Go.Fg.pw b j)) :=
     Ag.sm_drop (by omega) (fun i h1 h2 => (Ag.sm (g := fun _ => 0) (fun j hj => Ag.low2 ha hb (by omega) _)).trans (Ag.of_eq (sm_zero (fun _ _ => rfl))))
   refine x1.trans ?_
   rw [sm_succ, sm_succ, sm_zero', CR.zero_add]
   refine Ag.add ?_ ?_
   · refine (Ag.sm_drop (n := 2) (by omega) (fun j h1 h2 => Ag.low2 ha hb (by omega) _)).trans (Ag.of_eq ?_)
     rw [sm_succ, sm_succ, sm_zero', CR.zero_add, L.z0, C_zero, Go.Fg.zero_mul, CR.zero_add, L.sym 0 1 (by omega), L.z1, Go.Fg.pw_zero, Go.Fg.pw_one, CR.one_mul]
     exact CR.one_mul _
   · refine (Ag.sm_drop (n := 1) (by omega) (fun j h1 h2 => Ag.low2 ha hb (by omega) _)).trans (Ag.of_eq ?_)
     rw [sm_succ, sm_zero', CR.zero_add, L.z1, Go.Fg.pw_zero, Go.Fg.pw_one, Go.Fg.mul_one]
     exact CR.one_mul _
 have := h 1 (by omega)
 rw [this, add_c, CR.add_comm]
theorem evT_mono_c {n : Nat} {u v : PS R} {e : R} (h : Ag (n + 1) u (v + mono n e)) : u.c n = v.c n + e := by
 rw [h n (by omega), add_c, mono_c, if_pos rfl]
section
variable {n : Nat} {f : PS (PS R)} (L : Lw f n)
include L
theorem defect {a b c : PS R} (ha : a.c 0 = 0) (hb : b.c 0 = 0) (hc : c.c 0 = 0) :
   Ag (n + 1) (evT (n + 1) f (evT (n + 1) f a b) c) (evT (n + 1) f a (evT (n + 1) f b c) + mono n (Gm n (gam f (n + 1)) (a.c 1) (b.c 1) (c.c 1))) := evT_defect f L.z0 ha hb hc L.as
theorem pentagon {w x y z : PS R} (hw : w.c 0 = 0) (hx : x.c 0 = 0) (hy : y.c 0 = 0) (hz : z.c 0 = 0) :
   Gm n (gam f (n + 1)) (w.c 1 + x.c 1) (y.c 1) (z.c 1) + Gm n (gam f (n + 1)) (w.c 1) (x.c 1) (y.c 1 + z.c 1)
     = Gm n (gam f (n + 1)) (w.c 1) (x.c 1) (y.c 1) + Gm n (gam f (n + 1)) (w.c 1) (x.c 1 + y.c 1) (z.c 1) + Gm n (gam f (n + 1)) (x.c 1) (y.c 1) (z.c 1) := by
 have hwx := evT_0 (N := n + 1) L.z0 hw hx
 have hxy := evT_0 (N := n + 1) L.z0 hx hy
 have hyz := evT_0 (N := n + 1) L.z0 hy hz
 have hxyz := evT_0 (N := n + 1) L.z0 hx hyz
 have hwxy := evT_0 (N := n + 1) L.z0 hw hxy
 have A := evT_mono_c (defect L hwx hy hz)
 have B := evT_mono_c (defect L hw hx hyz)
 have c1 := (evT_congr (f := f) (fun i j _ => rfl) (defect L hw hx hy) (Ag.rfl (a := z))).trans (evT_pert L.pos f L.z1 hwxy hz _)
 have Cc := evT_mono_c c1
 have D := evT_mono_c (defect L hw hxy hz)
 have e1 := (evT_congr (f := f) (fun i j _ => rfl) (Ag.rfl (a := w)) (defect L hx hy hz)).trans (evT_pert2 L hw hxyz _)
 have Ec := evT_mono_c e1
 rw [evT_lead L hw hx] at A
 rw [evT_lead L hy hz] at B
 rw [evT_lead L hx hy] at D
 rw [B] at A
 rw [D, Ec] at Cc
 have key := A.symm.trans Cc
 refine add_left_cancel (a := (evT (n + 1) f w (evT (n + 1) f x (evT (n + 1) f y z))).c n) ?_
 rw [CR.add_comm (Gm n (gam f (n + 1)) (w.c 1 + x.c 1) (y.c 1) (z.c 1)), ← CR.add_assoc, key]
 ac_rfl
theorem Gm_anti {x y z : PS R} (hx : x.c 0 = 0) (hy : y.c 0 = 0) (hz : z.c 0 = 0) : Gm n (gam f (n + 1)) (x.c 1) (y.c 1) (z.c 1) + Gm n (gam f (n + 1)) (z.c 1) (y.c 1) (x.c 1) = 0 := by
 have hxy := evT_0 (N := n + 1) L.z0 hx hy
 have hyz := evT_0 (N := n + 1) L.z0 hy hz
 have hyx := evT_0 (N := n + 1) L.z0 hy hx
 have hzy := evT_0 (N := n + 1) L.z0 hz hy
 have A := evT_mono_c (defect L hx hy hz)
 have B := evT_mono_c (defect L hz hy hx)
 have e1 : Ag (n + 1) (evT (n + 1) f (evT (n + 1) f z y) x) (evT (n + 1) f x (evT (n + 1) f y z)) := (evT_comm f hzy hx L.sym).trans (evT_congr (fun i j _ => rfl) Ag.rfl (evT_comm f hz hy L.sym))
 have e2 : Ag (n + 1) (evT (n + 1) f z (evT (n + 1) f y x)) (evT (n + 1) f (evT (n + 1) f x y) z) := (evT_comm f hz hyx L.sym).trans (evT_congr (fun i j _ => rfl) (evT_comm f hy hx L.sym) Ag.rfl)
 rw [e1 n (by omega), e2 n (by omega), A] at B
 refine add_left_cancel (a := (evT (n + 1) f x (evT (n + 1) f y z)).c n) ?_
 rw [← CR.add_assoc, ← B, Go.Fg.add_zero]
theorem Gm_cyc {x y z : PS R} (hx : x.c 0 = 0) (hy : y.c 0 = 0) (hz : z.c 0 = 0) :
   Gm n (gam f (n + 1)) (x.c 1) (y.c 1) (z.c 1) + Gm n (gam f (n + 1)) (y.c 1) (z.c 1) (x.c 1) + Gm n (gam f (n + 1)) (z.c 1) (x.c 1) (y.c 1) = 0 := by
 have hxy := evT_0 (N := n + 1) L.z0 hx hy
 have hyz := evT_0 (N := n + 1) L.z0 hy hz
 have hzx := evT_0 (N := n + 1) L.z0 hz hx
 have A := evT_mono_c (defect L hx hy hz)
 have B := evT_mono_c (defect L hy hz hx)
 have D := evT_mono_c (defect L hz hx hy)
 rw [evT_comm f hx hyz L.sym n (by omega), B, evT_comm f hy hzx L.sym n (by omega), D, evT_comm f hz hxy L.sym n (by omega)] at A
 refine add_left_cancel (a := (evT (n + 1) f (evT (n + 1) f x y) z).c n) ?_
 rw [Go.Fg.add_zero]
 refine Eq.trans ?_ A.symm
 ac_rfl
end
end PS
end Go.Fg
namespace Go.Fg
open CR
namespace PS
variable {R : Type} [CR R]
def up (f : PS (PS R)) : PS (PS (PS R)) := ⟨fun i => ⟨fun j => C ((f.c i).c j)⟩⟩
theorem up_cc (f : PS (PS R)) (i j : Nat) : ((up f).c i).c j = C ((f.c i).c j) := rfl
theorem up_mul (f g : PS (PS R)) : up (f * g) = up f * up g := by
 refine PS.ext (fun i => PS.ext (fun j => ?_))
 rw [up_cc, mul_c, mul_c, sm_c, sm_c, C_sm]
 refine sm_congr (fun p _ => ?_)
 rw [mul_c, mul_c, C_sm]
 exact sm_congr (fun q _ => by rw [← C_mul_C]; rfl)
theorem up_one : up (1 : PS (PS R)) = 1 := by
 refine PS.ext (fun i => PS.ext (fun j => ?_))
 rw [up_cc, one_c, one_c]
 by_cases h : i = 0
 · rw [if_pos h, if_pos h, one_c, one_c]
   by_cases h2 : j = 0
   · rw [if_pos h2, if_pos h2]; rfl
   · rw [if_neg h2, if_neg h2]; exact C_zero
 · rw [if_neg h, if_neg h]; exact C_zero
theorem up_pw (f : PS (PS R)) (k : Nat) : Go.Fg.pw (up f) k = up (Go.Fg.pw f k) := by
 induction k with
 | zero => exact up_one.symm
 | succ k ih => rw [pw_succ, pw_succ, up_mul, ih]
theorem C_neg (a : R) : C (-a) = -C a := by
 refine Go.Fg.neg_unique ?_
 rw [C_add_C, Go.Fg.add_neg]; exact C_zero
theorem gam_up (f : PS (PS R)) (N p q k : Nat) : gam (up f) N p q k = C (gam f N p q k) := by
 unfold gam
 rw [Go.Fg.sub_def, Go.Fg.sub_def, ← C_add_C, C_neg, C_sm, C_sm]
 refine congr (congrArg _ (sm_congr (fun i _ => ?_))) (congrArg _ (sm_congr (fun i _ => ?_)))
 · rw [up_pw, ← C_mul_C]; rfl
 · rw [up_pw, ← C_mul_C]; rfl
theorem Lw.up {f : PS (PS R)} {n : Nat} (L : Lw f n) : Lw (up f) n where
 pos := L.pos
 z0 := by rw [up_cc, L.z0, C_zero]
 z1 := by rw [up_cc, L.z1]; rfl
 zz := fun i h1 h2 => by rw [up_cc, L.zz i h1 h2, C_zero]
 sym := fun i j h => by rw [up_cc, up_cc, L.sym i j h]
 as := fun p q k h => by rw [gam_up, L.as p q k h, C_zero]
theorem Gm_c {n : Nat} (g : Nat → Nat → Nat → R) {X Y Z : PS R} {K p0 q0 k0 : Nat} {β : R} (h0 : p0 + q0 + k0 = n)
   (h : ∀ p q k, p + q + k = n → (Go.Fg.pw X p * (Go.Fg.pw Y q * Go.Fg.pw Z k)).c K = if p = p0 ∧ q = q0 ∧ k = k0 then β else 0) :
   (Gm n (fun p q k => C (g p q k)) X Y Z).c K = g p0 q0 k0 * β := by
 unfold Gm
 rw [sm_c, sm_one p0 (by omega) (fun p hp hne => ?_), sm_c, sm_one q0 (by omega) (fun q hq hne => ?_), sm_c, sm_one k0 (by omega) (fun k hk hne => ?_), if_pos h0, C_mul, h p0 q0 k0 h0, if_pos ⟨rfl, rfl, rfl⟩]
 · split
   · rename_i e; omega
   · rfl
 · rw [sm_c]; refine sm_zero (fun k hk => ?_)
   split
   · rename_i e; rw [C_mul, h _ _ _ e, if_neg (by omega), Go.Fg.mul_zero]
   · rfl
 · rw [sm_c]; refine sm_zero (fun q hq => ?_)
   rw [sm_c]; refine sm_zero (fun k hk => ?_)
   split
   · rename_i e; rw [C_mul, h _ _ _ e, if_neg (by omega), Go.Fg.mul_zero]
   · rfl
theorem Gm_c0 {n : Nat} (g : Nat → Nat → Nat → R) {X Y Z : PS R} {K : Nat} (h : ∀ p q k, p + q + k = n → (Go.Fg.pw X p * (Go.Fg.pw Y q * Go.Fg.pw Z k)).c K = 0) :
   (Gm n (fun p q k => C (g p q k)) X Y Z).c K = 0 := by
 unfold Gm
 rw [sm_c]; refine sm_zero (fun p hp => ?_)
 rw [sm_c]; refine sm_zero (fun q hq => ?_)
 rw [sm_c]; refine sm_zero (fun k hk => ?_)
 split
 · rename_i e; rw [C_mul, h _ _ _ e, Go.Fg.mul_zero]
 · rfl
end PS
variable {m : Int}
open PS
theorem pw_two (A B p : Nat) : Go.Fg.pw (mono A (1 : Zm m) + mono B 1) p = sm (p + 1) fun i => mono (A * i + B * (p - i)) (Zm.mk m (bin p i : Nat)) := by
 induction p with
 | zero =>
   rw [pw_zero, sm_succ, sm_zero', CR.zero_add]
   refine PS.ext (fun i => ?_)
   rw [one_c, mono_c, Nat.sub_self, Nat.mul_zero, Nat.mul_zero]
   rfl
 | succ p ih =>
   have e1 : ∀ i, i < p + 1 → mono (A * i + B * (p - i)) (Zm.mk m (bin p i : Nat)) * (mono A (1 : Zm m) + mono B 1) = mono (A * (i + 1) + B * (p - i)) (Zm.mk m (bin p i : Nat)) + mono (A * i + B * (p + 1 - i)) (Zm.mk m (bin p i : Nat)) := fun i hi => by
     rw [CR.mul_add, mono_mul, mono_mul, Go.Fg.mul_one, show p + 1 - i = (p - i) + 1 by omega, Nat.mul_add, Nat.mul_add, Nat.mul_one, Nat.mul_one, Nat.add_assoc (A * i) (B * (p - i)) B, Nat.add_right_comm]
   rw [pw_succ, ih, sm_mul_right, sm_congr e1, sm_add]
   have e2 : sm (p + 1 + 1) (fun i => mono (A * i + B * (p + 1 - i)) (Zm.mk m (bin p i : Nat))) = sm (p + 1) fun i => mono (A * i + B * (p + 1 - i)) (Zm.mk m (bin p i : Nat)) := by
     rw [sm_succ, bin_gt (by omega), show Zm.mk m ((0 : Nat) : Int) = 0 from rfl, mono_zero, Go.Fg.add_zero]
   rw [← e2, sm_succ_left (p + 1) fun i => mono (A * i + B * (p + 1 - i)) (Zm.mk m (bin p i : Nat)), sm_succ_left (p + 1) fun i => mono (A * i + B * (p + 1 - i)) (Zm.mk m (bin (p + 1) i : Nat)), bin_zero, bin_zero]
   rw [← CR.add_assoc, CR.add_comm (sm (p + 1) _), CR.add_assoc, ← sm_add]
   congr 1
   refine sm_congr (fun i hi => ?_)
   rw [bin_succ, Int.natCast_add, Zm.mk_add, mono_add, show p + 1 - (i + 1) = p - i by omega]
theorem pw_one' (A p : Nat) : Go.Fg.pw (mono A (1 : Zm m)) p = mono (p * A) 1 := by rw [pw_mono, one_pw]
theorem two_c (A B p M K i0 : Nat) (P : Prop) [Decidable P] (h1 : P → A * i0 + B * (p - i0) + M = K ∧ i0 ≤ p) (h2 : ∀ i, i ≤ p → A * i + B * (p - i) + M = K → P ∧ i = i0) :
   ((sm (p + 1) fun i => mono (A * i + B * (p - i)) (Zm.mk m (bin p i : Nat))) * mono M 1).c K = if P then Zm.mk m (bin p i0 : Nat) else 0 := by
 rw [sm_mul_right, sm_c]
 by_cases hP : P
 · rw [if_pos hP, sm_one i0 (by have := h1 hP; omega) (fun i hi hne => ?_), mono_mul, mono_c, if_pos (h1 hP).1.symm, Go.Fg.mul_one]
   rw [mono_mul, mono_c, if_neg (fun e => hne (h2 i (by omega) e.symm).2)]
 · rw [if_neg hP]
   exact sm_zero (fun i hi => by rw [mono_mul, mono_c, if_neg (fun e => hP (h2 i (by omega) e.symm).1)])
theorem kron4 {a b c d a' b' c' d' : Nat} (h1 : a ≤ 10) (h2 : b ≤ 10) (h3 : c ≤ 10) (k1 : a' ≤ 10) (k2 : b' ≤ 10) (k3 : c' ≤ 10) (e : a + 11 * b + 121 * c + 1331 * d = a' + 11 * b' + 121 * c' + 1331 * d') : a = a' ∧ b = b' ∧ c = c' ∧ d = d' := by
 have e1 : a = a' := by omega
 subst e1
 have e2 : b = b' := by omega
 subst e2
 have e3 : c = c' := by omega
 subst e3
 exact ⟨rfl, rfl, rfl, by omega⟩
section
variable {f : PS (PS (Zm m))} {n : Nat}
theorem Gm_up (x y z : PS (Zm m)) : Gm n (gam (up f) (n + 1)) x y z = Gm n (fun p q k => C (gam f (n + 1) p q k)) x y z := by
 refine congrArg (fun g => Gm n g x y z) ?_
 funext p q k; exact gam_up f (n + 1) p q k
theorem mono3 (a b c p q k : Nat) : Go.Fg.pw (mono a (1 : Zm m)) p * (Go.Fg.pw (mono b 1) q * Go.Fg.pw (mono c 1) k) = mono (a * p + b * q + c * k) 1 := by
 rw [pw_one', pw_one', pw_one', mono_mul, mono_mul, Go.Fg.mul_one, Go.Fg.mul_one, Nat.mul_comm p, Nat.mul_comm q, Nat.mul_comm k, Nat.add_assoc]
theorem crv_0 (u : PS (Zm m)) : (mono 1 u).c 0 = 0 := rfl
theorem crv_1 (u : PS (Zm m)) : (mono 1 u).c 1 = u := rfl
theorem gam_anti (L : Lw f n) (hn : n ≤ 10) {p q k : Nat} (h : p + q + k = n) : gam f (n + 1) p q k + gam f (n + 1) k q p = 0 := by
 have e := congrArg (fun s => s.c (p + 11 * q + 121 * k)) (Gm_anti L.up (crv_0 (mono 1 1)) (crv_0 (mono 11 1)) (crv_0 (mono 121 1)))
 simp only [add_c, crv_1, Gm_up] at e
 rw [Gm_c (gam f (n + 1)) (β := 1) h (fun p' q' k' h' => ?_), Gm_c (gam f (n + 1)) (β := 1) (p0 := k) (q0 := q) (k0 := p) (by omega) (fun p' q' k' h' => ?_), Go.Fg.mul_one, Go.Fg.mul_one] at e
 · exact e
 · rw [mono3, mono_c]
   by_cases e : p' = k ∧ q' = q ∧ k' = p
   · rw [if_pos e, if_pos (by omega)]
   · rw [if_neg e, if_neg (by omega)]
 · rw [mono3, mono_c]
   by_cases e : p' = p ∧ q' = q ∧ k' = k
   · rw [if_pos e, if_pos (by omega)]
   · rw [if_neg e, if_neg (by omega)]
theorem gam_cyc (L : Lw f n) (hn : n ≤ 10) {p q k : Nat} (h : p + q + k = n) : gam f (n + 1) p q k + gam f (n + 1) q k p + gam f (n + 1) k p q = 0 := by
 have e := congrArg (fun s => s.c (p + 11 * q + 121 * k)) (Gm_cyc L.up (crv_0 (mono 1 1)) (crv_0 (mono 11 1)) (crv_0 (mono 121 1)))
 simp only [add_c, crv_1, Gm_up] at e
 rw [Gm_c (gam f (n + 1)) (β := 1) h (fun p' q' k' h' => ?_), Gm_c (gam f (n + 1)) (β := 1) (p0 := q) (q0 := k) (k0 := p) (by omega) (fun p' q' k' h' => ?_),
   Gm_c (gam f (n + 1)) (β := 1) (p0 := k) (q0 := p) (k0 := q) (by omega) (fun p' q' k' h' => ?_), Go.Fg.mul_one, Go.Fg.mul_one, Go.Fg.mul_one] at e
 · exact e
 · rw [mono3, mono_c]
   by_cases e : p' = k ∧ q' = p ∧ k' = q
   · rw [if_pos e, if_pos (by omega)]
   · rw [if_neg e, if_neg (by omega)]
 · rw [mono3, mono_c]
   by_cases e : p' = q ∧ q' = k ∧ k' = p
   · rw [if_pos e, if_pos (by omega)]
   · rw [if_neg e, if_neg (by omega)]
 · rw [mono3, mono_c]
   by_cases e : p' = p ∧ q' = q ∧ k' = k
   · rw [if_pos e, if_pos (by omega)]
   · rw [if_neg e, if_neg (by omega)]
theorem gam_pent (L : Lw f n) (hn : n ≤ 10) {i j k l : Nat} (hi : 1 ≤ i) (hl : 1 ≤ l) (h : i + j + k + l = n) :
   gam f (n + 1) (i + j) k l * Zm.mk m (bin (i + j) i : Nat) + gam f (n + 1) i j (k + l) * Zm.mk m (bin (k + l) k : Nat) = gam f (n + 1) i (j + k) l * Zm.mk m (bin (j + k) j : Nat) := by
 have e := congrArg (fun s => s.c (i + 11 * j + 121 * k + 1331 * l)) (pentagon L.up (crv_0 (mono 1 1)) (crv_0 (mono 11 1)) (crv_0 (mono 121 1)) (crv_0 (mono 1331 1)))
 simp only [add_c, crv_1, Gm_up] at e
 rw [Gm_c (gam f (n + 1)) (p0 := i + j) (q0 := k) (k0 := l) (β := Zm.mk m (bin (i + j) i : Nat)) (by omega) (fun p' q' k' h' => ?_),
   Gm_c (gam f (n + 1)) (p0 := i) (q0 := j) (k0 := k + l) (β := Zm.mk m (bin (k + l) k : Nat)) (by omega) (fun p' q' k' h' => ?_),
   Gm_c0 (gam f (n + 1)) (fun p' q' k' h' => ?_),
   Gm_c (gam f (n + 1)) (p0 := i) (q0 := j + k) (k0 := l) (β := Zm.mk m (bin (j + k) j : Nat)) (by omega) (fun p' q' k' h' => ?_),
   Gm_c0 (gam f (n + 1)) (fun p' q' k' h' => ?_), CR.zero_add, Go.Fg.add_zero] at e
 · exact e
 · rw [mono3, mono_c, if_neg (by omega)]
 · rw [show Go.Fg.pw (mono 1 (1 : Zm m)) p' * (Go.Fg.pw (mono 11 1 + mono 121 1) q' * Go.Fg.pw (mono 1331 1) k') = Go.Fg.pw (mono 11 1 + mono 121 1) q' * (Go.Fg.pw (mono 1 1) p' * Go.Fg.pw (mono 1331 1) k') by ac_rfl,
     pw_two, pw_one', pw_one', mono_mul, Go.Fg.mul_one, two_c 11 121 q' (p' * 1 + k' * 1331) _ j (p' = i ∧ q' = j + k ∧ k' = l) (by omega) (fun x hx e => by have := kron4 (a := p') (b := x) (c := q' - x) (d := k') (a' := i) (b' := j) (c' := k) (d' := l) (by omega) (by omega) (by omega) (by omega) (by omega) (by omega) (by omega); omega)]
   split
   · rename_i e; rw [e.2.1]
   · rfl
 · rw [mono3, mono_c, if_neg (by omega)]
 · rw [show Go.Fg.pw (mono 1 (1 : Zm m)) p' * (Go.Fg.pw (mono 11 1) q' * Go.Fg.pw (mono 121 1 + mono 1331 1) k') = Go.Fg.pw (mono 121 1 + mono 1331 1) k' * (Go.Fg.pw (mono 1 1) p' * Go.Fg.pw (mono 11 1) q') by ac_rfl,
     pw_two, pw_one', pw_one', mono_mul, Go.Fg.mul_one, two_c 121 1331 k' (p' * 1 + q' * 11) _ k (p' = i ∧ q' = j ∧ k' = k + l) (by omega) (fun x hx e => by have := kron4 (a := p') (b := q') (c := x) (d := k' - x) (a' := i) (b' := j) (c' := k) (d' := l) (by omega) (by omega) (by omega) (by omega) (by omega) (by omega) (by omega); omega)]
   split
   · rename_i e; rw [e.2.2]
   · rfl
 · rw [pw_two, pw_one', pw_one', mono_mul, Go.Fg.mul_one, two_c 1 11 p' (q' * 121 + k' * 1331) _ i (p' = i + j ∧ q' = k ∧ k' = l) (by omega) (fun x hx e => by have := kron4 (a := x) (b := p' - x) (c := q') (d := k') (a' := i) (b' := j) (c' := k) (d' := l) (by omega) (by omega) (by omega) (by omega) (by omega) (by omega) (by omega); omega)]
   split
   · rename_i e; rw [e.1]
   · rfl
end
end Go.Fg
namespace Go.Fg
open CR PS
inductive RK where
 | an (a b c : Nat)
 | cy (a b c : Nat)
 | pe (i j k l : Nat)
abbrev RV := List (Int × Nat × Nat × Nat)
def RK.vec : RK → RV
 | .an a b c => [(1, a, b, c), (1, c, b, a)]
 | .cy a b c => [(1, a, b, c), (1, b, c, a), (1, c, a, b)]
 | .pe i j k l => [((bin (i + j) i : Nat), i + j, k, l), ((bin (k + l) k : Nat), i, j, k + l), (-((bin (j + k) j : Nat) : Int), i, j + k, l)]
def RK.ok (n : Nat) : RK → Bool
 | .an a b c => a + b + c == n
 | .cy a b c => a + b + c == n
 | .pe i j k l => decide (1 ≤ i) && decide (1 ≤ l) && i + j + k + l == n
def rvS (g : Nat → Nat → Nat → Int) : RV → Int
 | [] => 0
 | (c, p, q, k) :: r => c * g p q k + rvS g r
def scl (c : Int) (l : RV) : RV := l.map fun x => (c * x.1, x.2)
def insR (x : Int × Nat × Nat × Nat) : RV → RV
 | [] => [x]
 | y :: r => if x.2.1 == y.2.1 && x.2.2.1 == y.2.2.1 && x.2.2.2 == y.2.2.2 then (x.1 + y.1, y.2) :: r else y :: insR x r
def nfR : RV → RV
 | [] => []
 | x :: r => insR x (nfR r)
def cmb : List (Int × RK) → RV
 | [] => []
 | (c, k) :: r => scl c k.vec ++ cmb r
theorem rvS_append (g) (a b : RV) : rvS g (a ++ b) = rvS g a + rvS g b := by
 induction a with
 | nil => simp [rvS]
 | cons x r ih => obtain ⟨c, p, q, k⟩ := x; simp only [List.cons_append, rvS, ih, Int.add_assoc]
theorem rvS_scl (g) (c : Int) (a : RV) : rvS g (scl c a) = c * rvS g a := by
 induction a with
 | nil => simp [rvS, scl]
 | cons x r ih =>
   obtain ⟨d, p, q, k⟩ := x
   simp only [scl, List.map_cons, rvS] at ih ⊢
   rw [ih, Int.mul_add, Int.mul_assoc]
theorem rvS_ins (g) (x : Int × Nat × Nat × Nat) (a : RV) : rvS g (insR x a) = rvS g [x] + rvS g a := by
 induction a with
 | nil => simp [rvS, insR]
 | cons y r ih =>
   obtain ⟨c, p, q, k⟩ := x
   obtain ⟨c', p', q', k'⟩ := y
   unfold insR
   split
   · rename_i h
     simp only [Bool.and_eq_true, beq_iff_eq] at h
     obtain ⟨⟨h1, h2⟩, h3⟩ := h
     subst h1 h2 h3
     simp only [rvS, Int.add_mul]; omega
   · simp only [rvS] at ih ⊢; omega
theorem rvS_nf (g) (a : RV) : rvS g (nfR a) = rvS g a := by
 induction a with
 | nil => rfl
 | cons x r ih =>
   obtain ⟨c, p, q, k⟩ := x
   rw [nfR, rvS_ins, ih]; simp only [rvS]; omega
def zerR (a : RV) : Bool := (nfR a).all fun x => x.1 == 0
theorem rvS_all (g) (a : RV) (h : (a.all fun x => x.1 == 0) = true) : rvS g a = 0 := by
 induction a with
 | nil => rfl
 | cons x r ih =>
   obtain ⟨c, p, q, k⟩ := x
   simp only [List.all_cons, Bool.and_eq_true, beq_iff_eq] at h
   simp only [rvS, h.1, ih h.2]; omega
theorem rvS_zer {g} {a : RV} (h : zerR a = true) : rvS g a = 0 := by rw [← rvS_nf]; exact rvS_all g _ h
theorem cmb_dvd {m : Int} {g : Nat → Nat → Nat → Int} {n : Nat} (hr : ∀ k : RK, k.ok n = true → m ∣ rvS g k.vec) (l : List (Int × RK)) (h : (l.all fun x => x.2.ok n) = true) : m ∣ rvS g (cmb l) := by
 induction l with
 | nil => exact Int.dvd_zero m
 | cons x r ih =>
   obtain ⟨c, k⟩ := x
   simp only [List.all_cons, Bool.and_eq_true] at h
   rw [cmb, rvS_append, rvS_scl]
   exact Int.dvd_add (Int.dvd_trans (hr k h.1) (Int.dvd_mul_left _ _)) (ih h.2)
def hdL : Nat → List RV
 | 2 => [[], []]
 | 3 => [[], []]
 | 4 => [[], [(1, 2, 1, 1)], [(2, 2, 1, 1)]]
 | 5 => [[], [], [(-1, 2, 2, 1), (2, 3, 1, 1)]]
 | 6 => [[], [(-16, 3, 2, 1), (3, 4, 1, 1)], [(-40, 3, 2, 1), (8, 4, 1, 1)], [(-53, 3, 2, 1), (10, 4, 1, 1)]]
 | 7 => [[], [], [(-1, 4, 1, 2), (1, 4, 2, 1), (-2, 5, 1, 1)], [(1, 3, 3, 1), (-1, 4, 2, 1)]]
 | 8 => [[], [(-12, 4, 1, 3), (6, 4, 2, 2), (4, 4, 3, 1), (-18, 5, 1, 2), (-2, 5, 2, 1), (-9, 6, 1, 1)], [(-42, 4, 1, 3), (21, 4, 2, 2), (14, 4, 3, 1), (-63, 5, 1, 2), (-7, 5, 2, 1), (-31, 6, 1, 1)], [(-92, 4, 1, 3), (46, 4, 2, 2), (30, 4, 3, 1), (-138, 5, 1, 2), (-15, 5, 2, 1), (-69, 6, 1, 1)], [(-108, 4, 1, 3), (54, 4, 2, 2), (36, 4, 3, 1), (-162, 5, 1, 2), (-18, 5, 2, 1), (-81, 6, 1, 1)]]
 | 9 => [[], [(-1, 6, 2, 1)], [(-1, 6, 1, 2), (-3, 6, 2, 1), (-3, 7, 1, 1)], [(-9, 6, 2, 1)], [(1, 4, 4, 1), (-1, 5, 3, 1), (-14, 6, 2, 1)]]
 | 10 => [[], [(-92, 4, 4, 2), (-322, 5, 1, 4), (276, 5, 4, 1), (-138, 6, 3, 1), (-3215, 8, 1, 1)], [(-414, 4, 4, 2), (-1449, 5, 1, 4), (1242, 5, 4, 1), (-621, 6, 3, 1), (-14467, 8, 1, 1)], [(1, 4, 3, 3), (-1104, 4, 4, 2), (-3864, 5, 1, 4), (3312, 5, 4, 1), (-1661, 6, 3, 1), (12, 7, 2, 1), (-38580, 8, 1, 1)], [(-1931, 4, 4, 2), (-6759, 5, 1, 4), (5793, 5, 4, 1), (-2897, 6, 3, 1), (-67480, 8, 1, 1)], [(-2318, 4, 4, 2), (-8113, 5, 1, 4), (6954, 5, 4, 1), (-3477, 6, 3, 1), (-81004, 8, 1, 1)]]
 | _ => []
def ctL : Nat → List (List (List (Int × RK)))
 | 2 => []
 | 3 => [[[(-1, .an 1 1 1), (1, .cy 1 1 1)]]]
 | 4 => [[[(1, .an 1 1 2)], [(-1, .an 1 1 2), (1, .cy 1 1 2)]],
   [[]]]
 | 5 => [[[(7, .an 1 1 3), (-3, .cy 1 1 3), (-1, .pe 1 1 2 1)], [(12, .an 1 1 3), (1, .an 1 2 2), (-6, .cy 1 1 3), (-2, .pe 1 1 2 1)], [(-1, .an 1 1 3), (1, .cy 1 1 3)]],
   [[(-1, .an 1 2 2), (1, .cy 1 2 2)], [(-12, .an 1 1 3), (6, .cy 1 1 3), (2, .pe 1 1 2 1)]],
   [[(-6, .an 1 1 3), (3, .cy 1 1 3), (1, .pe 1 1 2 1)]]]
 | 6 => [[[(1, .an 1 1 4)], [(1, .an 1 2 3)], [(-2, .an 1 2 3), (1, .an 1 3 2), (-1, .an 2 2 2), (2, .cy 1 2 3), (1, .pe 2 2 1 1), (-1, .pe 3 1 1 1)], [(-1, .an 1 1 4), (1, .cy 1 1 4)]],
   [[(3, .an 1 2 3), (1, .an 2 1 3), (1, .an 2 2 2), (-3, .cy 1 2 3), (-1, .pe 2 2 1 1), (1, .pe 3 1 1 1)], [(-1, .an 2 2 2), (1, .cy 2 2 2)], [(2, .an 1 2 3), (1, .an 2 2 2), (-2, .cy 1 2 3), (-1, .pe 2 2 1 1), (1, .pe 3 1 1 1)]],
   [[(-3, .an 1 2 3), (-1, .an 2 2 2), (3, .cy 1 2 3), (1, .pe 2 2 1 1), (-1, .pe 3 1 1 1)], []],
   [[]]]
 | 7 => [[[(1, .an 1 1 5), (-1, .pe 4 1 1 1)], [(1, .an 1 2 4), (4, .an 1 4 2), (-4, .cy 1 4 2), (1, .pe 2 1 3 1)], [(1, .an 1 3 3), (4, .an 1 4 2), (-4, .cy 1 4 2), (1, .pe 2 1 3 1)], [(-1, .an 2 1 4), (1, .cy 1 4 2), (-2, .pe 4 1 1 1)], [(-1, .an 1 1 5), (1, .cy 1 1 5)]],
   [[(4, .an 1 4 2), (1, .an 2 1 4), (-4, .cy 1 4 2), (1, .pe 2 1 3 1), (2, .pe 4 1 1 1)], [(7, .an 2 2 3), (-3, .cy 2 2 3), (-1, .pe 2 2 1 2), (-2, .pe 3 2 1 1), (8, .pe 4 1 1 1)], [(-1, .an 2 2 3), (1, .cy 2 2 3)], [(1, .an 1 4 2), (1, .an 2 1 4), (-1, .cy 1 4 2), (2, .pe 4 1 1 1)]],
   [[(-1, .an 1 3 3), (1, .cy 1 3 3)], [(-6, .an 2 2 3), (3, .cy 2 2 3), (1, .pe 2 2 1 2), (2, .pe 3 2 1 1), (-8, .pe 4 1 1 1)], [(-4, .an 1 4 2), (4, .cy 1 4 2), (-1, .pe 2 1 3 1)]],
   [[(-4, .an 1 4 2), (4, .cy 1 4 2), (-1, .pe 2 1 3 1), (-2, .pe 4 1 1 1)], [(-4, .an 1 4 2), (4, .cy 1 4 2), (-1, .pe 2 1 3 1)]],
   [[(1, .pe 4 1 1 1)]]]
 | 8 => [[[(1, .an 1 1 6)], [(1, .an 1 2 5), (-8, .pe 4 1 1 2), (-2, .pe 4 2 1 1), (2, .pe 5 1 1 1)], [(1, .an 1 3 4), (-4, .pe 4 1 1 2), (-1, .pe 4 2 1 1), (1, .pe 5 1 1 1)], [(1, .an 1 3 4), (1, .an 1 4 3), (-1, .cy 1 3 4), (-12, .pe 4 1 1 2), (-1, .pe 4 1 2 1), (-2, .pe 4 2 1 1)], [(1, .an 1 2 5), (1, .an 1 5 2), (-1, .cy 1 2 5), (-1, .pe 4 1 1 2), (1, .pe 4 1 2 1), (-1, .pe 4 2 1 1), (3, .pe 5 1 1 1)], [(-1, .an 1 1 6), (1, .cy 1 1 6)]],
   [[(1, .an 2 1 5), (-7, .pe 4 1 1 2), (-1, .pe 4 1 2 1), (-1, .pe 4 2 1 1), (-1, .pe 5 1 1 1)], [(1, .an 2 2 4), (-5, .pe 4 1 1 2), (-1, .pe 4 1 2 1), (-1, .pe 4 2 1 1), (-1, .pe 5 1 1 1)], [(8, .an 1 3 4), (1, .an 2 3 3), (6, .an 3 1 4), (-8, .cy 1 3 4), (-1, .pe 3 1 2 2), (-2, .pe 3 3 1 1), (-26, .pe 4 1 1 2), (-4, .pe 4 2 1 1), (5, .pe 5 1 1 1)], [(-1, .an 2 2 4), (1, .cy 2 2 4)], [(-1, .an 1 2 5), (1, .cy 1 2 5), (1, .pe 4 1 1 2), (-1, .pe 4 1 2 1), (1, .pe 4 2 1 1), (-3, .pe 5 1 1 1)]],
   [[(1, .an 3 1 4), (8, .pe 4 1 1 2), (1, .pe 4 1 2 1), (1, .pe 4 2 1 1), (1, .pe 5 1 1 1)], [(-1, .an 2 3 3), (1, .cy 2 3 3)], [(-8, .an 1 3 4), (-6, .an 3 1 4), (8, .cy 1 3 4), (1, .pe 3 1 2 2), (2, .pe 3 3 1 1), (26, .pe 4 1 1 2), (4, .pe 4 2 1 1), (-5, .pe 5 1 1 1)], [(-1, .an 1 3 4), (1, .cy 1 3 4), (12, .pe 4 1 1 2), (1, .pe 4 1 2 1), (2, .pe 4 2 1 1)]],
   [[(-8, .pe 4 1 1 2), (-1, .pe 4 1 2 1), (-1, .pe 4 2 1 1), (-1, .pe 5 1 1 1)], [(5, .pe 4 1 1 2), (1, .pe 4 1 2 1), (1, .pe 4 2 1 1), (1, .pe 5 1 1 1)], [(4, .pe 4 1 1 2), (1, .pe 4 2 1 1), (-1, .pe 5 1 1 1)]],
   [[(7, .pe 4 1 1 2), (1, .pe 4 1 2 1), (1, .pe 4 2 1 1), (1, .pe 5 1 1 1)], [(8, .pe 4 1 1 2), (2, .pe 4 2 1 1), (-2, .pe 5 1 1 1)]],
   [[]]]
 | 9 => [[[(1, .an 1 1 7), (-1, .pe 6 1 1 1)], [(1, .an 1 2 6)], [(1, .an 1 3 5), (-4, .an 1 4 4), (4, .cy 1 4 4), (-1, .pe 4 1 3 1)], [(-3, .an 1 4 4), (4, .cy 1 4 4), (-1, .pe 4 1 3 1)], [(-9, .an 1 3 5), (1, .an 1 5 3), (9, .cy 1 3 5), (-1, .cy 3 3 3), (1, .pe 3 3 2 1), (-3, .pe 5 1 2 1)], [(-1, .an 2 1 6), (1, .cy 1 6 2), (-3, .pe 6 1 1 1)], [(-1, .an 1 1 7), (1, .cy 1 1 7)]],
   [[(1, .an 2 1 6), (3, .pe 6 1 1 1)], [(-210, .an 1 3 5), (-6, .an 1 4 4), (1, .an 2 2 5), (210, .cy 1 3 5), (6, .cy 1 4 4), (-21, .cy 3 3 3), (21, .pe 3 3 2 1), (-6, .pe 4 1 1 3), (1, .pe 4 1 2 2), (3, .pe 4 1 3 1), (-1, .pe 4 2 1 2), (-3, .pe 4 2 2 1), (3, .pe 5 1 1 2), (-63, .pe 5 1 2 1), (9, .pe 6 1 1 1)], [(-300, .an 1 3 5), (-8, .an 1 4 4), (1, .an 2 3 4), (300, .cy 1 3 5), (8, .cy 1 4 4), (-30, .cy 3 3 3), (30, .pe 3 3 2 1), (-6, .pe 4 1 1 3), (4, .pe 4 1 3 1), (-1, .pe 4 2 1 2), (-3, .pe 4 2 2 1), (-2, .pe 4 3 1 1), (-90, .pe 5 1 2 1), (25, .pe 6 1 1 1)], [(-400, .an 1 3 5), (1, .an 2 3 4), (1, .an 2 4 3), (400, .cy 1 3 5), (-1, .cy 2 3 4), (-40, .cy 3 3 3), (40, .pe 3 3 2 1), (-8, .pe 4 1 1 3), (8, .pe 4 1 3 1), (-1, .pe 4 2 1 2), (-4, .pe 4 2 2 1), (-2, .pe 4 3 1 1), (-120, .pe 5 1 2 1), (25, .pe 6 1 1 1)], [(-1, .an 2 2 5), (1, .cy 2 2 5)], [(1, .an 1 6 2), (1, .an 2 1 6), (-1, .cy 1 6 2), (3, .pe 6 1 1 1)]],
   [[(10, .an 1 3 5), (-4, .an 1 4 4), (1, .an 3 1 5), (-10, .cy 1 3 5), (4, .cy 1 4 4), (1, .cy 3 3 3), (-1, .pe 3 3 2 1), (-1, .pe 4 1 3 1), (3, .pe 5 1 2 1)], [(100, .an 1 3 5), (-8, .an 1 4 4), (1, .an 3 2 4), (-100, .cy 1 3 5), (8, .cy 1 4 4), (10, .cy 3 3 3), (-10, .pe 3 3 2 1), (2, .pe 4 1 1 3), (-4, .pe 4 1 3 1), (1, .pe 4 2 2 1), (30, .pe 5 1 2 1)], [(-1, .an 3 3 3), (1, .cy 3 3 3)], [(400, .an 1 3 5), (-1, .an 2 3 4), (-400, .cy 1 3 5), (1, .cy 2 3 4), (40, .cy 3 3 3), (-40, .pe 3 3 2 1), (8, .pe 4 1 1 3), (-8, .pe 4 1 3 1), (1, .pe 4 2 1 2), (4, .pe 4 2 2 1), (2, .pe 4 3 1 1), (120, .pe 5 1 2 1), (-25, .pe 6 1 1 1)], [(9, .an 1 3 5), (-9, .cy 1 3 5), (1, .cy 3 3 3), (-1, .pe 3 3 2 1), (3, .pe 5 1 2 1)]],
   [[(-1, .an 1 4 4), (1, .cy 1 4 4)], [(-100, .an 1 3 5), (8, .an 1 4 4), (100, .cy 1 3 5), (-8, .cy 1 4 4), (-10, .cy 3 3 3), (10, .pe 3 3 2 1), (-2, .pe 4 1 1 3), (4, .pe 4 1 3 1), (-1, .pe 4 2 2 1), (-30, .pe 5 1 2 1)], [(300, .an 1 3 5), (8, .an 1 4 4), (-300, .cy 1 3 5), (-8, .cy 1 4 4), (30, .cy 3 3 3), (-30, .pe 3 3 2 1), (6, .pe 4 1 1 3), (-4, .pe 4 1 3 1), (1, .pe 4 2 1 2), (3, .pe 4 2 2 1), (2, .pe 4 3 1 1), (90, .pe 5 1 2 1), (-25, .pe 6 1 1 1)], [(4, .an 1 4 4), (-4, .cy 1 4 4), (1, .pe 4 1 3 1)]],
   [[(-10, .an 1 3 5), (4, .an 1 4 4), (10, .cy 1 3 5), (-4, .cy 1 4 4), (-1, .cy 3 3 3), (1, .pe 3 3 2 1), (1, .pe 4 1 3 1), (-3, .pe 5 1 2 1)], [(210, .an 1 3 5), (6, .an 1 4 4), (-210, .cy 1 3 5), (-6, .cy 1 4 4), (21, .cy 3 3 3), (-21, .pe 3 3 2 1), (6, .pe 4 1 1 3), (-1, .pe 4 1 2 2), (-3, .pe 4 1 3 1), (1, .pe 4 2 1 2), (3, .pe 4 2 2 1), (-3, .pe 5 1 1 2), (63, .pe 5 1 2 1), (-9, .pe 6 1 1 1)], [(4, .an 1 4 4), (-4, .cy 1 4 4), (1, .pe 4 1 3 1)]],
   [[(-3, .pe 6 1 1 1)], []],
   [[(1, .pe 6 1 1 1)]]]
 | 10 => [[[(1, .an 1 1 8)], [(1, .an 1 2 7), (-4, .an 2 4 4), (4, .cy 2 4 4), (-1, .pe 4 2 1 3), (5, .pe 6 1 2 1)], [(-14, .an 1 3 6), (10, .an 1 5 4), (4, .an 2 4 4), (-4, .cy 2 4 4), (1, .pe 1 3 2 4), (2, .pe 4 4 1 1), (3, .pe 5 1 3 1)], [(-15, .an 1 3 6), (6, .an 1 4 5), (10, .an 1 5 4), (4, .an 2 4 4), (-5, .cy 1 4 5), (-4, .cy 2 4 4), (1, .pe 1 3 2 4), (1, .pe 4 4 1 1), (3, .pe 5 1 3 1)], [(-30, .an 1 3 6), (6, .an 1 4 5), (21, .an 1 5 4), (8, .an 2 4 4), (-6, .cy 1 4 5), (-8, .cy 2 4 4), (2, .pe 1 3 2 4), (3, .pe 4 4 1 1), (6, .pe 5 1 3 1)], [(1, .an 1 3 6), (21, .an 1 6 3), (-4, .an 2 4 4), (-21, .cy 1 3 6), (4, .cy 2 4 4), (1, .pe 1 3 3 3), (-1, .pe 4 2 1 3), (12, .pe 6 1 2 1)], [(1, .an 1 2 7), (75, .an 1 3 6), (-60, .an 1 4 5), (-50, .an 1 5 4), (1, .an 1 7 2), (-16, .an 2 4 4), (-1, .cy 1 2 7), (60, .cy 1 4 5), (16, .cy 2 4 4), (-5, .pe 1 3 2 4), (1, .pe 4 2 1 3), (1, .pe 4 3 1 2), (2, .pe 4 4 1 1), (-15, .pe 5 1 3 1), (-5, .pe 6 1 2 1), (-17, .pe 7 1 1 1)], [(-1, .an 1 1 8), (1, .cy 1 1 8)]],
   [[(-75, .an 1 3 6), (60, .an 1 4 5), (50, .an 1 5 4), (1, .an 2 1 7), (12, .an 2 4 4), (-60, .cy 1 4 5), (-12, .cy 2 4 4), (5, .pe 1 3 2 4), (-2, .pe 4 2 1 3), (-1, .pe 4 3 1 2), (-2, .pe 4 4 1 1), (15, .pe 5 1 3 1), (10, .pe 6 1 2 1), (17, .pe 7 1 1 1)], [(3540, .an 1 3 6), (-2850, .an 1 4 5), (-2360, .an 1 5 4), (420, .an 1 6 3), (-29, .an 2 2 6), (-636, .an 2 4 4), (-420, .cy 1 3 6), (2850, .cy 1 4 5), (15, .cy 2 2 6), (636, .cy 2 4 4), (-236, .pe 1 3 2 4), (21, .pe 1 3 3 3), (1, .pe 2 2 4 2), (77, .pe 4 2 1 3), (49, .pe 4 3 1 2), (98, .pe 4 4 1 1), (-708, .pe 5 1 3 1), (-7, .pe 6 1 1 2), (-238, .pe 6 1 2 1), (-833, .pe 7 1 1 1)], [(-21450, .an 1 3 6), (17140, .an 1 4 5), (14300, .an 1 5 4), (-2520, .an 1 6 3), (180, .an 2 2 6), (1, .an 2 3 5), (3872, .an 2 4 4), (2520, .cy 1 3 6), (-17140, .cy 1 4 5), (-90, .cy 2 2 6), (-3872, .cy 2 4 4), (1430, .pe 1 3 2 4), (-126, .pe 1 3 3 3), (-6, .pe 2 2 4 2), (-462, .pe 4 2 1 3), (-294, .pe 4 3 1 2), (-568, .pe 4 4 1 1), (-1, .pe 5 1 2 2), (4290, .pe 5 1 3 1), (-2, .pe 5 3 1 1), (42, .pe 6 1 1 2), (1428, .pe 6 1 2 1), (4998, .pe 7 1 1 1)], [(-75, .an 1 3 6), (15, .an 1 4 5), (50, .an 1 5 4), (21, .an 2 4 4), (-15, .cy 1 4 5), (-20, .cy 2 4 4), (5, .pe 1 3 2 4), (7, .pe 4 4 1 1), (15, .pe 5 1 3 1)], [(-21435, .an 1 3 6), (17140, .an 1 4 5), (14290, .an 1 5 4), (-2160, .an 1 6 3), (180, .an 2 2 6), (3940, .an 2 4 4), (-1, .an 3 2 5), (10, .an 4 1 5), (2160, .cy 1 3 6), (-17140, .cy 1 4 5), (-90, .cy 2 2 6), (-3940, .cy 2 4 4), (1, .cy 2 5 3), (1429, .pe 1 3 2 4), (-108, .pe 1 3 3 3), (-6, .pe 2 2 4 2), (-1, .pe 4 1 2 3), (-444, .pe 4 2 1 3), (-294, .pe 4 3 1 2), (-570, .pe 4 4 1 1), (-3, .pe 5 1 1 3), (-1, .pe 5 1 2 2), (4287, .pe 5 1 3 1), (-2, .pe 5 3 1 1), (42, .pe 6 1 1 2), (1464, .pe 6 1 2 1), (4998, .pe 7 1 1 1)], [(-1, .an 2 2 6), (1, .cy 2 2 6)], [(-1, .an 1 2 7), (-75, .an 1 3 6), (60, .an 1 4 5), (50, .an 1 5 4), (16, .an 2 4 4), (1, .cy 1 2 7), (-60, .cy 1 4 5), (-16, .cy 2 4 4), (5, .pe 1 3 2 4), (-1, .pe 4 2 1 3), (-1, .pe 4 3 1 2), (-2, .pe 4 4 1 1), (15, .pe 5 1 3 1), (5, .pe 6 1 2 1), (17, .pe 7 1 1 1)]],
   [[(-15, .an 1 3 6), (10, .an 1 5 4), (-20, .an 1 6 3), (8, .an 2 4 4), (1, .an 3 1 6), (20, .cy 1 3 6), (-8, .cy 2 4 4), (1, .pe 1 3 2 4), (-1, .pe 1 3 3 3), (1, .pe 4 2 1 3), (2, .pe 4 4 1 1), (3, .pe 5 1 3 1), (-12, .pe 6 1 2 1)], [(-15, .an 1 3 6), (10, .an 1 5 4), (-360, .an 1 6 3), (-68, .an 2 4 4), (1, .an 3 2 5), (-10, .an 4 1 5), (360, .cy 1 3 6), (68, .cy 2 4 4), (1, .pe 1 3 2 4), (-18, .pe 1 3 3 3), (1, .pe 4 1 2 3), (-18, .pe 4 2 1 3), (2, .pe 4 4 1 1), (3, .pe 5 1 1 3), (3, .pe 5 1 3 1), (-36, .pe 6 1 2 1)], [(-75, .an 1 3 6), (50, .an 1 5 4), (68, .an 2 4 4), (1, .an 3 3 4), (-68, .cy 2 4 4), (5, .pe 1 3 2 4), (12, .pe 4 2 1 3), (10, .pe 4 4 1 1), (15, .pe 5 1 3 1), (-60, .pe 6 1 2 1)], [(-1, .an 3 3 4), (1, .cy 3 3 4)], [(21435, .an 1 3 6), (-17140, .an 1 4 5), (-14290, .an 1 5 4), (2160, .an 1 6 3), (-180, .an 2 2 6), (-3940, .an 2 4 4), (1, .an 2 5 3), (1, .an 3 2 5), (-10, .an 4 1 5), (-2160, .cy 1 3 6), (17140, .cy 1 4 5), (90, .cy 2 2 6), (3940, .cy 2 4 4), (-1, .cy 2 5 3), (-1429, .pe 1 3 2 4), (108, .pe 1 3 3 3), (6, .pe 2 2 4 2), (1, .pe 4 1 2 3), (444, .pe 4 2 1 3), (294, .pe 4 3 1 2), (570, .pe 4 4 1 1), (3, .pe 5 1 1 3), (1, .pe 5 1 2 2), (-4287, .pe 5 1 3 1), (2, .pe 5 3 1 1), (-42, .pe 6 1 1 2), (-1464, .pe 6 1 2 1), (-4998, .pe 7 1 1 1)], [(-1, .an 1 3 6), (-20, .an 1 6 3), (4, .an 2 4 4), (21, .cy 1 3 6), (-4, .cy 2 4 4), (-1, .pe 1 3 3 3), (1, .pe 4 2 1 3), (-12, .pe 6 1 2 1)]],
   [[(15, .an 1 3 6), (-10, .an 1 5 4), (-4, .an 2 4 4), (1, .an 4 1 5), (4, .cy 2 4 4), (-1, .pe 1 3 2 4), (-2, .pe 4 4 1 1), (-3, .pe 5 1 3 1)], [(-1, .an 2 4 4), (1, .cy 2 4 4)], [(75, .an 1 3 6), (-50, .an 1 5 4), (-68, .an 2 4 4), (68, .cy 2 4 4), (-5, .pe 1 3 2 4), (-12, .pe 4 2 1 3), (-10, .pe 4 4 1 1), (-15, .pe 5 1 3 1), (60, .pe 6 1 2 1)], [(75, .an 1 3 6), (-15, .an 1 4 5), (-50, .an 1 5 4), (-20, .an 2 4 4), (15, .cy 1 4 5), (20, .cy 2 4 4), (-5, .pe 1 3 2 4), (-7, .pe 4 4 1 1), (-15, .pe 5 1 3 1)], [(30, .an 1 3 6), (-6, .an 1 4 5), (-20, .an 1 5 4), (-8, .an 2 4 4), (6, .cy 1 4 5), (8, .cy 2 4 4), (-2, .pe 1 3 2 4), (-3, .pe 4 4 1 1), (-6, .pe 5 1 3 1)]],
   [[(-15, .an 1 3 6), (10, .an 1 5 4), (4, .an 2 4 4), (-4, .cy 2 4 4), (1, .pe 1 3 2 4), (2, .pe 4 4 1 1), (3, .pe 5 1 3 1)], [(15, .an 1 3 6), (-10, .an 1 5 4), (360, .an 1 6 3), (68, .an 2 4 4), (10, .an 4 1 5), (-360, .cy 1 3 6), (-68, .cy 2 4 4), (-1, .pe 1 3 2 4), (18, .pe 1 3 3 3), (-1, .pe 4 1 2 3), (18, .pe 4 2 1 3), (-2, .pe 4 4 1 1), (-3, .pe 5 1 1 3), (-3, .pe 5 1 3 1), (36, .pe 6 1 2 1)], [(21450, .an 1 3 6), (-17140, .an 1 4 5), (-14300, .an 1 5 4), (2520, .an 1 6 3), (-180, .an 2 2 6), (-3872, .an 2 4 4), (-2520, .cy 1 3 6), (17140, .cy 1 4 5), (90, .cy 2 2 6), (3872, .cy 2 4 4), (-1430, .pe 1 3 2 4), (126, .pe 1 3 3 3), (6, .pe 2 2 4 2), (462, .pe 4 2 1 3), (294, .pe 4 3 1 2), (568, .pe 4 4 1 1), (1, .pe 5 1 2 2), (-4290, .pe 5 1 3 1), (2, .pe 5 3 1 1), (-42, .pe 6 1 1 2), (-1428, .pe 6 1 2 1), (-4998, .pe 7 1 1 1)], [(15, .an 1 3 6), (-5, .an 1 4 5), (-10, .an 1 5 4), (-4, .an 2 4 4), (5, .cy 1 4 5), (4, .cy 2 4 4), (-1, .pe 1 3 2 4), (-1, .pe 4 4 1 1), (-3, .pe 5 1 3 1)]],
   [[(15, .an 1 3 6), (-10, .an 1 5 4), (20, .an 1 6 3), (-8, .an 2 4 4), (-20, .cy 1 3 6), (8, .cy 2 4 4), (-1, .pe 1 3 2 4), (1, .pe 1 3 3 3), (-1, .pe 4 2 1 3), (-2, .pe 4 4 1 1), (-3, .pe 5 1 3 1), (12, .pe 6 1 2 1)], [(-3540, .an 1 3 6), (2850, .an 1 4 5), (2360, .an 1 5 4), (-420, .an 1 6 3), (30, .an 2 2 6), (636, .an 2 4 4), (420, .cy 1 3 6), (-2850, .cy 1 4 5), (-15, .cy 2 2 6), (-636, .cy 2 4 4), (236, .pe 1 3 2 4), (-21, .pe 1 3 3 3), (-1, .pe 2 2 4 2), (-77, .pe 4 2 1 3), (-49, .pe 4 3 1 2), (-98, .pe 4 4 1 1), (708, .pe 5 1 3 1), (7, .pe 6 1 1 2), (238, .pe 6 1 2 1), (833, .pe 7 1 1 1)], [(15, .an 1 3 6), (-10, .an 1 5 4), (-4, .an 2 4 4), (4, .cy 2 4 4), (-1, .pe 1 3 2 4), (-2, .pe 4 4 1 1), (-3, .pe 5 1 3 1)]],
   [[(75, .an 1 3 6), (-60, .an 1 4 5), (-50, .an 1 5 4), (-12, .an 2 4 4), (60, .cy 1 4 5), (12, .cy 2 4 4), (-5, .pe 1 3 2 4), (2, .pe 4 2 1 3), (1, .pe 4 3 1 2), (2, .pe 4 4 1 1), (-15, .pe 5 1 3 1), (-10, .pe 6 1 2 1), (-17, .pe 7 1 1 1)], [(4, .an 2 4 4), (-4, .cy 2 4 4), (1, .pe 4 2 1 3), (-5, .pe 6 1 2 1)]],
   [[]]]
 | _ => []
def hdV (n i : Nat) : RV := (hdL n).getD (min i (n - i)) []
def ctV (n a b : Nat) : List (Int × RK) := ((ctL n).getD (a - 1) []).getD (b - 1) []
def ckV (n a b : Nat) : Bool :=
 ((ctV n a b).all fun x => x.2.ok n) && zerR ((1, a, b, n - a - b) :: (scl (-((bin (n - a) b : Nat) : Int)) (hdV n a) ++ scl ((bin (a + b) a : Nat) : Int) (hdV n (a + b)) ++ scl (-1) (cmb (ctV n a b))))
theorem ckV_all : ((List.range 11).all fun n => (List.range 11).all fun a => (List.range 11).all fun b => decide (n < 2) || decide (a = 0) || decide (b = 0) || decide (n ≤ a + b) || ckV n a b) = true := by decide +kernel
theorem ckV_of {n a b : Nat} (hn : 2 ≤ n ∧ n ≤ 10) (ha : 1 ≤ a) (hb : 1 ≤ b) (h : a + b < n) : ckV n a b = true := by
 have := List.all_eq_true.1 (List.all_eq_true.1 (List.all_eq_true.1 ckV_all n (List.mem_range.2 (by omega))) a (List.mem_range.2 (by omega))) b (List.mem_range.2 (by omega))
 rw [show decide (n < 2) = false from decide_eq_false (by omega), show decide (a = 0) = false from decide_eq_false (by omega), show decide (b = 0) = false from decide_eq_false (by omega), show decide (n ≤ a + b) = false from decide_eq_false (by omega)] at this
 simpa using this
theorem hdV_0 {n : Nat} (hn : 2 ≤ n ∧ n ≤ 10) : hdV n 0 = [] := by
 rcases (show n = 2 ∨ n = 3 ∨ n = 4 ∨ n = 5 ∨ n = 6 ∨ n = 7 ∨ n = 8 ∨ n = 9 ∨ n = 10 by omega) with rfl | rfl | rfl | rfl | rfl | rfl | rfl | rfl | rfl <;> rfl
theorem hdV_symm {n i : Nat} (h : i ≤ n) : hdV n (n - i) = hdV n i := by
 unfold hdV; rw [show n - (n - i) = i by omega, Nat.min_comm]
theorem bud_all {m : Int} {n : Nat} (hn : 2 ≤ n ∧ n ≤ 10) (g : Nat → Nat → Nat → Int) (hr : ∀ k : RK, k.ok n = true → m ∣ rvS g k.vec) :
   ∃ h : Nat → Int, h 0 = 0 ∧ (∀ i, i ≤ n → h (n - i) = h i) ∧ ∀ a b c, 1 ≤ a → 1 ≤ b → 1 ≤ c → a + b + c = n → m ∣ g a b c - ((bin (b + c) b : Nat) : Int) * h a + ((bin (a + b) a : Nat) : Int) * h (a + b) := by
 refine ⟨fun i => rvS g (hdV n i), by show rvS g (hdV n 0) = 0; rw [hdV_0 hn]; rfl, fun i hi => congrArg (rvS g) (hdV_symm hi), fun a b c ha hb hc h => ?_⟩
 have hk := ckV_of hn ha hb (by omega)
 unfold ckV at hk
 rw [Bool.and_eq_true] at hk
 have hz := rvS_zer (g := g) hk.2
 have hd := cmb_dvd hr _ hk.1
 rw [rvS, rvS_append, rvS_append, rvS_scl, rvS_scl, rvS_scl, show n - a - b = c by omega, show n - a = b + c by omega, Int.one_mul, Int.neg_mul, Int.neg_mul, Int.one_mul] at hz
 have e : g a b c - ((bin (b + c) b : Nat) : Int) * rvS g (hdV n a) + ((bin (a + b) a : Nat) : Int) * rvS g (hdV n (a + b)) = rvS g (cmb (ctV n a b)) := by omega
 show m ∣ g a b c - ((bin (b + c) b : Nat) : Int) * rvS g (hdV n a) + ((bin (a + b) a : Nat) : Int) * rvS g (hdV n (a + b))
 rw [e]; exact hd
variable {m : Int}
theorem Zm.dvd_of_zero {a : Int} (h : Zm.mk m a = 0) : m ∣ a := by
 have := Zm.mk_eq.1 (h.trans Zm.mk_zero.symm)
 exact Int.dvd_of_emod_eq_zero (this.trans (Int.zero_emod m))
theorem Zm.zero_of_dvd {a : Int} (h : m ∣ a) : Zm.mk m a = 0 := Zm.mk_eq.2 ((Int.emod_eq_zero_of_dvd h).trans (Int.zero_emod m).symm)
theorem gam_bud {f : PS (PS (Zm m))} {n : Nat} (L : Lw f n) (hn : 2 ≤ n ∧ n ≤ 10) :
   ∃ v : Nat → Zm m, v 0 = 0 ∧ (∀ i, i ≤ n → v (n - i) = v i) ∧ ∀ p q k, 1 ≤ p → 1 ≤ q → 1 ≤ k → p + q + k = n → gam f (n + 1) p q k + v (p + q) * Zm.mk m (bin (p + q) p : Nat) = v p * Zm.mk m (bin (q + k) q : Nat) := by
 obtain ⟨h, h0, h1, h2⟩ := bud_all (m := m) hn (fun p q k => (gam f (n + 1) p q k).val) (fun K hK => by
   cases K with
   | an a b c =>
     simp only [RK.ok, beq_iff_eq] at hK
     refine Zm.dvd_of_zero ?_
     simp only [RK.vec, rvS, Int.one_mul, Int.add_zero, Zm.mk_add, Zm.mk_val]
     exact gam_anti L hn.2 hK
   | cy a b c =>
     simp only [RK.ok, beq_iff_eq] at hK
     refine Zm.dvd_of_zero ?_
     simp only [RK.vec, rvS, Int.one_mul, Int.add_zero, Zm.mk_add, Zm.mk_val]
     rw [← CR.add_assoc]
     exact gam_cyc L hn.2 hK
   | pe i j k l =>
     simp only [RK.ok, Bool.and_eq_true, decide_eq_true_eq, beq_iff_eq] at hK
     refine Zm.dvd_of_zero ?_
     have := gam_pent L hn.2 hK.1.1 hK.1.2 hK.2
     simp only [RK.vec, rvS, Int.add_zero, Zm.mk_add, Zm.mk_mul, Zm.mk_neg, Zm.mk_val, Go.Fg.neg_mul]
     rw [← CR.add_assoc, CR.mul_comm, CR.mul_comm (Zm.mk m (bin (k + l) k : Nat)), this, CR.mul_comm, Go.Fg.add_neg])
 refine ⟨fun i => Zm.mk m (h i), congrArg (Zm.mk m) h0, fun i hi => congrArg (Zm.mk m) (h1 i hi), fun p q k hp hq hk hs => ?_⟩
 have e := Zm.zero_of_dvd (h2 p q k hp hq hk hs)
 rw [Zm.mk_add, Zm.mk_sub, Zm.mk_mul, Zm.mk_mul, Zm.mk_val] at e
 have e2 : gam f (n + 1) p q k + Zm.mk m (h (p + q)) * Zm.mk m (bin (p + q) p : Nat) - Zm.mk m (h p) * Zm.mk m (bin (q + k) q : Nat) = 0 := by
   rw [← e, Go.Fg.sub_def, Go.Fg.sub_def, CR.mul_comm (Zm.mk m (h p)), CR.mul_comm (Zm.mk m (h (p + q)))]
   ac_rfl
 exact Go.Fg.sub_eq_zero.1 e2
end Go.Fg
namespace Go.Fg
open CR
namespace PS
variable {R : Type} [CR R]
def topAdd (f : PS (PS R)) (n : Nat) (v : Nat → R) : PS (PS R) := ⟨fun i => ⟨fun j => if i + j = n then (f.c i).c j + v i else (f.c i).c j⟩⟩
theorem topAdd_cc (f : PS (PS R)) (n : Nat) (v : Nat → R) (i j : Nat) : ((topAdd f n v).c i).c j = if i + j = n then (f.c i).c j + v i else (f.c i).c j := rfl
theorem topAdd_low (f : PS (PS R)) {n : Nat} (v : Nat → R) {i j : Nat} (h : i + j < n) : ((topAdd f n v).c i).c j = (f.c i).c j := if_neg (by omega)
theorem pw_ccongr {f g : PS (PS R)} {n : Nat} (h : ∀ i j, i + j < n → (f.c i).c j = (g.c i).c j) : ∀ k p q, p + q < n → ((Go.Fg.pw f k).c p).c q = ((Go.Fg.pw g k).c p).c q := by
 intro k
 induction k with
 | zero => intro p q _; rfl
 | succ k ih =>
   intro p q hpq
   rw [pw_succ, pw_succ, mul_c, mul_c, sm_c, sm_c]
   refine sm_congr (fun i hi => ?_)
   rw [mul_c, mul_c]
   exact sm_congr (fun j hj => by rw [ih i j (by omega), h (p - i) (q - j) (by omega)])
theorem gam_congr {f g : PS (PS R)} {n N p q k : Nat} (hf : (f.c 0).c 0 = 0) (hg : (g.c 0).c 0 = 0) (h : ∀ i j, i + j < n → (f.c i).c j = (g.c i).c j) (hs : p + q + k < n) : gam f N p q k = gam g N p q k := by
 unfold gam
 refine congr (congrArg _ (sm_congr (fun i _ => ?_))) (sm_congr (fun j _ => ?_))
 · by_cases hi : i ≤ p + q
   · rw [h i k (by omega), pw_ccongr h i p q (by omega)]
   · rw [pw_low2 hf i p q (by omega), pw_low2 hg i p q (by omega), Go.Fg.mul_zero, Go.Fg.mul_zero]
 · by_cases hj : j ≤ q + k
   · rw [h p j (by omega), pw_ccongr h j q k (by omega)]
   · rw [pw_low2 hf j q k (by omega), pw_low2 hg j q k (by omega), Go.Fg.mul_zero, Go.Fg.mul_zero]
theorem Lw.top {f : PS (PS R)} {n : Nat} (L : Lw f n) (hn : 2 ≤ n) {v : Nat → R} (h0 : v 0 = 0) (hs : ∀ i, i ≤ n → v (n - i) = v i) : Lw (topAdd f n v) n where
 pos := L.pos
 z0 := by rw [topAdd_low f v (by omega), L.z0]
 z1 := by rw [topAdd_low f v (by omega), L.z1]
 zz := fun i h1 h2 => by
   rw [topAdd_cc]
   split
   · rename_i e
     rw [L.zz i h1 h2, CR.zero_add, ← hs i (by omega), show n - i = 0 by omega, h0]
   · exact L.zz i h1 h2
 sym := fun i j h => by
   rw [topAdd_cc, topAdd_cc, L.sym i j h]
   by_cases e : i + j = n
   · rw [if_pos e, if_pos (by omega), ← hs i (by omega), show n - i = j by omega]
   · rw [if_neg e, if_neg (by omega)]
 as := fun p q k h => by
   rw [gam_congr (g := f) (by rw [topAdd_low f v (by omega), L.z0]) L.z0 (fun i j hij => topAdd_low f v hij) h, L.as p q k h]
def Hm (n : Nat) (v : Nat → R) (x y : R) : R := sm (n + 1) fun i => v i * (Go.Fg.pw x i * Go.Fg.pw y (n - i))
theorem evT_top (f : PS (PS R)) (n : Nat) (v : Nat → R) {a b : PS R} (ha : a.c 0 = 0) (hb : b.c 0 = 0) : Ag (n + 1) (evT (n + 1) (topAdd f n v) a b) (evT (n + 1) f a b + mono n (Hm n v (a.c 1) (b.c 1))) := by
 unfold Hm
 rw [mono_sm]
 unfold evT
 rw [← sm_add]
 refine Ag.sm (fun i hi => ?_)
 have hs : (Go.Fg.sm (n + 1 - i) fun j => C ((f.c i).c j) * (Go.Fg.pw a i * Go.Fg.pw b j)) + mono n (v i * (Go.Fg.pw (a.c 1) i * Go.Fg.pw (b.c 1) (n - i)))
     = Go.Fg.sm (n + 1 - i) fun j => C ((f.c i).c j) * (Go.Fg.pw a i * Go.Fg.pw b j) + (if j = n - i then mono n (v i * (Go.Fg.pw (a.c 1) i * Go.Fg.pw (b.c 1) (n - i))) else 0) := by
   rw [sm_add, sm_one (f := fun j => if j = n - i then mono n (v i * (Go.Fg.pw (a.c 1) i * Go.Fg.pw (b.c 1) (n - i))) else 0) (n - i) (by omega) (fun j _ h => if_neg h), if_pos rfl]
 rw [hs]
 refine Ag.sm (fun j hj => ?_)
 rw [topAdd_cc]
 by_cases e : j = n - i
 · rw [if_pos (by omega), if_pos e, ← C_add_C, Go.Fg.add_mul]
   refine Ag.add Ag.rfl ?_
   have := prod3_lead ha hb hb (n := n) (p := i) (q := j) (k := 0) (by omega) (v i)
   rw [Go.Fg.pw_zero, Go.Fg.pw_zero, Go.Fg.mul_one, Go.Fg.mul_one] at this
   rw [← e]; exact this
 · rw [if_neg (by omega), if_neg e, Go.Fg.add_zero]; exact Ag.rfl
theorem bud_change {f : PS (PS R)} {n : Nat} (L : Lw f n) (hn : 2 ≤ n) {v : Nat → R} (h0 : v 0 = 0) (hs : ∀ i, i ≤ n → v (n - i) = v i) {x y z : PS R} (hx : x.c 0 = 0) (hy : y.c 0 = 0) (hz : z.c 0 = 0) :
   Gm n (gam (topAdd f n v) (n + 1)) (x.c 1) (y.c 1) (z.c 1) + Hm n v (y.c 1) (z.c 1) + Hm n v (x.c 1) (y.c 1 + z.c 1)
     = Gm n (gam f (n + 1)) (x.c 1) (y.c 1) (z.c 1) + Hm n v (x.c 1) (y.c 1) + Hm n v (x.c 1 + y.c 1) (z.c 1) := by
 have L' := L.top hn h0 hs
 have hxy := evT_0 (N := n + 1) L.z0 hx hy
 have hyz := evT_0 (N := n + 1) L.z0 hy hz
 have hxy' := evT_0 (N := n + 1) L'.z0 hx hy
 have hyz' := evT_0 (N := n + 1) L'.z0 hy hz
 have A := evT_mono_c (defect L hx hy hz)
 have A' := evT_mono_c (defect L' hx hy hz)
 have l1 := evT_mono_c (evT_top f n v hxy' hz)
 have l2 := evT_mono_c ((evT_congr (f := f) (fun i j _ => rfl) (evT_top f n v hx hy) (Ag.rfl (a := z))).trans (evT_pert L.pos f L.z1 hxy hz _))
 have r1 := evT_mono_c (evT_top f n v hx hyz')
 have r2 := evT_mono_c ((evT_congr (f := f) (fun i j _ => rfl) (Ag.rfl (a := x)) (evT_top f n v hy hz)).trans (evT_pert2 L hx hyz _))
 rw [evT_lead L' hx hy] at l1
 rw [evT_lead L' hy hz] at r1
 rw [l1, l2, A, r1, r2] at A'
 refine add_left_cancel (a := (evT (n + 1) f x (evT (n + 1) f y z)).c n) ?_
 refine Eq.trans ?_ (A'.symm.trans ?_) <;> ac_rfl
theorem Hm_c {n : Nat} (v : Nat → R) {X Y : PS R} {K p0 : Nat} {β : R} (h0 : p0 ≤ n) (h : ∀ p, p ≤ n → (Go.Fg.pw X p * Go.Fg.pw Y (n - p)).c K = if p = p0 then β else 0) : (Hm n (fun i => C (v i)) X Y).c K = v p0 * β := by
 unfold Hm
 rw [sm_c, sm_one p0 (by omega) (fun p hp hne => ?_), C_mul, h p0 h0, if_pos rfl]
 rw [C_mul, h p (by omega), if_neg hne, Go.Fg.mul_zero]
theorem Hm_c0 {n : Nat} (v : Nat → R) {X Y : PS R} {K : Nat} (h : ∀ p, p ≤ n → (Go.Fg.pw X p * Go.Fg.pw Y (n - p)).c K = 0) : (Hm n (fun i => C (v i)) X Y).c K = 0 := by
 unfold Hm
 rw [sm_c]
 exact sm_zero (fun p hp => by rw [C_mul, h p (by omega), Go.Fg.mul_zero])
theorem up_top (f : PS (PS R)) (n : Nat) (v : Nat → R) : up (topAdd f n v) = topAdd (up f) n fun i => C (v i) := by
 refine PS.ext (fun i => PS.ext (fun j => ?_))
 rw [up_cc, topAdd_cc, topAdd_cc]
 split
 · rw [← C_add_C]; rfl
 · rfl
theorem pw_row0 {f : PS (PS R)} {n : Nat} (L : Lw f n) : ∀ k q, q < n + 1 → ((Go.Fg.pw f k).c 0).c q = if q = k then 1 else 0 := by
 intro k
 induction k with
 | zero => intro q _; rw [pw_zero, one_c, if_pos rfl, one_c]
 | succ k ih =>
   intro q hq
   rw [pw_succ, mul_c0, mul_c]
   have hf : ∀ j, j < n + 1 → (f.c 0).c j = if j = 1 then 1 else 0 := fun j hj => by
     rw [L.sym 0 j (by omega)]
     by_cases e : j = 1
     · rw [if_pos e, e, L.z1]
     · rw [if_neg e, L.zz j hj e]
   by_cases e : q = k + 1
   · rw [if_pos e, sm_one k (by omega) (fun i hi hne => ?_), ih k (by omega), if_pos rfl, hf _ (by omega), if_pos (by omega), CR.one_mul]
     rw [ih i (by omega), if_neg hne, Go.Fg.zero_mul]
   · rw [if_neg e]
     refine sm_zero (fun i hi => ?_)
     by_cases e2 : i = k
     · rw [hf _ (by omega), if_neg (by omega), Go.Fg.mul_zero]
     · rw [ih i (by omega), if_neg e2, Go.Fg.zero_mul]
theorem pw_col0 {f : PS (PS R)} {n : Nat} (L : Lw f n) : ∀ k p, p < n + 1 → ((Go.Fg.pw f k).c p).c 0 = if p = k then 1 else 0 := by
 intro k
 induction k with
 | zero => intro p _; rw [pw_zero, one_c]; split <;> rfl
 | succ k ih =>
   intro p hp
   rw [pw_succ, mul_c, sm_c]
   have hf : ∀ j, j < n + 1 → (f.c j).c 0 = if j = 1 then 1 else 0 := fun j hj => by
     by_cases e : j = 1
     · rw [if_pos e, e, L.z1]
     · rw [if_neg e, L.zz j hj e]
   by_cases e : p = k + 1
   · rw [if_pos e, sm_one k (by omega) (fun i hi hne => ?_), mul_c0, ih k (by omega), if_pos rfl, hf _ (by omega), if_pos (by omega), CR.one_mul]
     rw [mul_c0, ih i (by omega), if_neg hne, Go.Fg.zero_mul]
   · rw [if_neg e]
     refine sm_zero (fun i hi => ?_)
     rw [mul_c0]
     by_cases e2 : i = k
     · rw [hf _ (by omega), if_neg (by omega), Go.Fg.mul_zero]
     · rw [ih i (by omega), if_neg e2, Go.Fg.zero_mul]
theorem gam_zero {f : PS (PS R)} {n : Nat} (L : Lw f n) {p q k : Nat} (h : p + q + k < n + 1) (hz : p = 0 ∨ q = 0 ∨ k = 0) : gam f (n + 1) p q k = 0 := by
 have hrow : ∀ j, j < n + 1 → (f.c 0).c j = if j = 1 then 1 else 0 := fun j hj => by
   rw [L.sym 0 j (by omega)]
   by_cases e : j = 1
   · rw [if_pos e, e, L.z1]
   · rw [if_neg e, L.zz j hj e]
 have hcol : ∀ j, j < n + 1 → (f.c j).c 0 = if j = 1 then 1 else 0 := fun j hj => by
   by_cases e : j = 1
   · rw [if_pos e, e, L.z1]
   · rw [if_neg e, L.zz j hj e]
 have hn := L.pos
 unfold gam
 refine Go.Fg.sub_eq_zero.2 ?_
 rcases hz with rfl | rfl | rfl
 · rw [sm_one q (by omega) (fun i hi hne => by rw [pw_row0 L i q (by omega), if_neg (fun e => hne e.symm), Go.Fg.mul_zero]), pw_row0 L q q (by omega), if_pos rfl, Go.Fg.mul_one,
     sm_one 1 (by omega) (fun j hj hne => by rw [hrow j hj, if_neg hne, Go.Fg.zero_mul]), hrow 1 (by omega), if_pos rfl, CR.one_mul, Go.Fg.pw_one]
 · rw [sm_one p (by omega) (fun i hi hne => by rw [pw_col0 L i p (by omega), if_neg (fun e => hne e.symm), Go.Fg.mul_zero]), pw_col0 L p p (by omega), if_pos rfl, Go.Fg.mul_one,
     sm_one k (by omega) (fun j hj hne => by rw [pw_row0 L j k (by omega), if_neg (fun e => hne e.symm), Go.Fg.mul_zero]), pw_row0 L k k (by omega), if_pos rfl, Go.Fg.mul_one]
 · rw [sm_one 1 (by omega) (fun j hj hne => by rw [hcol j hj, if_neg hne, Go.Fg.zero_mul]), hcol 1 (by omega), if_pos rfl, CR.one_mul, Go.Fg.pw_one,
     sm_one q (by omega) (fun j hj hne => by rw [pw_col0 L j q (by omega), if_neg (fun e => hne e.symm), Go.Fg.mul_zero]), pw_col0 L q q (by omega), if_pos rfl, Go.Fg.mul_one]
end PS
variable {m : Int}
open PS
theorem gam_change {f : PS (PS (Zm m))} {n : Nat} (L : Lw f n) (hn : 2 ≤ n ∧ n ≤ 10) {v : Nat → Zm m} (h0 : v 0 = 0) (hs : ∀ i, i ≤ n → v (n - i) = v i) {p q k : Nat} (hp : 1 ≤ p) (hk : 1 ≤ k) (h : p + q + k = n) :
   gam (topAdd f n v) (n + 1) p q k + v p * Zm.mk m (bin (q + k) q : Nat) = gam f (n + 1) p q k + v (p + q) * Zm.mk m (bin (p + q) p : Nat) := by
 have e := congrArg (fun s => s.c (p + 11 * q + 121 * k)) (bud_change (v := fun i => C (v i)) L.up hn.1 (by rw [h0]; exact C_zero) (fun i hi => by rw [hs i hi]) (crv_0 (mono 1 1)) (crv_0 (mono 11 1)) (crv_0 (mono 121 1)))
 rw [← up_top] at e
 simp only [add_c, crv_1, Gm_up] at e
 rw [Gm_c (gam (topAdd f n v) (n + 1)) (β := 1) h (fun p' q' k' h' => ?_), Gm_c (gam f (n + 1)) (β := 1) h (fun p' q' k' h' => ?_), Go.Fg.mul_one, Go.Fg.mul_one,
   Hm_c0 v (fun p' h' => ?_), Go.Fg.add_zero, Hm_c v (p0 := p) (β := Zm.mk m (bin (q + k) q : Nat)) (by omega) (fun p' h' => ?_), Hm_c0 v (fun p' h' => ?_), Go.Fg.add_zero,
   Hm_c v (p0 := p + q) (β := Zm.mk m (bin (p + q) p : Nat)) (by omega) (fun p' h' => ?_)] at e
 · exact e
 · rw [pw_two, pw_one', two_c 1 11 p' ((n - p') * 121) _ p (p' = p + q) (by omega) (fun x hx e => by have := kron4 (a := x) (b := p' - x) (c := n - p') (d := 0) (a' := p) (b' := q) (c' := k) (d' := 0) (by omega) (by omega) (by omega) (by omega) (by omega) (by omega) (by omega); omega)]
   split
   · rename_i e; rw [e]
   · rfl
 · rw [pw_one', pw_one', mono_mul, mono_c, if_neg (by omega)]
 · rw [CR.mul_comm, pw_two, pw_one', two_c 11 121 (n - p') (p' * 1) _ q (p' = p) (by omega) (fun x hx e => by have := kron4 (a := p') (b := x) (c := n - p' - x) (d := 0) (a' := p) (b' := q) (c' := k) (d' := 0) (by omega) (by omega) (by omega) (by omega) (by omega) (by omega) (by omega); omega)]
   split
   · rename_i e; rw [show n - p' = q + k by omega]
   · rfl
 · rw [pw_one', pw_one', mono_mul, mono_c, if_neg (by omega)]
 · rw [mono3, mono_c]
   by_cases e : p' = p ∧ q' = q ∧ k' = k
   · rw [if_pos e, if_pos (by omega)]
   · rw [if_neg e, if_neg (by omega)]
 · rw [mono3, mono_c]
   by_cases e : p' = p ∧ q' = q ∧ k' = k
   · rw [if_pos e, if_pos (by omega)]
   · rw [if_neg e, if_neg (by omega)]
def BudEq (f : PS (PS (Zm m))) (n : Nat) (v : Nat → Zm m) : Prop :=
 (∀ i, i ≤ n → v (n - i) = v i) ∧ ∀ p q k, 1 ≤ p → 1 ≤ q → 1 ≤ k → p + q + k = n → gam f (n + 1) p q k + v (p + q) * Zm.mk m (bin (p + q) p : Nat) = v p * Zm.mk m (bin (q + k) q : Nat)
theorem bud_ex {f : PS (PS (Zm m))} {n : Nat} (L : Lw f n) (hn : 2 ≤ n ∧ n ≤ 10) : ∃ v : Nat → Zm m, v 0 = 0 ∧ BudEq f n v := by
 obtain ⟨v, h0, h1, h2⟩ := gam_bud L hn
 exact ⟨v, h0, h1, h2⟩
theorem bud_iff {f : PS (PS (Zm m))} {n : Nat} (L : Lw f n) (hn : 2 ≤ n ∧ n ≤ 10) {v : Nat → Zm m} (h0 : v 0 = 0) (hs : ∀ i, i ≤ n → v (n - i) = v i) :
   (∀ p q k, p + q + k < n + 1 → gam (topAdd f n v) (n + 1) p q k = 0) ↔ BudEq f n v := by
 have L' := L.top hn.1 h0 hs
 constructor
 · intro h
   refine ⟨hs, fun p q k hp hq hk e => ?_⟩
   have := gam_change L hn h0 hs hp hk e
   rw [h p q k (by omega), CR.zero_add] at this
   exact this.symm
 · rintro ⟨-, h⟩ p q k e
   by_cases hz : p = 0 ∨ q = 0 ∨ k = 0
   · exact gam_zero L' e hz
   · by_cases e2 : p + q + k < n
     · exact L'.as p q k e2
     · have := gam_change L hn h0 hs (p := p) (q := q) (k := k) (by omega) (by omega) (by omega)
       rw [h p q k (by omega) (by omega) (by omega) (by omega)] at this
       exact add_right_cancel (this.trans (CR.zero_add _).symm)
end Go.Fg
namespace Go.Fg
def sumI : Nat → (Nat → Int) → Int
 | 0, _ => 0
 | n + 1, f => sumI n f + f n
def swp (a b i : Nat) : Nat := if i = a then b else if i = b then a else i
end Go.Fg
namespace Go.Fg
structure Elim (q : Int) (N u s : Nat) (M : Nat → Nat → Int) (o : Nat → Nat) : Prop where
 sN : s ≤ N
 su : s ≤ u
 piv : ∀ k, k < s → 0 < M k k ∧ M k k ∣ q
 dv : ∀ k j, k < s → k ≤ j → j < u → M k k ∣ M k j
 zr : ∀ i k, k < s → k < i → i < N → M i k = 0
 ol : ∀ k, k < u → o k < u
 inj : ∀ k j, k < u → j < u → o k = o j → k = j
section
variable {q : Int} {N u s : Nat} {M : Nat → Nat → Int} {o : Nat → Nat}
end
end Go.Fg
namespace Go.Fg
def RowS (m : Int) (u : Nat) (r : List Int) (x : Nat → Int) : Prop := m ∣ sumI u (fun k => r.getD k 0 * x k) - r.getD u 0
def AllS (m : Int) (u : Nat) (R : List (List Int)) (x : Nat → Int) : Prop := ∀ r ∈ R, RowS m u r x
structure RowB (m : Int) (u j : Nat) (r : List Int) : Prop where
 len : r.length = u + 1
 rng : ∀ k, 0 ≤ r.getD k 0 ∧ r.getD k 0 < m
 zr : ∀ k, j ≤ k → k < u → r.getD k 0 = 0
def Ext (S : (Nat → Int) → Prop) (j : Nat) (x : Nat → Int) : Prop := ∃ y, (∀ i, i < j → y i = x i) ∧ S y
structure PivOk (m : Int) (u : Nat) (S : (Nat → Int) → Prop) (j : Nat) (R P : List (List Int)) : Prop where
 rb : ∀ r ∈ R, RowB m u j r
 pl : P.length = u
 lo : ∀ k, k < j → P.getD k [] = []
 pb : ∀ k, j ≤ k → k < u → P.getD k [] ≠ [] → RowB m u (k + 1) (P.getD k [])
 ex : ∀ x, AllS m u R x ↔ Ext S j x
 a : ∀ k, j ≤ k → k < u → P.getD k [] ≠ [] → ∀ x, S x → RowS m u (P.getD k []) x
 b : ∀ k, j ≤ k → k < u → ∀ x, Ext S k x → (P.getD k [] ≠ [] → RowS m u (P.getD k []) x) → Ext S (k + 1) x
section
variable {m : Int} {u j : Nat} {S : (Nat → Int) → Prop} {R P : List (List Int)}
structure EucI (m : Int) (u j : Nat) (R : List (List Int)) (i : Nat) (rest : List (List Int)) (piv : List Int) : Prop where
 rb : ∀ r ∈ rest, RowB m u j r
 pb : piv ≠ [] → RowB m u (j + 1) piv ∧ piv.getD j 0 ≠ 0
 iff : ∀ x, AllS m u R x ↔ AllS m u rest x ∧ (piv ≠ [] → RowS m u piv x) ∧ AllS m u (R.drop i) x
structure EucR (m : Int) (u j : Nat) (R : List (List Int)) (i : Nat) (rest : List (List Int)) (piv row : List Int) : Prop where
 rb : ∀ r ∈ rest, RowB m u j r
 pb : piv ≠ [] → RowB m u (j + 1) piv ∧ piv.getD j 0 ≠ 0
 ob : RowB m u (j + 1) row
 iff : ∀ x, AllS m u R x ↔ AllS m u rest x ∧ (piv ≠ [] → RowS m u piv x) ∧ RowS m u row x ∧ AllS m u (R.drop i) x
def minR (m : Int) (a b : List Int) (k : Int) : List Int := (List.range a.length).map fun i => (a.getD i 0 - k * b.getD i 0) % m
@[simp] theorem minR_length (m : Int) (a b : List Int) (k : Int) : (minR m a b k).length = a.length := by simp [minR]
section
variable {i : Nat} {rest : List (List Int)} {piv row : List Int}
end
end
end Go.Fg
namespace Go.Fg
open CR PS
variable {m : Int}
def LexV (n : Nat) (v w : Nat → Zm m) : Prop := (∀ k, k < n → v k = w k) ∨ ∃ k, k < n ∧ (∀ i, i < k → v i = w i) ∧ (v k).val < (w k).val
structure First (f : PS (PS (Zm m))) (n : Nat) (v : Nat → Zm m) : Prop where
 z : v 0 = 0
 eq : BudEq f n v
 le : ∀ w, w 0 = 0 → BudEq f n w → LexV (n + 1) v w
def lowP (f : PS (PS (Zm m))) (n : Nat) : PS (PS (Zm m)) := ⟨fun i => ⟨fun j => if i + j < n then (f.c i).c j else 0⟩⟩
theorem lowP_cc (f : PS (PS (Zm m))) (n i j : Nat) : ((lowP f n).c i).c j = if i + j < n then (f.c i).c j else 0 := rfl
end Go.Fg
