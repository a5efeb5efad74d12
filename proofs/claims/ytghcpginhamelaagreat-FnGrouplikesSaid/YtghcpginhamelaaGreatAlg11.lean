import Derived.Test.YtghcpginhamelaaGreatAlg10
import Derived.Test.YtghcpginhamelaaGreatAlg8
set_option linter.unusedVariables false
set_option linter.unusedSimpArgs false
set_option linter.unusedSectionVars false
namespace Go.Fg
open CR
namespace PS
variable {R : Type} [CR R]
def E (N : Nat) (g : PS (PS R)) (x : PS R) : PS R := sm N fun i => g.c i * pw x i
theorem Ag.sm_drop {N n k : Nat} {f : Nat → PS R} (hk : n ≤ k) (h : ∀ i, n ≤ i → i < k → Ag N (f i) 0) : Ag N (Go.Fg.sm k f) (Go.Fg.sm n f) := fun i hi => by
 rw [sm_c, sm_c]
 exact uA hk (fun j h1 h2 => h j h1 h2 i hi)
theorem Ag.low_pw {N : Nat} {x : PS R} (hx : x.c 0 = 0) {k : Nat} (h : N ≤ k) (y : PS R) : Ag N (y * Go.Fg.pw x k) 0 := fun i hi => by
 rw [cN]
 exact dH (fun j hj => by rw [gR hx k (i - j) (by omega), Go.Fg.mul_zero])
theorem D5 {N : Nat} (g h : PS (PS R)) {x : PS R} (hx : x.c 0 = 0) : Ag N (E N (g * h) x) (E N g x * E N h x) := by
 cases N with
 | zero => exact fun i hi => absurd hi (by omega)
 | succ N =>
 have e1 : E (N + 1) (g * h) x = sm (N + 1) fun j => sm (N - j + 1) fun k => g.c j * h.c k * pw x (j + k) := by
   rw [← H9 N (fun j k => g.c j * h.c k * pw x (j + k))]
   refine bS (fun i hi => ?_)
   rw [cN, jK]
   exact bS (fun j hj => by rw [show j + (i - j) = i by omega])
 have e2 : E (N + 1) g x * E (N + 1) h x = sm (N + 1) fun j => sm (N + 1) fun k => g.c j * h.c k * pw x (j + k) := by
   unfold E
   rw [jK]
   refine bS (fun j hj => ?_)
   rw [nB]
   exact bS (fun k hk => by rw [B3]; ac_rfl)
 rw [e1, e2]
 refine Ag.sm (fun j hj => Ag.symm ?_)
 exact Ag.sm_drop (by omega) (fun k h1 h2 => Ag.low_pw hx (by omega) _)
theorem Alp (N : Nat) (g h : PS (PS R)) (x : PS R) : E N (g + h) x = E N g x + E N h x := by
 unfold E
 rw [← kB]
 exact bS (fun i _ => by rw [add_c, Go.Fg.add_mul])
theorem Ab1 (N : Nat) (x : PS R) : E N 0 x = 0 := dH (fun i _ => by rw [lT, Go.Fg.zero_mul])
theorem X9 (N k : Nat) (g : Nat → PS (PS R)) (x : PS R) : E N (sm k g) x = sm k fun i => E N (g i) x := by
 induction k with
 | zero => exact Ab1 N x
 | succ k ih => rw [cB, Alp, ih, cB]
theorem Ah6 {N : Nat} {g h : PS (PS R)} {x y : PS R} (h1 : ∀ i, i < N → Ag N (g.c i) (h.c i)) (h2 : Ag N x y) : Ag N (E N g x) (E N h y) :=
 Ag.sm (fun i hi => (h1 i hi).mul (h2.pw i))
theorem O1 {N : Nat} (hN : 1 ≤ N) (x : PS R) : E N 1 x = 1 := by
 unfold E
 rw [eQ 0 (by omega) (fun i _ hne => by rw [one_c, if_neg hne, Go.Fg.zero_mul]), one_c, if_pos rfl, pw_zero, CR.one_mul]
theorem Anj (u v : PS R) : dA (u + v) = dA u + dA v := by
 refine PS.ext (fun i => ?_)
 show C (u.c i + v.c i) = C (u.c i) + C (v.c i)
 rw [qK]
theorem K2 (k : Nat) (u : Nat → PS R) : dA (sm k u) = sm k fun i => dA (u i) := by
 induction k with
 | zero => exact Ab4
 | succ k ih => rw [cB, Anj, ih, cB]
theorem oA (k : Nat) (u : Nat → R) : C (sm k u) = sm k fun i => C (u i) := by
 induction k with
 | zero => exact C_zero
 | succ k ih => rw [cB, ← qK, ih, cB]
theorem vL (u v : PS R) : dA (u * v) = dA u * dA v := by
 refine PS.ext (fun i => ?_)
 show C ((u * v).c i) = (dA u * dA v).c i
 rw [cN, cN, oA]
 exact bS (fun j _ => by show C (_ * _) = C _ * C _; rw [nV])
theorem xW : dA (1 : PS R) = 1 := by
 refine PS.ext (fun i => ?_)
 show C ((1 : PS R).c i) = (1 : PS (PS R)).c i
 rw [one_c, one_c]
 split
 · rfl
 · exact C_zero
def e2 (N : Nat) (b : PS R) (g : PS (PS R)) : PS (PS R) := ⟨fun i => E N (dA (g.c i)) b⟩
def ev (N : Nat) (a b : PS R) (g : PS (PS R)) : PS R := E N (e2 N b g) a
theorem Ame {N : Nat} (g h : PS (PS R)) {a b : PS R} (ha : a.c 0 = 0) (hb : b.c 0 = 0) : Ag N (ev N a b (g * h)) (ev N a b g * ev N a b h) := by
 refine Ag.trans (Ah6 (fun i _ => ?_) Ag.rfl) (D5 (e2 N b g) (e2 N b h) ha)
 show Ag N (E N (dA ((g * h).c i)) b) ((e2 N b g * e2 N b h).c i)
 rw [cN, cN, K2, X9]
 refine Ag.sm (fun j hj => ?_)
 rw [vL]
 exact D5 _ _ hb
theorem Aoc {N : Nat} (hN : 1 ≤ N) (a b : PS R) : ev N a b 1 = 1 := by
 unfold ev
 rw [show e2 N b (1 : PS (PS R)) = 1 from PS.ext (fun i => by
   show E N (dA ((1 : PS (PS R)).c i)) b = (1 : PS (PS R)).c i
   rw [one_c]
   split
   · rw [xW, O1 hN]
   · rw [Ab4, Ab1]), O1 hN]
theorem Acm {N : Nat} (hN : 1 ≤ N) (g : PS (PS R)) {a b : PS R} (ha : a.c 0 = 0) (hb : b.c 0 = 0) (k : Nat) : Ag N (ev N a b (pw g k)) (pw (ev N a b g) k) := by
 induction k with
 | zero => exact Ag.of_eq (Aoc hN a b)
 | succ k ih => exact (Ame _ _ ha hb).trans (ih.mul Ag.rfl)
theorem qC (N : Nat) (a b : PS R) (g : PS (PS R)) : ev N a b g = sm N fun i => sm N fun j => C ((g.c i).c j) * (pw a i * pw b j) := by
 refine bS (fun i _ => ?_)
 show E N (dA (g.c i)) b * pw a i = _
 unfold E
 rw [jK]
 refine bS (fun j _ => ?_)
 show C ((g.c i).c j) * pw b j * pw a i = _
 ac_rfl
theorem Ag.low2 {N i j : Nat} {a b : PS R} (ha : a.c 0 = 0) (hb : b.c 0 = 0) (h : N ≤ i + j) (y : PS R) : Ag N (y * (Go.Fg.pw a i * Go.Fg.pw b j)) 0 := by
 have h0 : Ag N (Go.Fg.pw a i * Go.Fg.pw b j) 0 := fun n hn => by
   rw [cN]
   refine dH (fun k hk => ?_)
   by_cases h1 : k < i
   · rw [gR ha i k h1, Go.Fg.zero_mul]
   · rw [gR hb j (n - k) (by omega), Go.Fg.mul_zero]
 exact (Ag.rfl.mul h0).trans (Ag.of_eq (Go.Fg.mul_zero y))
theorem U6 {f : PS (PS R)} (h0 : (f.c 0).c 0 = 0) : ∀ (k i j : Nat), i + j < k → ((pw f k).c i).c j = 0 := by
 intro k
 induction k with
 | zero => intro i j h; omega
 | succ k ih =>
   intro i j h
   rw [cV, cN, sm_c]
   refine dH (fun p hp => ?_)
   rw [cN]
   refine dH (fun q hq => ?_)
   by_cases e : p + q < k
   · rw [ih p q e, Go.Fg.zero_mul]
   · rw [show i - p = 0 by omega, show j - q = 0 by omega, h0, Go.Fg.mul_zero]
def bG (N : Nat) (f : PS (PS R)) (a b : PS R) : PS R := sm N fun i => sm (N - i) fun j => C ((f.c i).c j) * (pw a i * pw b j)
theorem sG {N : Nat} (f : PS (PS R)) {a b : PS R} (ha : a.c 0 = 0) (hb : b.c 0 = 0) : Ag N (bG N f a b) (ev N a b f) := by
 rw [qC]
 exact Ag.sm (fun i hi => Ag.symm (Ag.sm_drop (by omega) (fun j h1 h2 => Ag.low2 ha hb (by omega) _)))
theorem mO {N : Nat} {f g : PS (PS R)} {a b a' b' : PS R} (hf : ∀ i j, i + j < N → (f.c i).c j = (g.c i).c j) (h : Ag N a a') (h2 : Ag N b b') : Ag N (bG N f a b) (bG N g a' b') :=
 Ag.sm (fun i hi => Ag.sm (fun j hj => by rw [hf i j (by omega)]; exact Ag.rfl.mul ((h.pw i).mul (h2.pw j))))
theorem pF {N : Nat} {f : PS (PS R)} {a b : PS R} (hf : (f.c 0).c 0 = 0) (ha : a.c 0 = 0) (hb : b.c 0 = 0) : (bG N f a b).c 0 = 0 := by
 unfold bG
 rw [sm_c]
 refine dH (fun i _ => ?_)
 rw [sm_c]
 refine dH (fun j _ => ?_)
 rw [C_mul, mul_c0]
 cases i with
 | succ i => rw [gR ha (i + 1) 0 (by omega), Go.Fg.zero_mul, Go.Fg.mul_zero]
 | zero => cases j with
   | succ j => rw [gR hb (j + 1) 0 (by omega), Go.Fg.mul_zero, Go.Fg.mul_zero]
   | zero => rw [hf, Go.Fg.zero_mul]
theorem Ae3 {N : Nat} (hN : 1 ≤ N) (f : PS (PS R)) {a b c : PS R} (hf : (f.c 0).c 0 = 0) (ha : a.c 0 = 0) (hb : b.c 0 = 0) (hc : c.c 0 = 0) :
   Ag N (bG N f (bG N f a b) c) (sm N fun p => sm N fun q => sm N fun k => C (sm N fun i => (f.c i).c k * ((pw f i).c p).c q) * (pw a p * (pw b q * pw c k))) := by
 refine (sG f (pF hf ha hb) hc).trans ?_
 rw [qC]
 have h1 : Ag N (sm N fun i => sm N fun k => C ((f.c i).c k) * (pw (bG N f a b) i * pw c k))
     (sm N fun i => sm N fun k => sm N fun p => sm N fun q => C ((f.c i).c k * ((pw f i).c p).c q) * (pw a p * (pw b q * pw c k))) := by
   refine Ag.sm (fun i hi => Ag.sm (fun k hk => ?_))
   refine Ag.trans (Ag.rfl.mul (((((sG f ha hb).pw i).trans (Acm hN f ha hb i).symm)).mul Ag.rfl)) (Ag.of_eq ?_)
   rw [qC, jK, nB]
   refine bS (fun p _ => ?_)
   rw [jK, nB]
   refine bS (fun q _ => ?_)
   rw [← nV]
   ac_rfl
 refine h1.trans (Ag.of_eq ?_)
 rw [bS (fun i _ => oT N N _), oT N N]
 refine bS (fun p _ => ?_)
 rw [bS (fun i _ => bS (fun k _ => rfl)), bS (fun i _ => oT N N _), oT N N]
 refine bS (fun q _ => ?_)
 rw [oT N N]
 refine bS (fun k _ => ?_)
 rw [oA, jK]
theorem Aba {N : Nat} (hN : 1 ≤ N) (f : PS (PS R)) {a b c : PS R} (hf : (f.c 0).c 0 = 0) (ha : a.c 0 = 0) (hb : b.c 0 = 0) (hc : c.c 0 = 0) :
   Ag N (bG N f a (bG N f b c)) (sm N fun p => sm N fun q => sm N fun k => C (sm N fun j => (f.c p).c j * ((pw f j).c q).c k) * (pw a p * (pw b q * pw c k))) := by
 refine (sG f ha (pF hf hb hc)).trans ?_
 rw [qC]
 refine Ag.sm (fun p hp => ?_)
 have h1 : Ag N (sm N fun j => C ((f.c p).c j) * (pw a p * pw (bG N f b c) j))
     (sm N fun j => sm N fun q => sm N fun k => C ((f.c p).c j * ((pw f j).c q).c k) * (pw a p * (pw b q * pw c k))) := by
   refine Ag.sm (fun j hj => ?_)
   refine Ag.trans (Ag.rfl.mul (Ag.rfl.mul ((((sG f hb hc).pw j).trans (Acm hN f hb hc j).symm)))) (Ag.of_eq ?_)
   rw [qC, nB, nB]
   refine bS (fun q _ => ?_)
   rw [nB, nB]
   refine bS (fun k _ => ?_)
   rw [← nV]
   ac_rfl
 refine h1.trans (Ag.of_eq ?_)
 rw [oT N N]
 refine bS (fun q _ => ?_)
 rw [oT N N]
 refine bS (fun k _ => ?_)
 rw [oA, jK]
theorem Ag.low3 {N p q k : Nat} {a b c : PS R} (ha : a.c 0 = 0) (hb : b.c 0 = 0) (hc : c.c 0 = 0) (h : N ≤ p + q + k) (y : PS R) : Ag N (y * (Go.Fg.pw a p * (Go.Fg.pw b q * Go.Fg.pw c k))) 0 := by
 have h0 : Ag N (Go.Fg.pw a p * (Go.Fg.pw b q * Go.Fg.pw c k)) 0 := fun n hn => by
   rw [cN]
   refine dH (fun i hi => ?_)
   by_cases h1 : i < p
   · rw [gR ha p i h1, Go.Fg.zero_mul]
   · have := Ag.low2 (N := n - i + 1) hb hc (i := q) (j := k) (by omega) (1 : PS R) (n - i) (by omega)
     rw [CR.one_mul] at this
     rw [this, lT, Go.Fg.mul_zero]
 exact (Ag.rfl.mul h0).trans (Ag.of_eq (Go.Fg.mul_zero y))
theorem Amn {N : Nat} (hN : 1 ≤ N) (f : PS (PS R)) {a b c : PS R} (hf : (f.c 0).c 0 = 0) (ha : a.c 0 = 0) (hb : b.c 0 = 0) (hc : c.c 0 = 0)
   (h : ∀ p q k, p + q + k < N → sm (N - k) (fun i => (f.c i).c k * ((pw f i).c p).c q) = sm (N - p) (fun j => (f.c p).c j * ((pw f j).c q).c k)) :
   Ag N (bG N f (bG N f a b) c) (bG N f a (bG N f b c)) := by
 refine (Ae3 hN f hf ha hb hc).trans (Ag.trans ?_ (Aba hN f hf ha hb hc).symm)
 refine Ag.sm (fun p hp => Ag.sm (fun q hq => Ag.sm (fun k hk => ?_)))
 by_cases hs : p + q + k < N
 · refine Ag.of_eq (congrArg (fun z => C z * (pw a p * (pw b q * pw c k))) ?_)
   have x1 : sm N (fun i => (f.c i).c k * ((pw f i).c p).c q) = sm (N - k) (fun i => (f.c i).c k * ((pw f i).c p).c q) :=
     uA (by omega) (fun i h1 h2 => by rw [U6 hf i p q (by omega), Go.Fg.mul_zero])
   have x2 : sm N (fun j => (f.c p).c j * ((pw f j).c q).c k) = sm (N - p) (fun j => (f.c p).c j * ((pw f j).c q).c k) :=
     uA (by omega) (fun j h1 h2 => by rw [U6 hf j q k (by omega), Go.Fg.mul_zero])
   rw [x1, x2]
   exact h p q k hs
 · exact (Ag.low3 ha hb hc (by omega) _).trans (Ag.low3 ha hb hc (by omega) _).symm
theorem qU {N : Nat} (f : PS (PS R)) {a b : PS R} (ha : a.c 0 = 0) (hb : b.c 0 = 0) (h : ∀ i j, i + j < N → (f.c i).c j = (f.c j).c i) : Ag N (bG N f a b) (bG N f b a) := by
 refine (sG f ha hb).trans (Ag.trans ?_ (sG f hb ha).symm)
 rw [qC, qC, oT N N]
 refine Ag.sm (fun j hj => Ag.sm (fun i hi => ?_))
 by_cases hs : i + j < N
 · rw [h i j hs, CR.mul_comm (pw a i)]
   exact Ag.rfl
 · exact (Ag.low2 ha hb (by omega) _).trans (Ag.low2 hb ha (by omega) _).symm
end PS
end Go.Fg
namespace Go.Fg
open CR
namespace PS
variable {R : Type} [CR R]
theorem D7 (n k : Nat) (f : Nat → R) : mono n (sm k f) = sm k fun i => mono n (f i) := by
 ext i
 rw [cK, sm_c]
 by_cases h : i = n
 · rw [if_pos h]; exact bS (fun j _ => by rw [cK, if_pos h])
 · rw [if_neg h]; exact (dH (fun j _ => by rw [cK, if_neg h])).symm
theorem wP {a : PS R} (ha : a.c 0 = 0) : ∀ p : Nat, (Go.Fg.pw a p).c p = Go.Fg.pw (a.c 1) p
 | 0 => by rw [pw_zero, pw_zero]; rfl
 | p + 1 => by
   rw [cV, cN, cV, ← wP ha p]
   rw [eQ p (by omega) (fun i hi hne => ?_), show p + 1 - p = 1 by omega]
   by_cases h : i < p
   · rw [gR ha p i h, Go.Fg.zero_mul]
   · rw [show p + 1 - i = 0 by omega, ha, Go.Fg.mul_zero]
theorem Z9 {u v : PS R} {p q : Nat} (hu : ∀ i, i < p → u.c i = 0) (hv : ∀ i, i < q → v.c i = 0) : (∀ i, i < p + q → (u * v).c i = 0) ∧ (u * v).c (p + q) = u.c p * v.c q := by
 constructor
 · intro i hi
   rw [cN]
   refine dH (fun j hj => ?_)
   by_cases h : j < p
   · rw [hu j h, Go.Fg.zero_mul]
   · rw [hv (i - j) (by omega), Go.Fg.mul_zero]
 · rw [cN, eQ p (by omega) (fun j hj hne => ?_), show p + q - p = q by omega]
   by_cases h : j < p
   · rw [hu j h, Go.Fg.zero_mul]
   · rw [hv (p + q - j) (by omega), Go.Fg.mul_zero]
theorem Ako {a b c : PS R} (ha : a.c 0 = 0) (hb : b.c 0 = 0) (hc : c.c 0 = 0) {n p q k : Nat} (h : p + q + k = n) (g : R) :
   Ag (n + 1) (C g * (Go.Fg.pw a p * (Go.Fg.pw b q * Go.Fg.pw c k))) (mono n (g * (Go.Fg.pw (a.c 1) p * (Go.Fg.pw (b.c 1) q * Go.Fg.pw (c.c 1) k)))) := fun i hi => by
 have h1 := Z9 (u := Go.Fg.pw b q) (v := Go.Fg.pw c k) (fun i hi => gR hb q i hi) (fun i hi => gR hc k i hi)
 have h2 := Z9 (u := Go.Fg.pw a p) (v := Go.Fg.pw b q * Go.Fg.pw c k) (fun i hi => gR ha p i hi) h1.1
 rw [C_mul, cK]
 by_cases e : i = n
 · rw [if_pos e, e, show n = p + (q + k) by omega, h2.2, h1.2, wP ha, wP hb, wP hc]
 · rw [if_neg e, h2.1 i (by omega), Go.Fg.mul_zero]
def jN (f : PS (PS R)) (N p q k : Nat) : R := sm N (fun i => (f.c i).c k * ((Go.Fg.pw f i).c p).c q) - sm N (fun j => (f.c p).c j * ((Go.Fg.pw f j).c q).c k)
def Gm (n : Nat) (G : Nat → Nat → Nat → R) (x y z : R) : R := sm (n + 1) fun p => sm (n + 1) fun q => sm (n + 1) fun k => if p + q + k = n then G p q k * (Go.Fg.pw x p * (Go.Fg.pw y q * Go.Fg.pw z k)) else 0
theorem Agn {n : Nat} (f : PS (PS R)) {a b c : PS R} (hf : (f.c 0).c 0 = 0) (ha : a.c 0 = 0) (hb : b.c 0 = 0) (hc : c.c 0 = 0) (hl : ∀ p q k, p + q + k < n → jN f (n + 1) p q k = 0) :
   Ag (n + 1) (bG (n + 1) f (bG (n + 1) f a b) c) (bG (n + 1) f a (bG (n + 1) f b c) + mono n (Gm n (jN f (n + 1)) (a.c 1) (b.c 1) (c.c 1))) := by
 refine (Ae3 (by omega) f hf ha hb hc).trans (Ag.trans ?_ (Ag.add (Aba (by omega) f hf ha hb hc).symm Ag.rfl))
 unfold Gm
 rw [D7, ← kB]
 refine Ag.sm (fun p hp => ?_)
 rw [D7, ← kB]
 refine Ag.sm (fun q hq => ?_)
 rw [D7, ← kB]
 refine Ag.sm (fun k hk => ?_)
 have e : sm (n + 1) (fun i => (f.c i).c k * ((Go.Fg.pw f i).c p).c q) = sm (n + 1) (fun j => (f.c p).c j * ((Go.Fg.pw f j).c q).c k) + jN f (n + 1) p q k := by
   unfold jN; rw [CR.add_comm, Go.Fg.sub_add_cancel]
 rw [e, ← qK, Go.Fg.add_mul]
 refine Ag.add Ag.rfl ?_
 by_cases h1 : p + q + k < n
 · rw [hl p q k h1, if_neg (by omega), C_zero, Go.Fg.zero_mul]
   exact fun i _ => by rw [cK]; split <;> rfl
 · by_cases h2 : p + q + k = n
   · rw [if_pos h2]; exact Ako ha hb hc h2 _
   · rw [if_neg h2]
     refine (Ag.low3 ha hb hc (by omega) _).trans (fun i _ => ?_)
     rw [cK]; split <;> rfl
theorem Al7 {n : Nat} (hn : 1 ≤ n) {a : PS R} (ha : a.c 0 = 0) (e : R) : ∀ i : Nat, i ≠ 1 → Ag (n + 1) (Go.Fg.pw (a + mono n e) i) (Go.Fg.pw a i)
 | 0, _ => Ag.rfl
 | 1, h => absurd rfl h
 | i + 2, _ => by
   have key : ∀ (u : PS R), u.c 0 = 0 → Ag (n + 1) (u * mono n e) 0 := fun u hu j hj => by
     rw [cN]
     refine dH (fun k hk => ?_)
     by_cases h0 : k = 0
     · rw [h0, hu, Go.Fg.zero_mul]
     · rw [cK, if_neg (by omega), Go.Fg.mul_zero]
   have hs : ∀ i : Nat, ∃ d : R, Ag (n + 1) (Go.Fg.pw (a + mono n e) (i + 1)) (Go.Fg.pw a (i + 1) + mono n d) := by
     intro i
     induction i with
     | zero => exact ⟨e, by rw [pw_one, pw_one]; exact Ag.rfl⟩
     | succ i ih =>
       obtain ⟨d, hd⟩ := ih
       refine ⟨0, ?_⟩
       rw [cV (a + mono n e)]
       refine (hd.mul Ag.rfl).trans ?_
       rw [Go.Fg.add_mul, CR.mul_add, CR.mul_add]
       refine (Ag.add (Ag.add Ag.rfl (key _ (gR ha (i + 1) 0 (by omega)))) (Ag.add ?_ ?_)).trans (b := Go.Fg.pw a (i + 1) * a + 0 + (0 + 0)) ?_
       · rw [CR.mul_comm]
         intro j hj
         rw [cN]
         refine dH (fun k hk => ?_)
         by_cases h0 : k = 0
         · rw [h0, ha, Go.Fg.zero_mul]
         · rw [cK, if_neg (by omega), Go.Fg.mul_zero]
       · exact key _ (by rw [cK, if_neg (by omega)])
       · rw [Go.Fg.add_zero, Go.Fg.add_zero, Go.Fg.add_zero, ← cV]
         intro j hj
         rw [add_c, cK]
         split <;> exact (Go.Fg.add_zero _).symm
   obtain ⟨d, hd⟩ := hs i
   rw [cV (a + mono n e)]
   refine (hd.mul Ag.rfl).trans ?_
   rw [Go.Fg.add_mul, CR.mul_add, CR.mul_add]
   refine (Ag.add (Ag.add Ag.rfl (key _ (gR ha (i + 1) 0 (by omega)))) (Ag.add ?_ ?_)).trans (b := Go.Fg.pw a (i + 1) * a + 0 + (0 + 0)) ?_
   · rw [CR.mul_comm]
     intro j hj
     rw [cN]
     refine dH (fun k hk => ?_)
     by_cases h0 : k = 0
     · rw [h0, ha, Go.Fg.zero_mul]
     · rw [cK, if_neg (by omega), Go.Fg.mul_zero]
   · exact key _ (by rw [cK, if_neg (by omega)])
   · rw [Go.Fg.add_zero, Go.Fg.add_zero, Go.Fg.add_zero, ← cV]
     exact Ag.rfl
end PS
end Go.Fg
namespace Go.Fg
open CR
namespace PS
variable {R : Type} [CR R]
structure Lw (f : PS (PS R)) (n : Nat) : Prop where
 pos : 1 ≤ n
 z0 : (f.c 0).c 0 = 0
 z1 : (f.c 1).c 0 = 1
 zz : ∀ i, i < n + 1 → i ≠ 1 → (f.c i).c 0 = 0
 sym : ∀ i j, i + j < n + 1 → (f.c i).c j = (f.c j).c i
 as : ∀ p q k, p + q + k < n → jN f (n + 1) p q k = 0
theorem Aia {n : Nat} {u : PS R} (hu : u.c 0 = 0) (e : R) : Ag (n + 1) (mono n e * u) 0 := fun i hi => by
 rw [F8]
 split
 · rfl
 · rw [show i - n = 0 by omega, hu, Go.Fg.mul_zero]; rfl
theorem B4 {n : Nat} (hn : 1 ≤ n) (f : PS (PS R)) (h1 : (f.c 1).c 0 = 1) {a b : PS R} (ha : a.c 0 = 0) (hb : b.c 0 = 0) (e : R) :
   Ag (n + 1) (bG (n + 1) f (a + mono n e) b) (bG (n + 1) f a b + mono n e) := by
 have hs : bG (n + 1) f a b + mono n e = Go.Fg.sm (n + 1) fun i => (Go.Fg.sm (n + 1 - i) fun j => C ((f.c i).c j) * (Go.Fg.pw a i * Go.Fg.pw b j)) + (if i = 1 then mono n e else 0) := by
   rw [kB, eQ (f := fun i => if i = 1 then mono n e else 0) 1 (by omega) (fun i _ h => if_neg h), if_pos rfl]; rfl
 rw [hs]
 refine Ag.sm (fun i hi => ?_)
 by_cases h : i = 1
 · rw [if_pos h, h]
   have hs2 : (Go.Fg.sm (n + 1 - 1) fun j => C ((f.c 1).c j) * (Go.Fg.pw a 1 * Go.Fg.pw b j)) + mono n e = Go.Fg.sm (n + 1 - 1) fun j => C ((f.c 1).c j) * (Go.Fg.pw a 1 * Go.Fg.pw b j) + (if j = 0 then mono n e else 0) := by
     rw [kB, eQ (f := fun j => if j = 0 then mono n e else 0) 0 (by omega) (fun i _ h => if_neg h), if_pos rfl]
   rw [hs2]
   refine Ag.sm (fun j hj => ?_)
   rw [Go.Fg.pw_one, Go.Fg.pw_one]
   by_cases h0 : j = 0
   · rw [if_pos h0, h0, h1, Go.Fg.pw_zero, Go.Fg.mul_one, Go.Fg.mul_one, show (C (1 : R) : PS R) = 1 from rfl, CR.one_mul, CR.one_mul]
     exact Ag.rfl
   · rw [if_neg h0, Go.Fg.add_zero, Go.Fg.add_mul, CR.mul_add]
     refine (Ag.add Ag.rfl (Ag.rfl.mul (Aia (gR hb j 0 (by omega)) e))).trans (Ag.of_eq ?_)
     rw [Go.Fg.mul_zero, Go.Fg.add_zero]
 · rw [if_neg h, Go.Fg.add_zero]
   exact Ag.sm (fun j hj => Ag.rfl.mul ((Al7 hn ha e i h).mul Ag.rfl))
theorem Akl {n : Nat} (hn : 1 ≤ n) {a : PS R} (ha : a.c 0 = 0) (e : R) : (a + mono n e).c 0 = 0 := by
 rw [add_c, cK, if_neg (by omega), ha, Go.Fg.add_zero]
theorem Amx {n : Nat} {f : PS (PS R)} (L : Lw f n) {a b : PS R} (ha : a.c 0 = 0) (hb : b.c 0 = 0) (e : R) :
   Ag (n + 1) (bG (n + 1) f a (b + mono n e)) (bG (n + 1) f a b + mono n e) :=
 (qU f ha (Akl L.pos hb e) L.sym).trans ((B4 L.pos f L.z1 hb ha e).trans (Ag.add (qU f hb ha L.sym) Ag.rfl))
theorem E0 {n : Nat} {f : PS (PS R)} (L : Lw f n) {a b : PS R} (ha : a.c 0 = 0) (hb : b.c 0 = 0) : (bG (n + 1) f a b).c 1 = a.c 1 + b.c 1 := by
 have hn := L.pos
 have h : Ag 2 (bG (n + 1) f a b) (b + a) := by
   have x1 : Ag 2 (Go.Fg.sm (n + 1) fun i => Go.Fg.sm (n + 1 - i) fun j => C ((f.c i).c j) * (Go.Fg.pw a i * Go.Fg.pw b j)) (Go.Fg.sm 2 fun i => Go.Fg.sm (n + 1 - i) fun j => C ((f.c i).c j) * (Go.Fg.pw a i * Go.Fg.pw b j)) :=
     Ag.sm_drop (by omega) (fun i h1 h2 => (Ag.sm (g := fun _ => 0) (fun j hj => Ag.low2 ha hb (by omega) _)).trans (Ag.of_eq (dH (fun _ _ => rfl))))
   refine x1.trans ?_
   rw [cB, cB, jJ, CR.zero_add]
   refine Ag.add ?_ ?_
   · refine (Ag.sm_drop (n := 2) (by omega) (fun j h1 h2 => Ag.low2 ha hb (by omega) _)).trans (Ag.of_eq ?_)
     rw [cB, cB, jJ, CR.zero_add, L.z0, C_zero, Go.Fg.zero_mul, CR.zero_add, L.sym 0 1 (by omega), L.z1, Go.Fg.pw_zero, Go.Fg.pw_one, CR.one_mul]
     exact CR.one_mul _
   · refine (Ag.sm_drop (n := 1) (by omega) (fun j h1 h2 => Ag.low2 ha hb (by omega) _)).trans (Ag.of_eq ?_)
     rw [cB, jJ, CR.zero_add, L.z1, Go.Fg.pw_zero, Go.Fg.pw_one, Go.Fg.mul_one]
     exact CR.one_mul _
 have := h 1 (by omega)
 rw [this, add_c, CR.add_comm]
theorem uT {n : Nat} {u v : PS R} {e : R} (h : Ag (n + 1) u (v + mono n e)) : u.c n = v.c n + e := by
 rw [h n (by omega), add_c, cK, if_pos rfl]
section
variable {n : Nat} {f : PS (PS R)} (L : Lw f n)
include L
theorem wN {a b c : PS R} (ha : a.c 0 = 0) (hb : b.c 0 = 0) (hc : c.c 0 = 0) :
   Ag (n + 1) (bG (n + 1) f (bG (n + 1) f a b) c) (bG (n + 1) f a (bG (n + 1) f b c) + mono n (Gm n (jN f (n + 1)) (a.c 1) (b.c 1) (c.c 1))) := Agn f L.z0 ha hb hc L.as
theorem Asz {w x y z : PS R} (hw : w.c 0 = 0) (hx : x.c 0 = 0) (hy : y.c 0 = 0) (hz : z.c 0 = 0) :
   Gm n (jN f (n + 1)) (w.c 1 + x.c 1) (y.c 1) (z.c 1) + Gm n (jN f (n + 1)) (w.c 1) (x.c 1) (y.c 1 + z.c 1)
     = Gm n (jN f (n + 1)) (w.c 1) (x.c 1) (y.c 1) + Gm n (jN f (n + 1)) (w.c 1) (x.c 1 + y.c 1) (z.c 1) + Gm n (jN f (n + 1)) (x.c 1) (y.c 1) (z.c 1) := by
 have hwx := pF (N := n + 1) L.z0 hw hx
 have hxy := pF (N := n + 1) L.z0 hx hy
 have hyz := pF (N := n + 1) L.z0 hy hz
 have hxyz := pF (N := n + 1) L.z0 hx hyz
 have hwxy := pF (N := n + 1) L.z0 hw hxy
 have A := uT (wN L hwx hy hz)
 have B := uT (wN L hw hx hyz)
 have c1 := (mO (f := f) (fun i j _ => rfl) (wN L hw hx hy) (Ag.rfl (a := z))).trans (B4 L.pos f L.z1 hwxy hz _)
 have Cc := uT c1
 have D := uT (wN L hw hxy hz)
 have e1 := (mO (f := f) (fun i j _ => rfl) (Ag.rfl (a := w)) (wN L hx hy hz)).trans (Amx L hw hxyz _)
 have Ec := uT e1
 rw [E0 L hw hx] at A
 rw [E0 L hy hz] at B
 rw [E0 L hx hy] at D
 rw [B] at A
 rw [D, Ec] at Cc
 have key := A.symm.trans Cc
 refine I5 (a := (bG (n + 1) f w (bG (n + 1) f x (bG (n + 1) f y z))).c n) ?_
 rw [CR.add_comm (Gm n (jN f (n + 1)) (w.c 1 + x.c 1) (y.c 1) (z.c 1)), ← CR.add_assoc, key]
 ac_rfl
end
end PS
end Go.Fg
namespace Go.Fg
open CR
namespace PS
variable {R : Type} [CR R]
def up (f : PS (PS R)) : PS (PS (PS R)) := ⟨fun i => ⟨fun j => C ((f.c i).c j)⟩⟩
theorem pH (f : PS (PS R)) (i j : Nat) : ((up f).c i).c j = C ((f.c i).c j) := rfl
theorem up_mul (f g : PS (PS R)) : up (f * g) = up f * up g := by
 refine PS.ext (fun i => PS.ext (fun j => ?_))
 rw [pH, cN, cN, sm_c, sm_c, oA]
 refine bS (fun p _ => ?_)
 rw [cN, cN, oA]
 exact bS (fun q _ => by rw [← nV]; rfl)
theorem Ah5 : up (1 : PS (PS R)) = 1 := by
 refine PS.ext (fun i => PS.ext (fun j => ?_))
 rw [pH, one_c, one_c]
 by_cases h : i = 0
 · rw [if_pos h, if_pos h, one_c, one_c]
   by_cases h2 : j = 0
   · rw [if_pos h2, if_pos h2]; rfl
   · rw [if_neg h2, if_neg h2]; exact C_zero
 · rw [if_neg h, if_neg h]; exact C_zero
theorem Ad9 (f : PS (PS R)) (k : Nat) : Go.Fg.pw (up f) k = up (Go.Fg.pw f k) := by
 induction k with
 | zero => exact Ah5.symm
 | succ k ih => rw [cV, cV, up_mul, ih]
end PS
variable {m : Int}
open PS
section
variable {f : PS (PS (Zm m))} {n : Nat}
end
end Go.Fg
namespace Go.Fg
open CR PS
inductive RK where
 | an (a b c : Nat)
 | cy (a b c : Nat)
 | pe (i j k l : Nat)
variable {m : Int}
end Go.Fg
namespace Go.Fg
open CR
namespace PS
variable {R : Type} [CR R]
end PS
variable {m : Int}
open PS
def Aei (f : PS (PS (Zm m))) (n : Nat) (v : Nat → Zm m) : Prop :=
 (∀ i, i ≤ n → v (n - i) = v i) ∧ ∀ p q k, 1 ≤ p → 1 ≤ q → 1 ≤ k → p + q + k = n → jN f (n + 1) p q k + v (p + q) * Zm.mk m (cX (p + q) p : Nat) = v p * Zm.mk m (cX (q + k) q : Nat)
end Go.Fg
namespace Go.Fg
def X7 : Nat → (Nat → Int) → Int
 | 0, _ => 0
 | n + 1, f => X7 n f + f n
def swp (a b i : Nat) : Nat := if i = a then b else if i = b then a else i
end Go.Fg
namespace Go.Fg
structure Elim (q : Int) (N u s : Nat) (M : Nat → Nat → Int) (o : Nat → Nat) : Prop where
 sN : s ≤ N
 su : s ≤ u
 piv : ∀ k, k < s → 0 < M k k ∧ M k k ∣ q
 dv : ∀ k j, k < s → k ≤ j → j < u → M k k ∣ M k j
 zr : ∀ i k, k < s → k < i → i < N → M i k = 0
 ol : ∀ k, k < u → o k < u
 inj : ∀ k j, k < u → j < u → o k = o j → k = j
section
variable {q : Int} {N u s : Nat} {M : Nat → Nat → Int} {o : Nat → Nat}
end
end Go.Fg
namespace Go.Fg
def sC (m : Int) (u : Nat) (r : List Int) (x : Nat → Int) : Prop := m ∣ X7 u (fun k => r.getD k 0 * x k) - r.getD u 0
def rH (m : Int) (u : Nat) (R : List (List Int)) (x : Nat → Int) : Prop := ∀ r ∈ R, sC m u r x
structure RowB (m : Int) (u j : Nat) (r : List Int) : Prop where
 len : r.length = u + 1
 rng : ∀ k, 0 ≤ r.getD k 0 ∧ r.getD k 0 < m
 zr : ∀ k, j ≤ k → k < u → r.getD k 0 = 0
def Q0 (S : (Nat → Int) → Prop) (j : Nat) (x : Nat → Int) : Prop := ∃ y, (∀ i, i < j → y i = x i) ∧ S y
structure PivOk (m : Int) (u : Nat) (S : (Nat → Int) → Prop) (j : Nat) (R P : List (List Int)) : Prop where
 rb : ∀ r ∈ R, RowB m u j r
 pl : P.length = u
 lo : ∀ k, k < j → P.getD k [] = []
 pb : ∀ k, j ≤ k → k < u → P.getD k [] ≠ [] → RowB m u (k + 1) (P.getD k [])
 ex : ∀ x, rH m u R x ↔ Q0 S j x
 a : ∀ k, j ≤ k → k < u → P.getD k [] ≠ [] → ∀ x, S x → sC m u (P.getD k []) x
 b : ∀ k, j ≤ k → k < u → ∀ x, Q0 S k x → (P.getD k [] ≠ [] → sC m u (P.getD k []) x) → Q0 S (k + 1) x
section
variable {m : Int} {u j : Nat} {S : (Nat → Int) → Prop} {R P : List (List Int)}
structure EucI (m : Int) (u j : Nat) (R : List (List Int)) (i : Nat) (rest : List (List Int)) (piv : List Int) : Prop where
 rb : ∀ r ∈ rest, RowB m u j r
 pb : piv ≠ [] → RowB m u (j + 1) piv ∧ piv.getD j 0 ≠ 0
 iff : ∀ x, rH m u R x ↔ rH m u rest x ∧ (piv ≠ [] → sC m u piv x) ∧ rH m u (R.drop i) x
structure EucR (m : Int) (u j : Nat) (R : List (List Int)) (i : Nat) (rest : List (List Int)) (piv row : List Int) : Prop where
 rb : ∀ r ∈ rest, RowB m u j r
 pb : piv ≠ [] → RowB m u (j + 1) piv ∧ piv.getD j 0 ≠ 0
 ob : RowB m u (j + 1) row
 iff : ∀ x, rH m u R x ↔ rH m u rest x ∧ (piv ≠ [] → sC m u piv x) ∧ sC m u row x ∧ rH m u (R.drop i) x
def V4 (m : Int) (a b : List Int) (k : Int) : List Int := (List.range a.length).map fun i => (a.getD i 0 - k * b.getD i 0) % m
@[simp] theorem At4 (m : Int) (a b : List Int) (k : Int) : (V4 m a b k).length = a.length := by simp [V4]
section
variable {i : Nat} {rest : List (List Int)} {piv row : List Int}
end
end
end Go.Fg
namespace Go.Fg
open CR PS
variable {m : Int}
def As2 (n : Nat) (v w : Nat → Zm m) : Prop := (∀ k, k < n → v k = w k) ∨ ∃ k, k < n ∧ (∀ i, i < k → v i = w i) ∧ (v k).val < (w k).val
structure First (f : PS (PS (Zm m))) (n : Nat) (v : Nat → Zm m) : Prop where
 z : v 0 = 0
 eq : Aei f n v
 le : ∀ w, w 0 = 0 → Aei f n w → As2 (n + 1) v w
end Go.Fg
