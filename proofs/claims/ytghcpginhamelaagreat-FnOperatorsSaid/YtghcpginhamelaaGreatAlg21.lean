import Derived.Test.YtghcpginhamelaaGreatAlg11
set_option linter.unusedVariables false
set_option linter.unusedSimpArgs false
set_option linter.unusedSectionVars false
namespace Go.Fg
open CR
structure AG (A : Type) where
 z : A
 ad : A → A → A
 ng : A → A
 assoc : ∀ a b c, ad (ad a b) c = ad a (ad b c)
 comm : ∀ a b, ad a b = ad b a
 zad : ∀ a, ad z a = a
 nad : ∀ a, ad (ng a) a = z
namespace AG
variable {A : Type} (G : AG A)
theorem adz (a : A) : G.ad a G.z = a := by rw [G.comm, G.zad]
theorem adn (a : A) : G.ad a (G.ng a) = G.z := by rw [G.comm, G.nad]
theorem cancel {a b c : A} (h : G.ad a b = G.ad a c) : b = c := by
 rw [← G.zad b, ← G.zad c, ← G.nad a, G.assoc, G.assoc, h]
theorem ng_of {a b : A} (h : G.ad a b = G.z) : b = G.ng a := G.cancel (a := a) (by rw [h, G.adn])
theorem ng_z : G.ng G.z = G.z := (G.ng_of (G.zad G.z)).symm
theorem swp (a b c d : A) : G.ad (G.ad a b) (G.ad c d) = G.ad (G.ad a c) (G.ad b d) := by
 rw [G.assoc, G.assoc, ← G.assoc b, G.comm b c, G.assoc]
def nm : Nat → A → A
 | 0, _ => G.z
 | n + 1, a => G.ad (nm n a) a
theorem nm_add : ∀ (n k : Nat) (a : A), G.nm (n + k) a = G.ad (G.nm n a) (G.nm k a)
 | n, 0, a => (G.adz _).symm
 | n, k + 1, a => by show G.ad (G.nm (n + k) a) a = G.ad _ (G.ad (G.nm k a) a); rw [nm_add n k, G.assoc]
theorem nm_ad : ∀ (n : Nat) (a b : A), G.nm n (G.ad a b) = G.ad (G.nm n a) (G.nm n b)
 | 0, a, b => (G.zad _).symm
 | n + 1, a, b => by show G.ad (G.nm n _) _ = G.ad (G.ad _ _) (G.ad _ _); rw [nm_ad n, G.swp]
def zm : Int → A → A
 | .ofNat n, a => G.nm n a
 | .negSucc n, a => G.ng (G.nm (n + 1) a)
theorem zm_neg_nat (n : Nat) (a : A) : G.zm (-(n : Int)) a = G.ng (G.nm n a) := by
 cases n with
 | zero => exact G.ng_z.symm
 | succ n => rfl
end AG
namespace PS
variable {R : Type} [CR R]
theorem pM {N : Nat} (a : PS R) {c : PS R} (hc : c.c 0 = 0) : Ag N (comp a c) (E N (axX a) c) := by
 refine (jT hc N).symm.trans (Ag.of_eq ?_)
 unfold compN E
 exact aR (fun i _ => by rw [Nat.zero_add]; rfl)
theorem xO (N : Nat) (a b : PS R) {c : PS R} (hc : c.c 0 = 0) : Ag N (comp (a * b) c) (comp a c * comp b c) := by
 refine (pM _ hc).trans ?_
 rw [vD]
 exact (F7 _ _ hc).trans ((pM a hc).symm.mul (pM b hc).symm)
theorem xR {N : Nat} (hN : 1 ≤ N) (a : PS R) {c : PS R} (hc : c.c 0 = 0) : ∀ k, Ag N (comp (Go.Fg.pw a k) c) (Go.Fg.pw (comp a c) k)
 | 0 => (pM _ hc).trans (by rw [pw_zero, vG, W8 hN]; exact Ag.rfl)
 | k + 1 => (xO N _ a hc).trans ((xR hN a hc k).mul Ag.rfl)
theorem Abs {N : Nat} (hN : 1 ≤ N) (r : R) {c : PS R} (hc : c.c 0 = 0) : Ag N (comp (C r) c) (C r) := by
 refine (pM _ hc).trans (Ag.of_eq ?_)
 unfold E
 rw [cE 0 (by omega) (fun i _ hne => by show C ((C r).c i) * _ = 0; rw [cO, if_neg hne, C_zero, Go.Fg.zero_mul])]
 show C ((C r).c 0) * _ = _
 rw [cO, if_pos rfl, pw_zero, Go.Fg.mul_one]
theorem F1 (N k : Nat) (u : Nat → PS R) {c : PS R} (hc : c.c 0 = 0) : Ag N (comp (Go.Fg.sm k u) c) (Go.Fg.sm k fun i => comp (u i) c) := by
 refine (pM _ hc).trans ?_
 rw [K6, Ah6]
 exact Ag.sm (fun i _ => (pM (u i) hc).symm)
theorem zY (a c : PS R) : (comp a c).c 0 = a.c 0 := by
 show (compN a c 0 1).c 0 = _
 unfold compN
 rw [bF, fD, CR.zero_add, pw_zero, Go.Fg.mul_one, cO, if_pos rfl]
theorem Z4 {N : Nat} (hN : 1 ≤ N) (f : PS (PS R)) (a b : PS R) {c : PS R} (hc : c.c 0 = 0) : Ag N (comp (evT N f a b) c) (evT N f (comp a c) (comp b c)) := by
 refine (F1 N N _ hc).trans (Ag.sm (fun i hi => (F1 N _ _ hc).trans (Ag.sm (fun j hj => ?_))))
 exact (xO N _ _ hc).trans ((Abs hN _ hc).mul ((xO N _ _ hc).trans ((xR hN a hc i).mul (xR hN b hc j))))
theorem Abp (N : Nat) {c : PS R} (hc : c.c 0 = 0) : Ag N (comp X c) c := by
 cases N with
 | zero => exact fun i hi => absurd hi (by omega)
 | succ N =>
   cases N with
   | zero => exact fun i hi => by rw [show i = 0 by omega, zY, hc]; rfl
   | succ N =>
     refine (pM _ hc).trans (Ag.of_eq ?_)
     unfold E
     rw [cE 1 (by omega) (fun i _ hne => by show C (X.c i) * _ = 0; rw [jD, if_neg hne, C_zero, Go.Fg.zero_mul])]
     show C (X.c 1) * _ = _
     rw [jD, if_pos rfl, pw_one]
     exact CR.one_mul c
theorem Asj (c : PS R) : comp 0 c = 0 := by
 ext n
 show (compN 0 c 0 (n + 1)).c n = 0
 unfold compN
 rw [cH (fun i _ => by rw [fQ, C_zero, Go.Fg.zero_mul])]
 rfl
structure LwN (f : PS (PS R)) (N : Nat) : Prop where
 pos : 2 ≤ N
 z0 : (f.c 0).c 0 = 0
 z1 : (f.c 1).c 0 = 1
 zz : ∀ i, i < N → i ≠ 1 → (f.c i).c 0 = 0
 sym : ∀ i j, i + j < N → (f.c i).c j = (f.c j).c i
 as : ∀ p q k, p + q + k < N → Go.Fg.sm (N - k) (fun i => (f.c i).c k * ((Go.Fg.pw f i).c p).c q) = Go.Fg.sm (N - p) (fun j => (f.c p).c j * ((Go.Fg.pw f j).c q).c k)
theorem zD {K N : Nat} (h : K ≤ N) (f : PS (PS R)) {a b : PS R} (ha : a.c 0 = 0) (hb : b.c 0 = 0) : Ag K (evT N f a b) (evT K f a b) :=
 (Ag.sm_drop h (fun i h1 h2 => (Ag.sm (g := fun _ => 0) (fun j hj => Ag.low2 ha hb (by omega) _)).trans (Ag.of_eq (cH (fun _ _ => rfl))))).trans
   (Ag.sm (fun i hi => Ag.sm_drop (by omega) (fun j h1 h2 => Ag.low2 ha hb (by omega) _)))
section
variable {f : PS (PS R)} {N : Nat} (L : LwN f N)
include L
theorem LwN.zero_left {a : PS R} (ha : a.c 0 = 0) : Ag N (evT N f a 0) a := by
 have hN := L.pos
 unfold evT
 refine Ag.trans (b := Go.Fg.sm N fun i => if i = 1 then a else 0) (Ag.sm (fun i hi => ?_)) (Ag.of_eq ?_)
 · refine Ag.of_eq ?_
   rw [cE 0 (by omega) (fun j _ hne => by rw [wZ hne, Go.Fg.mul_zero, Go.Fg.mul_zero]), pw_zero, Go.Fg.mul_one]
   by_cases h : i = 1
   · rw [if_pos h, h, L.z1, pw_one]; exact CR.one_mul a
   · rw [if_neg h, L.zz i hi h, C_zero, Go.Fg.zero_mul]
 · rw [cE 1 (by omega) (fun i _ hne => if_neg hne), if_pos rfl]
theorem LwN.comm {a b : PS R} (ha : a.c 0 = 0) (hb : b.c 0 = 0) : Ag N (evT N f a b) (evT N f b a) := kI f ha hb L.sym
theorem LwN.assoc {a b c : PS R} (ha : a.c 0 = 0) (hb : b.c 0 = 0) (hc : c.c 0 = 0) : Ag N (evT N f (evT N f a b) c) (evT N f a (evT N f b c)) := Arv (by have := L.pos; omega) f L.z0 ha hb hc L.as
theorem LwN.e0 {a b : PS R} (ha : a.c 0 = 0) (hb : b.c 0 = 0) : (evT N f a b).c 0 = 0 := eB L.z0 ha hb
end
def gQ (N : Nat) (f : PS (PS R)) : Nat → PS R
 | 0 => 0
 | k + 1 => (gQ N f k).upd (k + 1) (-(evT N f X (gQ N f k)).c (k + 1))
theorem Agl (N : Nat) (f : PS (PS R)) : ∀ k i, k < i → (gQ N f k).c i = 0
 | 0, i, h => rfl
 | k + 1, i, h => by show ((gQ N f k).upd _ _).c i = 0; rw [bY, if_neg (by omega), Agl N f k i (by omega)]
theorem wJ (N : Nat) (f : PS (PS R)) : ∀ k, (gQ N f k).c 0 = 0
 | 0 => rfl
 | k + 1 => by show ((gQ N f k).upd _ _).c 0 = 0; rw [bY, if_neg (by omega), wJ N f k]
theorem Alo {a : PS R} {k : Nat} (h : a.c k = 0) (v : R) : a.upd k v = a + mono k v := by
 ext i
 rw [bY, add_c, bO]
 by_cases e : i = k
 · rw [if_pos e, if_pos e, e, h, CR.zero_add]
 · rw [if_neg e, if_neg e, Go.Fg.add_zero]
theorem sG : (X : PS R).c 0 = 0 := rfl
theorem LwN.iv {f : PS (PS R)} {N : Nat} (L : LwN f N) : ∀ k, k < N → Ag (k + 1) (evT N f X (gQ N f k)) 0
 | 0, h => fun i hi => by rw [show i = 0 by omega]; exact L.e0 sG (wJ N f 0)
 | k + 1, h => by
   have h0 := wJ N f k
   have hh := Agl N f k (k + 1) (by omega)
   have ih := L.iv k (by omega)
   have e : gQ N f (k + 1) = gQ N f k + mono (k + 1) (-(evT N f X (gQ N f k)).c (k + 1)) := Alo hh _
   have h0' := wJ N f (k + 1)
   have p1 : Ag (k + 2) (evT N f X (gQ N f (k + 1))) (evT N f X (gQ N f k) + mono (k + 1) (-(evT N f X (gQ N f k)).c (k + 1))) := by
     refine ((zD (by omega) f sG h0').trans (kI f sG h0' (fun i j hij => L.sym i j (by omega)))).trans ?_
     rw [e]
     refine (zM (by omega) f L.z1 h0 sG _).trans (Ag.add ?_ Ag.rfl)
     exact (kI f h0 sG (fun i j hij => L.sym i j (by omega))).trans (zD (by omega) f sG h0).symm
   intro i hi
   rw [p1 i hi, add_c, bO]
   by_cases e2 : i = k + 1
   · rw [if_pos e2, e2, Go.Fg.add_neg]; rfl
   · rw [if_neg e2, ih i (by omega), fQ, Go.Fg.add_zero]
def lX (N : Nat) (f : PS (PS R)) : PS R := gQ N f (N - 1)
theorem Anc (N : Nat) (f : PS (PS R)) : (lX N f).c 0 = 0 := wJ N f _
theorem LwN.iv_X {f : PS (PS R)} {N : Nat} (L : LwN f N) : Ag N (evT N f X (lX N f)) 0 := by
 have := L.pos
 have h := L.iv (N - 1) (by omega)
 rwa [show N - 1 + 1 = N by omega] at h
def rP (N : Nat) (f : PS (PS R)) (a : PS R) : PS R := comp (lX N f) a
theorem W3 (N : Nat) (f : PS (PS R)) (a : PS R) : (rP N f a).c 0 = 0 := by unfold rP; rw [zY, Anc]
theorem LwN.op {f : PS (PS R)} {N : Nat} (L : LwN f N) {a : PS R} (ha : a.c 0 = 0) : Ag N (evT N f a (rP N f a)) 0 := by
 have hN := L.pos
 refine (fW (fun i j _ => rfl) (Abp N ha).symm Ag.rfl).trans ?_
 refine (Z4 (by omega) f X (lX N f) ha).symm.trans ?_
 refine (iX L.iv_X Ag.rfl).trans (Ag.of_eq (Asj a))
def Cv (R : Type) [CR R] (N : Nat) : Type := {a : PS R // a.c 0 = 0 ∧ ∀ i, N ≤ i → a.c i = 0}
def cv (N : Nat) (a : PS R) : Cv R N := ⟨⟨fun i => if i = 0 then 0 else if i < N then a.c i else 0⟩, rfl, fun i hi => by
 show (if i = 0 then 0 else if i < N then a.c i else 0) = 0
 split
 · rfl
 · rw [if_neg (by omega)]⟩
theorem hH {N : Nat} {a : PS R} (h : a.c 0 = 0) : Ag N (cv N a).1 a := fun i hi => by
 show (if i = 0 then 0 else if i < N then a.c i else 0) = _
 split
 · rename_i e; rw [e, h]
 · first | rfl | rw [if_pos hi]
theorem Ahg {N : Nat} {a b : Cv R N} (h : Ag N a.1 b.1) : a = b := Subtype.ext (PS.ext (fun i => by
 rcases Nat.lt_or_ge i N with h1 | h1
 · exact h i h1
 · rw [a.2.2 i h1, b.2.2 i h1]))
theorem rR {N : Nat} {a b : PS R} (h : Ag N a b) : cv N a = cv N b := Ahg (fun i hi => by
 show (if i = 0 then 0 else if i < N then a.c i else 0) = (if i = 0 then 0 else if i < N then b.c i else 0)
 rw [h i hi])
def LwN.G {f : PS (PS R)} {N : Nat} (L : LwN f N) : AG (Cv R N) where
 z := cv N 0
 ad a b := cv N (evT N f a.1 b.1)
 ng a := cv N (rP N f a.1)
 assoc a b c := rR (((fW (fun _ _ _ => rfl) (hH (L.e0 a.2.1 b.2.1)) Ag.rfl).trans (L.assoc a.2.1 b.2.1 c.2.1)).trans (fW (fun _ _ _ => rfl) Ag.rfl (hH (L.e0 b.2.1 c.2.1))).symm)
 comm a b := rR (L.comm a.2.1 b.2.1)
 zad a := Ahg ((hH (L.e0 (cv N 0).2.1 a.2.1)).trans (((L.comm (cv N 0).2.1 a.2.1).trans (fW (fun _ _ _ => rfl) Ag.rfl (hH (a := (0 : PS R)) rfl))).trans (L.zero_left a.2.1)))
 nad a := rR (((fW (fun _ _ _ => rfl) (hH (W3 N f a.1)) Ag.rfl).trans (L.comm (W3 N f a.1) a.2.1)).trans (L.op a.2.1))
section
variable {f : PS (PS R)} {N : Nat} (L : LwN f N)
theorem LwN.ad_cv {a b : PS R} (ha : a.c 0 = 0) (hb : b.c 0 = 0) : L.G.ad (cv N a) (cv N b) = cv N (evT N f a b) := rR (fW (fun _ _ _ => rfl) (hH ha) (hH hb))
theorem LwN.ng_cv {a : PS R} (ha : a.c 0 = 0) : L.G.ng (cv N a) = cv N (rP N f a) := rR (iX Ag.rfl (hH ha))
end
end PS
end Go.Fg
