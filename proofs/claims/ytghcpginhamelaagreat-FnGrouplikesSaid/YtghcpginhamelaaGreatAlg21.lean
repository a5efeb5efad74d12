import Derived.Test.YtghcpginhamelaaGreatAlg11
set_option linter.unusedVariables false
set_option linter.unusedSimpArgs false
set_option linter.unusedSectionVars false
namespace Go.Fg
open CR
structure AG (A : Type) where
 z : A
 ad : A → A → A
 ng : A → A
 assoc : ∀ a b c, ad (ad a b) c = ad a (ad b c)
 comm : ∀ a b, ad a b = ad b a
 zad : ∀ a, ad z a = a
 nad : ∀ a, ad (ng a) a = z
namespace AG
variable {A : Type} (G : AG A)
theorem adz (a : A) : G.ad a G.z = a := by rw [G.comm, G.zad]
theorem cancel {a b c : A} (h : G.ad a b = G.ad a c) : b = c := by
 rw [← G.zad b, ← G.zad c, ← G.nad a, G.assoc, G.assoc, h]
theorem swp (a b c d : A) : G.ad (G.ad a b) (G.ad c d) = G.ad (G.ad a c) (G.ad b d) := by
 rw [G.assoc, G.assoc, ← G.assoc b, G.comm b c, G.assoc]
def nm : Nat → A → A
 | 0, _ => G.z
 | n + 1, a => G.ad (nm n a) a
theorem nm_one (a : A) : G.nm 1 a = a := G.zad a
theorem nm_add : ∀ (n k : Nat) (a : A), G.nm (n + k) a = G.ad (G.nm n a) (G.nm k a)
 | n, 0, a => (G.adz _).symm
 | n, k + 1, a => by show G.ad (G.nm (n + k) a) a = G.ad _ (G.ad (G.nm k a) a); rw [nm_add n k, G.assoc]
theorem nm_ad : ∀ (n : Nat) (a b : A), G.nm n (G.ad a b) = G.ad (G.nm n a) (G.nm n b)
 | 0, a, b => (G.zad _).symm
 | n + 1, a, b => by show G.ad (G.nm n _) _ = G.ad (G.ad _ _) (G.ad _ _); rw [nm_ad n, G.swp]
theorem nm_mul : ∀ (n k : Nat) (a : A), G.nm (n * k) a = G.nm n (G.nm k a)
 | 0, k, a => by rw [Nat.zero_mul]; rfl
 | n + 1, k, a => by rw [Nat.add_mul, Nat.one_mul, nm_add, nm_mul n k]; rfl
end AG
namespace PS
variable {R : Type} [CR R]
theorem pC {N : Nat} (a : PS R) {c : PS R} (hc : c.c 0 = 0) : Ag N (dG a c) (E N (dA a) c) := by
 refine (Z0 hc N).symm.trans (Ag.of_eq ?_)
 unfold fR E
 exact bS (fun i _ => by rw [Nat.zero_add]; rfl)
theorem M3 (N : Nat) (a b : PS R) {c : PS R} (hc : c.c 0 = 0) : Ag N (dG (a * b) c) (dG a c * dG b c) := by
 refine (pC _ hc).trans ?_
 rw [vL]
 exact (D5 _ _ hc).trans ((pC a hc).symm.mul (pC b hc).symm)
theorem Q6 {N : Nat} (hN : 1 ≤ N) (a : PS R) {c : PS R} (hc : c.c 0 = 0) : ∀ k, Ag N (dG (Go.Fg.pw a k) c) (Go.Fg.pw (dG a c) k)
 | 0 => (pC _ hc).trans (by rw [pw_zero, xW, O1 hN]; exact Ag.rfl)
 | k + 1 => (M3 N _ a hc).trans ((Q6 hN a hc k).mul Ag.rfl)
theorem Apq {N : Nat} (hN : 1 ≤ N) (r : R) {c : PS R} (hc : c.c 0 = 0) : Ag N (dG (C r) c) (C r) := by
 refine (pC _ hc).trans (Ag.of_eq ?_)
 unfold E
 rw [eQ 0 (by omega) (fun i _ hne => by show C ((C r).c i) * _ = 0; rw [dN, if_neg hne, C_zero, Go.Fg.zero_mul])]
 show C ((C r).c 0) * _ = _
 rw [dN, if_pos rfl, pw_zero, Go.Fg.mul_one]
theorem V8 (N k : Nat) (u : Nat → PS R) {c : PS R} (hc : c.c 0 = 0) : Ag N (dG (Go.Fg.sm k u) c) (Go.Fg.sm k fun i => dG (u i) c) := by
 refine (pC _ hc).trans ?_
 rw [K2, X9]
 exact Ag.sm (fun i _ => (pC (u i) hc).symm)
theorem M9 (a c : PS R) : (dG a c).c 0 = a.c 0 := by
 show (fR a c 0 1).c 0 = _
 unfold fR
 rw [cB, jJ, CR.zero_add, pw_zero, Go.Fg.mul_one, dN, if_pos rfl]
theorem Abo {N : Nat} (hN : 1 ≤ N) (f : PS (PS R)) (a b : PS R) {c : PS R} (hc : c.c 0 = 0) : Ag N (dG (bG N f a b) c) (bG N f (dG a c) (dG b c)) := by
 refine (V8 N N _ hc).trans (Ag.sm (fun i hi => (V8 N _ _ hc).trans (Ag.sm (fun j hj => ?_))))
 exact (M3 N _ _ hc).trans ((Apq hN _ hc).mul ((M3 N _ _ hc).trans ((Q6 hN a hc i).mul (Q6 hN b hc j))))
theorem W7 (N : Nat) {c : PS R} (hc : c.c 0 = 0) : Ag N (dG X c) c := by
 cases N with
 | zero => exact fun i hi => absurd hi (by omega)
 | succ N =>
   cases N with
   | zero => exact fun i hi => by rw [show i = 0 by omega, M9, hc]; rfl
   | succ N =>
     refine (pC _ hc).trans (Ag.of_eq ?_)
     unfold E
     rw [eQ 1 (by omega) (fun i _ hne => by show C (X.c i) * _ = 0; rw [qN, if_neg hne, C_zero, Go.Fg.zero_mul])]
     show C (X.c 1) * _ = _
     rw [qN, if_pos rfl, pw_one]
     exact CR.one_mul c
theorem Aa2 (c : PS R) : dG 0 c = 0 := by
 ext n
 show (fR 0 c 0 (n + 1)).c n = 0
 unfold fR
 rw [dH (fun i _ => by rw [lT, C_zero, Go.Fg.zero_mul])]
 rfl
structure LwN (f : PS (PS R)) (N : Nat) : Prop where
 pos : 2 ≤ N
 z0 : (f.c 0).c 0 = 0
 z1 : (f.c 1).c 0 = 1
 zz : ∀ i, i < N → i ≠ 1 → (f.c i).c 0 = 0
 sym : ∀ i j, i + j < N → (f.c i).c j = (f.c j).c i
 as : ∀ p q k, p + q + k < N → Go.Fg.sm (N - k) (fun i => (f.c i).c k * ((Go.Fg.pw f i).c p).c q) = Go.Fg.sm (N - p) (fun j => (f.c p).c j * ((Go.Fg.pw f j).c q).c k)
theorem zQ {K N : Nat} (h : K ≤ N) (f : PS (PS R)) {a b : PS R} (ha : a.c 0 = 0) (hb : b.c 0 = 0) : Ag K (bG N f a b) (bG K f a b) :=
 (Ag.sm_drop h (fun i h1 h2 => (Ag.sm (g := fun _ => 0) (fun j hj => Ag.low2 ha hb (by omega) _)).trans (Ag.of_eq (dH (fun _ _ => rfl))))).trans
   (Ag.sm (fun i hi => Ag.sm_drop (by omega) (fun j h1 h2 => Ag.low2 ha hb (by omega) _)))
section
variable {f : PS (PS R)} {N : Nat} (L : LwN f N)
include L
theorem LwN.zero_left {a : PS R} (ha : a.c 0 = 0) : Ag N (bG N f a 0) a := by
 have hN := L.pos
 unfold bG
 refine Ag.trans (b := Go.Fg.sm N fun i => if i = 1 then a else 0) (Ag.sm (fun i hi => ?_)) (Ag.of_eq ?_)
 · refine Ag.of_eq ?_
   rw [eQ 0 (by omega) (fun j _ hne => by rw [Aaz hne, Go.Fg.mul_zero, Go.Fg.mul_zero]), pw_zero, Go.Fg.mul_one]
   by_cases h : i = 1
   · rw [if_pos h, h, L.z1, pw_one]; exact CR.one_mul a
   · rw [if_neg h, L.zz i hi h, C_zero, Go.Fg.zero_mul]
 · rw [eQ 1 (by omega) (fun i _ hne => if_neg hne), if_pos rfl]
theorem LwN.comm {a b : PS R} (ha : a.c 0 = 0) (hb : b.c 0 = 0) : Ag N (bG N f a b) (bG N f b a) := qU f ha hb L.sym
theorem LwN.assoc {a b c : PS R} (ha : a.c 0 = 0) (hb : b.c 0 = 0) (hc : c.c 0 = 0) : Ag N (bG N f (bG N f a b) c) (bG N f a (bG N f b c)) := Amn (by have := L.pos; omega) f L.z0 ha hb hc L.as
theorem LwN.e0 {a b : PS R} (ha : a.c 0 = 0) (hb : b.c 0 = 0) : (bG N f a b).c 0 = 0 := pF L.z0 ha hb
end
def fO (N : Nat) (f : PS (PS R)) : Nat → PS R
 | 0 => 0
 | k + 1 => (fO N f k).upd (k + 1) (-(bG N f X (fO N f k)).c (k + 1))
theorem Ad3 (N : Nat) (f : PS (PS R)) : ∀ k i, k < i → (fO N f k).c i = 0
 | 0, i, h => rfl
 | k + 1, i, h => by show ((fO N f k).upd _ _).c i = 0; rw [cL, if_neg (by omega), Ad3 N f k i (by omega)]
theorem vR (N : Nat) (f : PS (PS R)) : ∀ k, (fO N f k).c 0 = 0
 | 0 => rfl
 | k + 1 => by show ((fO N f k).upd _ _).c 0 = 0; rw [cL, if_neg (by omega), vR N f k]
theorem Ai8 {a : PS R} {k : Nat} (h : a.c k = 0) (v : R) : a.upd k v = a + mono k v := by
 ext i
 rw [cL, add_c, cK]
 by_cases e : i = k
 · rw [if_pos e, if_pos e, e, h, CR.zero_add]
 · rw [if_neg e, if_neg e, Go.Fg.add_zero]
theorem pZ : (X : PS R).c 0 = 0 := rfl
theorem LwN.iv {f : PS (PS R)} {N : Nat} (L : LwN f N) : ∀ k, k < N → Ag (k + 1) (bG N f X (fO N f k)) 0
 | 0, h => fun i hi => by rw [show i = 0 by omega]; exact L.e0 pZ (vR N f 0)
 | k + 1, h => by
   have h0 := vR N f k
   have hh := Ad3 N f k (k + 1) (by omega)
   have ih := L.iv k (by omega)
   have e : fO N f (k + 1) = fO N f k + mono (k + 1) (-(bG N f X (fO N f k)).c (k + 1)) := Ai8 hh _
   have h0' := vR N f (k + 1)
   have p1 : Ag (k + 2) (bG N f X (fO N f (k + 1))) (bG N f X (fO N f k) + mono (k + 1) (-(bG N f X (fO N f k)).c (k + 1))) := by
     refine ((zQ (by omega) f pZ h0').trans (qU f pZ h0' (fun i j hij => L.sym i j (by omega)))).trans ?_
     rw [e]
     refine (B4 (by omega) f L.z1 h0 pZ _).trans (Ag.add ?_ Ag.rfl)
     exact (qU f h0 pZ (fun i j hij => L.sym i j (by omega))).trans (zQ (by omega) f pZ h0).symm
   intro i hi
   rw [p1 i hi, add_c, cK]
   by_cases e2 : i = k + 1
   · rw [if_pos e2, e2, Go.Fg.add_neg]; rfl
   · rw [if_neg e2, ih i (by omega), lT, Go.Fg.add_zero]
def kF (N : Nat) (f : PS (PS R)) : PS R := fO N f (N - 1)
theorem Aoh (N : Nat) (f : PS (PS R)) : (kF N f).c 0 = 0 := vR N f _
theorem LwN.iv_X {f : PS (PS R)} {N : Nat} (L : LwN f N) : Ag N (bG N f X (kF N f)) 0 := by
 have := L.pos
 have h := L.iv (N - 1) (by omega)
 rwa [show N - 1 + 1 = N by omega] at h
def C1 (N : Nat) (f : PS (PS R)) (a : PS R) : PS R := dG (kF N f) a
theorem Ac8 (N : Nat) (f : PS (PS R)) (a : PS R) : (C1 N f a).c 0 = 0 := by unfold C1; rw [M9, Aoh]
theorem LwN.op {f : PS (PS R)} {N : Nat} (L : LwN f N) {a : PS R} (ha : a.c 0 = 0) : Ag N (bG N f a (C1 N f a)) 0 := by
 have hN := L.pos
 refine (mO (fun i j _ => rfl) (W7 N ha).symm Ag.rfl).trans ?_
 refine (Abo (by omega) f X (kF N f) ha).symm.trans ?_
 refine (zU L.iv_X Ag.rfl).trans (Ag.of_eq (Aa2 a))
def Cv (R : Type) [CR R] (N : Nat) : Type := {a : PS R // a.c 0 = 0 ∧ ∀ i, N ≤ i → a.c i = 0}
def cv (N : Nat) (a : PS R) : Cv R N := ⟨⟨fun i => if i = 0 then 0 else if i < N then a.c i else 0⟩, rfl, fun i hi => by
 show (if i = 0 then 0 else if i < N then a.c i else 0) = 0
 split
 · rfl
 · rw [if_neg (by omega)]⟩
theorem fZ {N : Nat} {a : PS R} (h : a.c 0 = 0) : Ag N (cv N a).1 a := fun i hi => by
 show (if i = 0 then 0 else if i < N then a.c i else 0) = _
 split
 · rename_i e; rw [e, h]
 · first | rfl | rw [if_pos hi]
theorem R4 {N : Nat} {a b : Cv R N} (h : Ag N a.1 b.1) : a = b := Subtype.ext (PS.ext (fun i => by
 rcases Nat.lt_or_ge i N with h1 | h1
 · exact h i h1
 · rw [a.2.2 i h1, b.2.2 i h1]))
theorem jU {N : Nat} {a b : PS R} (h : Ag N a b) : cv N a = cv N b := R4 (fun i hi => by
 show (if i = 0 then 0 else if i < N then a.c i else 0) = (if i = 0 then 0 else if i < N then b.c i else 0)
 rw [h i hi])
theorem Art {N : Nat} {a b : PS R} (ha : a.c 0 = 0) (hb : b.c 0 = 0) : cv N a = cv N b ↔ Ag N a b :=
 ⟨fun h => ((fZ ha).symm.trans (Ag.of_eq (congrArg Subtype.val h))).trans (fZ hb), jU⟩
def LwN.G {f : PS (PS R)} {N : Nat} (L : LwN f N) : AG (Cv R N) where
 z := cv N 0
 ad a b := cv N (bG N f a.1 b.1)
 ng a := cv N (C1 N f a.1)
 assoc a b c := jU (((mO (fun _ _ _ => rfl) (fZ (L.e0 a.2.1 b.2.1)) Ag.rfl).trans (L.assoc a.2.1 b.2.1 c.2.1)).trans (mO (fun _ _ _ => rfl) Ag.rfl (fZ (L.e0 b.2.1 c.2.1))).symm)
 comm a b := jU (L.comm a.2.1 b.2.1)
 zad a := R4 ((fZ (L.e0 (cv N 0).2.1 a.2.1)).trans (((L.comm (cv N 0).2.1 a.2.1).trans (mO (fun _ _ _ => rfl) Ag.rfl (fZ (a := (0 : PS R)) rfl))).trans (L.zero_left a.2.1)))
 nad a := jU (((mO (fun _ _ _ => rfl) (fZ (Ac8 N f a.1)) Ag.rfl).trans (L.comm (Ac8 N f a.1) a.2.1)).trans (L.op a.2.1))
section
variable {f : PS (PS R)} {N : Nat} (L : LwN f N)
theorem LwN.ad_cv {a b : PS R} (ha : a.c 0 = 0) (hb : b.c 0 = 0) : L.G.ad (cv N a) (cv N b) = cv N (bG N f a b) := jU (mO (fun _ _ _ => rfl) (fZ ha) (fZ hb))
def nG (N : Nat) (c : PS R) (a : Cv R N) : Cv R N := cv N (dG a.1 c)
theorem sO {c : PS R} {a : PS R} (ha : a.c 0 = 0) : (dG a c).c 0 = 0 := by rw [M9, ha]
theorem N1 {c : PS R} {a : PS R} (ha : a.c 0 = 0) : nG N c (cv N a) = cv N (dG a c) := jU (zU (fZ ha) Ag.rfl)
theorem LwN.sb_ad {c : PS R} (hc : c.c 0 = 0) (a b : Cv R N) : nG N c (L.G.ad a b) = L.G.ad (nG N c a) (nG N c b) := by
 have := L.pos
 exact jU (((zU (fZ (L.e0 a.2.1 b.2.1)) Ag.rfl).trans (Abo (by omega) f a.1 b.1 hc)).trans (mO (fun _ _ _ => rfl) (fZ (sO a.2.1)).symm (fZ (sO b.2.1)).symm))
theorem LwN.sb_z (c : PS R) : nG N c L.G.z = L.G.z := jU ((zU (fZ (a := (0 : PS R)) rfl) Ag.rfl).trans (Ag.of_eq (Aa2 c)))
theorem LwN.sb_nm {c : PS R} (hc : c.c 0 = 0) : ∀ (n : Nat) (a : Cv R N), nG N c (L.G.nm n a) = L.G.nm n (nG N c a)
 | 0, a => L.sb_z c
 | n + 1, a => by show nG N c (L.G.ad _ _) = L.G.ad _ _; rw [L.sb_ad hc, LwN.sb_nm hc n]
theorem Aa3 {c : PS R} (hc : c.c 0 = 0) : nG N c (cv N X) = cv N c := by rw [N1 pZ]; exact jU (W7 N hc)
end
end PS
end Go.Fg
