import Derived.Test.YtndhpcigpghejaaGreatAlg11
set_option linter.unusedVariables false
set_option linter.unusedSimpArgs false
set_option linter.unusedSectionVars false
namespace Go.Fg
open CR
structure AG (A : Type) where
 z : A
 ad : A → A → A
 ng : A → A
 assoc : ∀ a b c, ad (ad a b) c = ad a (ad b c)
 comm : ∀ a b, ad a b = ad b a
 zad : ∀ a, ad z a = a
 nad : ∀ a, ad (ng a) a = z
namespace AG
variable {A : Type} (G : AG A)
theorem adz (a : A) : G.ad a G.z = a := by rw [G.comm, G.zad]
theorem swp (a b c d : A) : G.ad (G.ad a b) (G.ad c d) = G.ad (G.ad a c) (G.ad b d) := by
 rw [G.assoc, G.assoc, ← G.assoc b, G.comm b c, G.assoc]
def nm : Nat → A → A
 | 0, _ => G.z
 | n + 1, a => G.ad (nm n a) a
theorem nm_add : ∀ (n k : Nat) (a : A), G.nm (n + k) a = G.ad (G.nm n a) (G.nm k a)
 | n, 0, a => (G.adz _).symm
 | n, k + 1, a => by show G.ad (G.nm (n + k) a) a = G.ad _ (G.ad (G.nm k a) a); rw [nm_add n k, G.assoc]
theorem nm_ad : ∀ (n : Nat) (a b : A), G.nm n (G.ad a b) = G.ad (G.nm n a) (G.nm n b)
 | 0, a, b => (G.zad _).symm
 | n + 1, a, b => by show G.ad (G.nm n _) _ = G.ad (G.ad _ _) (G.ad _ _); rw [nm_ad n, G.swp]
end AG
namespace PS
variable {R : Type} [CR R]
theorem comp_E {N : Nat} (a : PS R) {c : PS R} (hc : c.c 0 = 0) : Ag N (comp a c) (E N (axX a) c) := by
 refine (compN_ag hc N).symm.trans (Ag.of_eq ?_)
 unfold compN E
 exact sm_congr (fun i _ => by rw [Nat.zero_add]; rfl)
theorem comp_mul (N : Nat) (a b : PS R) {c : PS R} (hc : c.c 0 = 0) : Ag N (comp (a * b) c) (comp a c * comp b c) := by
 refine (comp_E _ hc).trans ?_
 rw [axX_mul]
 exact (E_mul _ _ hc).trans ((comp_E a hc).symm.mul (comp_E b hc).symm)
theorem comp_pw {N : Nat} (hN : 1 ≤ N) (a : PS R) {c : PS R} (hc : c.c 0 = 0) : ∀ k, Ag N (comp (Go.Fg.pw a k) c) (Go.Fg.pw (comp a c) k)
 | 0 => (comp_E _ hc).trans (by rw [pw_zero, axX_one, E_one hN]; exact Ag.rfl)
 | k + 1 => (comp_mul N _ a hc).trans ((comp_pw hN a hc k).mul Ag.rfl)
theorem comp_C {N : Nat} (hN : 1 ≤ N) (r : R) {c : PS R} (hc : c.c 0 = 0) : Ag N (comp (C r) c) (C r) := by
 refine (comp_E _ hc).trans (Ag.of_eq ?_)
 unfold E
 rw [sm_one 0 (by omega) (fun i _ hne => by show C ((C r).c i) * _ = 0; rw [C_c, if_neg hne, C_zero, Go.Fg.zero_mul])]
 show C ((C r).c 0) * _ = _
 rw [C_c, if_pos rfl, pw_zero, Go.Fg.mul_one]
theorem comp_sm (N k : Nat) (u : Nat → PS R) {c : PS R} (hc : c.c 0 = 0) : Ag N (comp (Go.Fg.sm k u) c) (Go.Fg.sm k fun i => comp (u i) c) := by
 refine (comp_E _ hc).trans ?_
 rw [axX_sm, E_sm]
 exact Ag.sm (fun i _ => (comp_E (u i) hc).symm)
theorem comp_0 (a c : PS R) : (comp a c).c 0 = a.c 0 := by
 show (compN a c 0 1).c 0 = _
 unfold compN
 rw [sm_succ, sm_zero', CR.zero_add, pw_zero, Go.Fg.mul_one, C_c, if_pos rfl]
theorem evT_comp {N : Nat} (hN : 1 ≤ N) (f : PS (PS R)) (a b : PS R) {c : PS R} (hc : c.c 0 = 0) : Ag N (comp (evT N f a b) c) (evT N f (comp a c) (comp b c)) := by
 refine (comp_sm N N _ hc).trans (Ag.sm (fun i hi => (comp_sm N _ _ hc).trans (Ag.sm (fun j hj => ?_))))
 exact (comp_mul N _ _ hc).trans ((comp_C hN _ hc).mul ((comp_mul N _ _ hc).trans ((comp_pw hN a hc i).mul (comp_pw hN b hc j))))
theorem X_comp (N : Nat) {c : PS R} (hc : c.c 0 = 0) : Ag N (comp X c) c := by
 cases N with
 | zero => exact fun i hi => absurd hi (by omega)
 | succ N =>
   cases N with
   | zero => exact fun i hi => by rw [show i = 0 by omega, comp_0, hc]; rfl
   | succ N =>
     refine (comp_E _ hc).trans (Ag.of_eq ?_)
     unfold E
     rw [sm_one 1 (by omega) (fun i _ hne => by show C (X.c i) * _ = 0; rw [X_c, if_neg hne, C_zero, Go.Fg.zero_mul])]
     show C (X.c 1) * _ = _
     rw [X_c, if_pos rfl, pw_one]
     exact CR.one_mul c
theorem zero_comp (c : PS R) : comp 0 c = 0 := by
 ext n
 show (compN 0 c 0 (n + 1)).c n = 0
 unfold compN
 rw [sm_zero (fun i _ => by rw [zero_c, C_zero, Go.Fg.zero_mul])]
 rfl
structure LwN (f : PS (PS R)) (N : Nat) : Prop where
 pos : 2 ≤ N
 z0 : (f.c 0).c 0 = 0
 z1 : (f.c 1).c 0 = 1
 zz : ∀ i, i < N → i ≠ 1 → (f.c i).c 0 = 0
 sym : ∀ i j, i + j < N → (f.c i).c j = (f.c j).c i
 as : ∀ p q k, p + q + k < N → Go.Fg.sm (N - k) (fun i => (f.c i).c k * ((Go.Fg.pw f i).c p).c q) = Go.Fg.sm (N - p) (fun j => (f.c p).c j * ((Go.Fg.pw f j).c q).c k)
theorem evT_le {K N : Nat} (h : K ≤ N) (f : PS (PS R)) {a b : PS R} (ha : a.c 0 = 0) (hb : b.c 0 = 0) : Ag K (evT N f a b) (evT K f a b) :=
 (Ag.sm_drop h (fun i h1 h2 => (Ag.sm (g := fun _ => 0) (fun j hj => Ag.low2 ha hb (by omega) _)).trans (Ag.of_eq (sm_zero (fun _ _ => rfl))))).trans
   (Ag.sm (fun i hi => Ag.sm_drop (by omega) (fun j h1 h2 => Ag.low2 ha hb (by omega) _)))
section
variable {f : PS (PS R)} {N : Nat} (L : LwN f N)
include L
theorem LwN.zero_left {a : PS R} (ha : a.c 0 = 0) : Ag N (evT N f a 0) a := by
 have hN := L.pos
 unfold evT
 refine Ag.trans (b := Go.Fg.sm N fun i => if i = 1 then a else 0) (Ag.sm (fun i hi => ?_)) (Ag.of_eq ?_)
 · refine Ag.of_eq ?_
   rw [sm_one 0 (by omega) (fun j _ hne => by rw [zero_pw hne, Go.Fg.mul_zero, Go.Fg.mul_zero]), pw_zero, Go.Fg.mul_one]
   by_cases h : i = 1
   · rw [if_pos h, h, L.z1, pw_one]; exact CR.one_mul a
   · rw [if_neg h, L.zz i hi h, C_zero, Go.Fg.zero_mul]
 · rw [sm_one 1 (by omega) (fun i _ hne => if_neg hne), if_pos rfl]
theorem LwN.comm {a b : PS R} (ha : a.c 0 = 0) (hb : b.c 0 = 0) : Ag N (evT N f a b) (evT N f b a) := evT_comm f ha hb L.sym
theorem LwN.assoc {a b c : PS R} (ha : a.c 0 = 0) (hb : b.c 0 = 0) (hc : c.c 0 = 0) : Ag N (evT N f (evT N f a b) c) (evT N f a (evT N f b c)) := evT_assoc (by have := L.pos; omega) f L.z0 ha hb hc L.as
theorem LwN.e0 {a b : PS R} (ha : a.c 0 = 0) (hb : b.c 0 = 0) : (evT N f a b).c 0 = 0 := evT_0 L.z0 ha hb
end
def ivP (N : Nat) (f : PS (PS R)) : Nat → PS R
 | 0 => 0
 | k + 1 => (ivP N f k).upd (k + 1) (-(evT N f X (ivP N f k)).c (k + 1))
theorem ivP_high (N : Nat) (f : PS (PS R)) : ∀ k i, k < i → (ivP N f k).c i = 0
 | 0, i, h => rfl
 | k + 1, i, h => by show ((ivP N f k).upd _ _).c i = 0; rw [upd_c, if_neg (by omega), ivP_high N f k i (by omega)]
theorem ivP_0 (N : Nat) (f : PS (PS R)) : ∀ k, (ivP N f k).c 0 = 0
 | 0 => rfl
 | k + 1 => by show ((ivP N f k).upd _ _).c 0 = 0; rw [upd_c, if_neg (by omega), ivP_0 N f k]
theorem upd_mono {a : PS R} {k : Nat} (h : a.c k = 0) (v : R) : a.upd k v = a + mono k v := by
 ext i
 rw [upd_c, add_c, mono_c]
 by_cases e : i = k
 · rw [if_pos e, if_pos e, e, h, CR.zero_add]
 · rw [if_neg e, if_neg e, Go.Fg.add_zero]
theorem X_0 : (X : PS R).c 0 = 0 := rfl
theorem LwN.iv {f : PS (PS R)} {N : Nat} (L : LwN f N) : ∀ k, k < N → Ag (k + 1) (evT N f X (ivP N f k)) 0
 | 0, h => fun i hi => by rw [show i = 0 by omega]; exact L.e0 X_0 (ivP_0 N f 0)
 | k + 1, h => by
   have h0 := ivP_0 N f k
   have hh := ivP_high N f k (k + 1) (by omega)
   have ih := L.iv k (by omega)
   have e : ivP N f (k + 1) = ivP N f k + mono (k + 1) (-(evT N f X (ivP N f k)).c (k + 1)) := upd_mono hh _
   have h0' := ivP_0 N f (k + 1)
   have p1 : Ag (k + 2) (evT N f X (ivP N f (k + 1))) (evT N f X (ivP N f k) + mono (k + 1) (-(evT N f X (ivP N f k)).c (k + 1))) := by
     refine ((evT_le (by omega) f X_0 h0').trans (evT_comm f X_0 h0' (fun i j hij => L.sym i j (by omega)))).trans ?_
     rw [e]
     refine (evT_pert (by omega) f L.z1 h0 X_0 _).trans (Ag.add ?_ Ag.rfl)
     exact (evT_comm f h0 X_0 (fun i j hij => L.sym i j (by omega))).trans (evT_le (by omega) f X_0 h0).symm
   intro i hi
   rw [p1 i hi, add_c, mono_c]
   by_cases e2 : i = k + 1
   · rw [if_pos e2, e2, Go.Fg.add_neg]; rfl
   · rw [if_neg e2, ih i (by omega), zero_c, Go.Fg.add_zero]
def ivS (N : Nat) (f : PS (PS R)) : PS R := ivP N f (N - 1)
theorem ivS_0 (N : Nat) (f : PS (PS R)) : (ivS N f).c 0 = 0 := ivP_0 N f _
theorem LwN.iv_X {f : PS (PS R)} {N : Nat} (L : LwN f N) : Ag N (evT N f X (ivS N f)) 0 := by
 have := L.pos
 have h := L.iv (N - 1) (by omega)
 rwa [show N - 1 + 1 = N by omega] at h
def opS (N : Nat) (f : PS (PS R)) (a : PS R) : PS R := comp (ivS N f) a
theorem opS_0 (N : Nat) (f : PS (PS R)) (a : PS R) : (opS N f a).c 0 = 0 := by unfold opS; rw [comp_0, ivS_0]
theorem LwN.op {f : PS (PS R)} {N : Nat} (L : LwN f N) {a : PS R} (ha : a.c 0 = 0) : Ag N (evT N f a (opS N f a)) 0 := by
 have hN := L.pos
 refine (evT_congr (fun i j _ => rfl) (X_comp N ha).symm Ag.rfl).trans ?_
 refine (evT_comp (by omega) f X (ivS N f) ha).symm.trans ?_
 refine (comp_congr L.iv_X Ag.rfl).trans (Ag.of_eq (zero_comp a))
def Cv (R : Type) [CR R] (N : Nat) : Type := {a : PS R // a.c 0 = 0 ∧ ∀ i, N ≤ i → a.c i = 0}
def cv (N : Nat) (a : PS R) : Cv R N := ⟨⟨fun i => if i = 0 then 0 else if i < N then a.c i else 0⟩, rfl, fun i hi => by
 show (if i = 0 then 0 else if i < N then a.c i else 0) = 0
 split
 · rfl
 · rw [if_neg (by omega)]⟩
theorem cv_ag {N : Nat} {a : PS R} (h : a.c 0 = 0) : Ag N (cv N a).1 a := fun i hi => by
 show (if i = 0 then 0 else if i < N then a.c i else 0) = _
 split
 · rename_i e; rw [e, h]
 · first | rfl | rw [if_pos hi]
theorem cv_ext {N : Nat} {a b : Cv R N} (h : Ag N a.1 b.1) : a = b := Subtype.ext (PS.ext (fun i => by
 rcases Nat.lt_or_ge i N with h1 | h1
 · exact h i h1
 · rw [a.2.2 i h1, b.2.2 i h1]))
theorem cv_of {N : Nat} {a b : PS R} (h : Ag N a b) : cv N a = cv N b := cv_ext (fun i hi => by
 show (if i = 0 then 0 else if i < N then a.c i else 0) = (if i = 0 then 0 else if i < N then b.c i else 0)
 rw [h i hi])
theorem cv_eq {N : Nat} {a b : PS R} (ha : a.c 0 = 0) (hb : b.c 0 = 0) : cv N a = cv N b ↔ Ag N a b :=
 ⟨fun h => ((cv_ag ha).symm.trans (Ag.of_eq (congrArg Subtype.val h))).trans (cv_ag hb), cv_of⟩
def LwN.G {f : PS (PS R)} {N : Nat} (L : LwN f N) : AG (Cv R N) where
 z := cv N 0
 ad a b := cv N (evT N f a.1 b.1)
 ng a := cv N (opS N f a.1)
 assoc a b c := cv_of (((evT_congr (fun _ _ _ => rfl) (cv_ag (L.e0 a.2.1 b.2.1)) Ag.rfl).trans (L.assoc a.2.1 b.2.1 c.2.1)).trans (evT_congr (fun _ _ _ => rfl) Ag.rfl (cv_ag (L.e0 b.2.1 c.2.1))).symm)
 comm a b := cv_of (L.comm a.2.1 b.2.1)
 zad a := cv_ext ((cv_ag (L.e0 (cv N 0).2.1 a.2.1)).trans (((L.comm (cv N 0).2.1 a.2.1).trans (evT_congr (fun _ _ _ => rfl) Ag.rfl (cv_ag (a := (0 : PS R)) rfl))).trans (L.zero_left a.2.1)))
 nad a := cv_of (((evT_congr (fun _ _ _ => rfl) (cv_ag (opS_0 N f a.1)) Ag.rfl).trans (L.comm (opS_0 N f a.1) a.2.1)).trans (L.op a.2.1))
section
variable {f : PS (PS R)} {N : Nat} (L : LwN f N)
theorem LwN.ad_cv {a b : PS R} (ha : a.c 0 = 0) (hb : b.c 0 = 0) : L.G.ad (cv N a) (cv N b) = cv N (evT N f a b) := cv_of (evT_congr (fun _ _ _ => rfl) (cv_ag ha) (cv_ag hb))
def sbC (N : Nat) (c : PS R) (a : Cv R N) : Cv R N := cv N (comp a.1 c)
theorem sb_0 {c : PS R} {a : PS R} (ha : a.c 0 = 0) : (comp a c).c 0 = 0 := by rw [comp_0, ha]
theorem sb_cv {c : PS R} {a : PS R} (ha : a.c 0 = 0) : sbC N c (cv N a) = cv N (comp a c) := cv_of (comp_congr (cv_ag ha) Ag.rfl)
theorem LwN.sb_ad {c : PS R} (hc : c.c 0 = 0) (a b : Cv R N) : sbC N c (L.G.ad a b) = L.G.ad (sbC N c a) (sbC N c b) := by
 have := L.pos
 exact cv_of (((comp_congr (cv_ag (L.e0 a.2.1 b.2.1)) Ag.rfl).trans (evT_comp (by omega) f a.1 b.1 hc)).trans (evT_congr (fun _ _ _ => rfl) (cv_ag (sb_0 a.2.1)).symm (cv_ag (sb_0 b.2.1)).symm))
theorem LwN.sb_z (c : PS R) : sbC N c L.G.z = L.G.z := cv_of ((comp_congr (cv_ag (a := (0 : PS R)) rfl) Ag.rfl).trans (Ag.of_eq (zero_comp c)))
theorem LwN.sb_nm {c : PS R} (hc : c.c 0 = 0) : ∀ (n : Nat) (a : Cv R N), sbC N c (L.G.nm n a) = L.G.nm n (sbC N c a)
 | 0, a => L.sb_z c
 | n + 1, a => by show sbC N c (L.G.ad _ _) = L.G.ad _ _; rw [L.sb_ad hc, LwN.sb_nm hc n]
theorem sb_X {c : PS R} (hc : c.c 0 = 0) : sbC N c (cv N X) = cv N c := by rw [sb_cv X_0]; exact cv_of (X_comp N hc)
end
end PS
end Go.Fg
