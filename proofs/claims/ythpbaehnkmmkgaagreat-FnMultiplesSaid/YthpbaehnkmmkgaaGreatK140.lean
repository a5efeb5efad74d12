/- Multiples under a law, without a program: the group of curves. -/
import Derived.Test.YthpbaehnkmmkgaaGreatK139
namespace Go.Proofs
open Go Go.Vm Go.Fg Go.Fg.PS
set_option maxRecDepth 100000
set_option linter.unusedSimpArgs false
set_option linter.unusedVariables false
set_option linter.unusedSectionVars false
variable {m : Int}
theorem lwN_of {f : PS (PS (Zm m))} {n : Nat} (hn : 2 ≤ n) (L : LawP f n) : LwN f n :=
  ⟨hn, by rw [L.1 0 (by omega)]; exact if_neg (by omega), by rw [L.1 1 (by omega)]; exact if_pos rfl, fun i hi hne => by rw [L.1 i hi]; exact if_neg hne, L.2.1, fun p q k h => L.2.2 p q k h⟩
theorem evT_1 {f : PS (PS (Zm m))} {n : Nat} (L : LwN f n) {a b : PS (Zm m)} (ha : a.c 0 = 0) (hb : b.c 0 = 0) : (evT n f a b).c 1 = a.c 1 + b.c 1 := by
  have hn := L.pos
  have h01 : (f.c 0).c 1 = 1 := by rw [L.sym 0 1 (by omega), L.z1]
  rw [evT_le hn f ha hb 1 (by omega)]
  unfold evT
  rw [sm_succ, sm_succ, sm_zero', CR.zero_add, show 2 - 0 = 0 + 1 + 1 from rfl, show 2 - (0 + 1) = 0 + 1 from rfl, sm_succ, sm_succ, sm_succ, sm_zero', CR.zero_add, sm_zero', CR.zero_add, pw_zero, pw_zero, pw_one, pw_one, L.z0, L.z1, show (f.c 0).c (0 + 1) = 1 from h01, C_zero, Go.Fg.zero_mul, CR.zero_add]
  rw [add_c, C_mul, C_mul, CR.one_mul, CR.one_mul, CR.one_mul, Go.Fg.mul_one, CR.add_comm]
section
variable {f : PS (PS (Zm m))} {n : Nat} (hL : LwN f n)
include hL
theorem mul_nm {k : Nat} {out a r : PS (Zm m)} (h : Mul f n k out a r) (ho : out.c 0 = 0) (ha : a.c 0 = 0) : cv n r = hL.G.ad (cv n out) (hL.G.nm k (cv n a)) ∧ r.c 0 = 0 := by
  induction h with
  | zero out a => exact ⟨(hL.G.adz _).symm, ho⟩
  | odd k out a r hk h ih =>
    obtain ⟨h1, h2⟩ := ih (putS_0 hL.z0 ho ha) (putS_0 hL.z0 ha ha)
    refine ⟨?_, h2⟩
    rw [h1, putS_ev, putS_ev, ← hL.ad_cv ho ha, ← hL.ad_cv ha ha, hL.G.nm_ad, ← hL.G.nm_add, hL.G.assoc, hL.G.comm (cv n a)]
    have e : hL.G.nm k (cv n a) = hL.G.ad (hL.G.nm (k / 2 + k / 2) (cv n a)) (cv n a) := by
      conv => lhs; rw [show k = (k / 2 + k / 2) + 1 by omega]
      rfl
    rw [e]
  | even k out a r hk hk2 h ih =>
    obtain ⟨h1, h2⟩ := ih ho (putS_0 hL.z0 ha ha)
    refine ⟨?_, h2⟩
    rw [h1, putS_ev, ← hL.ad_cv ha ha, hL.G.nm_ad, ← hL.G.nm_add, show k / 2 + k / 2 = k by omega]
theorem op_ag {s : PS (Zm m)} (hs : s.c 0 = 0) : Ag n (compN (ivS n f) s 0 n) (opS n f s) := compN_ag hs n
theorem op_c0 {s : PS (Zm m)} (hs : s.c 0 = 0) : (compN (ivS n f) s 0 n).c 0 = 0 := by
  have := hL.pos
  rw [op_ag hL hs 0 (by omega), opS_0]
theorem mulZ_zm {k : Int} {a r : PS (Zm m)} (h : MulZ f n k a r) (ha : a.c 0 = 0) : cv n r = hL.G.zm k (cv n a) ∧ r.c 0 = 0 := by
  unfold MulZ at h
  by_cases h0 : 0 ≤ k
  · rw [if_pos h0] at h
    obtain ⟨h1, h2⟩ := mul_nm hL h rfl ha
    refine ⟨?_, h2⟩
    have e : hL.G.zm k (cv n a) = hL.G.nm k.toNat (cv n a) := by
      conv => lhs; rw [show k = (k.toNat : Int) by omega]
      rfl
    rw [h1, e]; exact hL.G.zad _
  · rw [if_neg h0] at h
    obtain ⟨s, hs, rfl⟩ := h
    obtain ⟨h1, h2⟩ := mul_nm hL hs rfl ha
    refine ⟨?_, op_c0 hL h2⟩
    have e : hL.G.zm k (cv n a) = hL.G.ng (hL.G.nm (-k).toNat (cv n a)) := by
      conv => lhs; rw [show k = -((-k).toNat : Int) by omega]
      exact hL.G.zm_neg_nat _ _
    rw [cv_of (op_ag hL h2), ← hL.ng_cv h2, h1, e]
    exact congrArg hL.G.ng (hL.G.zad _)
theorem ad_c1 (a b : Cv (Zm m) n) : (hL.G.ad a b).1.c 1 = a.1.c 1 + b.1.c 1 := by
  have hn := hL.pos
  rw [show (hL.G.ad a b).1.c 1 = (evT n f a.1 b.1).c 1 from cv_ag (hL.e0 a.2.1 b.2.1) 1 (by omega), evT_1 hL a.2.1 b.2.1]
theorem z_c1 : hL.G.z.1.c 1 = 0 := by
  have hn := hL.pos
  exact cv_ag (a := (0 : PS (Zm m))) rfl 1 (by omega)
theorem nm_c1 : ∀ (k : Nat) (a : Cv (Zm m) n), (hL.G.nm k a).1.c 1 = Zm.mk m k * a.1.c 1
  | 0, a => by rw [show Zm.mk m ((0 : Nat) : Int) = 0 from rfl, Go.Fg.zero_mul]; exact z_c1 hL
  | k + 1, a => by
    show (hL.G.ad _ _).1.c 1 = _
    rw [ad_c1, nm_c1 k, show ((k + 1 : Nat) : Int) = (k : Int) + 1 by omega, Zm.mk_add, Go.Fg.add_mul, Zm.mk_one, CR.one_mul]
theorem ng_c1 (a : Cv (Zm m) n) : (hL.G.ng a).1.c 1 = -(a.1.c 1) := by
  have h := congrArg (fun x : Cv (Zm m) n => x.1.c 1) (hL.G.adn a)
  simp only [ad_c1, z_c1] at h
  exact Go.Fg.neg_unique h
theorem zm_c1 (k : Int) (a : Cv (Zm m) n) : (hL.G.zm k a).1.c 1 = Zm.mk m k * a.1.c 1 := by
  obtain ⟨x, y, rfl⟩ := AG.int_nn k
  rw [hL.G.zm_sub, ad_c1, ng_c1, nm_c1, nm_c1, Zm.mk_sub, Go.Fg.sub_def, Go.Fg.add_mul, Go.Fg.neg_mul]
theorem mulZ_1 {k : Int} {r : PS (Zm m)} (h : MulZ f n k PS.X r) : r.c 0 = 0 ∧ r.c 1 = Zm.mk m k := by
  have hn := hL.pos
  obtain ⟨h1, h2⟩ := mulZ_zm hL h X_0
  refine ⟨h2, ?_⟩
  have h3 := congrArg (fun x : Cv (Zm m) n => x.1.c 1) h1
  simp only [zm_c1] at h3
  rw [cv_ag h2 1 (by omega), cv_ag X_0 1 (by omega)] at h3
  rw [h3, X_c, if_pos rfl, Go.Fg.mul_one]
theorem mulZ_sum {x y : Int} {p q b : PS (Zm m)} (hp : MulZ f n x PS.X p) (hq : MulZ f n y PS.X q) (hb : MulZ f n (x + y) PS.X b) : L n b = L n (putS f p q n) := by
  obtain ⟨p1, p2⟩ := mulZ_zm hL hp X_0
  obtain ⟨q1, q2⟩ := mulZ_zm hL hq X_0
  obtain ⟨b1, b2⟩ := mulZ_zm hL hb X_0
  refine L_congr ((cv_eq b2 (putS_0 hL.z0 p2 q2)).1 ?_)
  rw [b1, hL.G.zm_add, ← p1, ← q1, hL.ad_cv p2 q2, putS_ev]
theorem mulZ_mul {x y : Int} {q b r : PS (Zm m)} (hq : MulZ f n y PS.X q) (hb : MulZ f n (x * y) PS.X b) (hr : MulZ f n x q r) : L n b = L n r := by
  obtain ⟨q1, q2⟩ := mulZ_zm hL hq X_0
  obtain ⟨b1, b2⟩ := mulZ_zm hL hb X_0
  obtain ⟨r1, r2⟩ := mulZ_zm hL hr q2
  refine L_congr ((cv_eq b2 r2).1 ?_)
  rw [b1, r1, q1, hL.G.zm_mul]
theorem op_sum {a : PS (Zm m)} (ha : a.c 0 = 0) : L n (putS f a (compN (ivS n f) a 0 n) n) = L n (0 : PS (Zm m)) := by
  refine L_congr ?_
  rw [putS_ev]
  exact (evT_congr (fun _ _ _ => rfl) Ag.rfl (op_ag hL ha)).trans (hL.op ha)
end
end Go.Proofs

