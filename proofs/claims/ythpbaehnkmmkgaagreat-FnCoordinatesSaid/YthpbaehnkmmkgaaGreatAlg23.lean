import Derived.Test.YthpbaehnkmmkgaaGreatAlg21
namespace Go.Fg
set_option linter.unusedVariables false
set_option linter.unusedSectionVars false
namespace PS
variable {R : Type} [CR R]
theorem mono_0 (k : Nat) (c : R) : (mono (k + 1) c : PS R).c 0 = 0 := rfl
def cuP (N : Nat) (f : PS (PS R)) (c : Nat → R) : Nat → PS R
 | 0 => 0
 | k + 1 => evT N f (cuP N f c k) (mono (k + 1) (c k))
theorem cuP_congr (N : Nat) (f : PS (PS R)) {c d : Nat → R} : ∀ {k : Nat}, (∀ i, i < k → c i = d i) → cuP N f c k = cuP N f d k
 | 0, _ => rfl
 | k + 1, h => by
   show evT N f (cuP N f c k) (mono (k + 1) (c k)) = evT N f (cuP N f d k) (mono (k + 1) (d k))
   rw [cuP_congr N f (fun i hi => h i (by omega)), h k (by omega)]
def cur (N : Nat) (f : PS (PS R)) (a : PS R) : Nat → PS R
 | 0 => 0
 | k + 1 => evT N f (cur N f a k) (mono (k + 1) (a.c (k + 1) - (cur N f a k).c (k + 1)))
def coo (N : Nat) (f : PS (PS R)) (a : PS R) (k : Nat) : R := a.c (k + 1) - (cur N f a k).c (k + 1)
theorem cuP_coo (N : Nat) (f : PS (PS R)) (a : PS R) : ∀ k, cuP N f (coo N f a) k = cur N f a k
 | 0 => rfl
 | k + 1 => by
   show evT N f (cuP N f (coo N f a) k) _ = evT N f (cur N f a k) _
   rw [cuP_coo N f a k]; rfl
section
variable {f : PS (PS R)} {N : Nat} (L : LwN f N)
include L
theorem LwN.lead {a b : PS R} (ha : a.c 0 = 0) (hb : b.c 0 = 0) {k : Nat} (hk : k + 1 < N) (h : ∀ i, i ≤ k → b.c i = 0) : Ag (k + 2) (evT N f a b) (a + b) := by
 have e : Ag (k + 2) b (0 + mono (k + 1) (b.c (k + 1))) := fun i hi => by
   rw [add_c, mono_c, zero_c, CR.zero_add]
   by_cases e : i = k + 1
   · rw [if_pos e, e]
   · rw [if_neg e, h i (by omega)]
 have hm : (0 + mono (k + 1) (b.c (k + 1)) : PS R).c 0 = 0 := by rw [← e 0 (by omega), hb]
 have s : ∀ i j, i + j < k + 2 → (f.c i).c j = (f.c j).c i := fun i j hij => L.sym i j (by omega)
 have hz : Ag (k + 2) (evT (k + 2) f a 0) a := (evT_le (by omega) f ha (b := 0) rfl).symm.trans ((L.zero_left ha).le (by omega))
 refine (evT_le (by omega) f ha hb).trans ?_
 refine (evT_congr (fun _ _ _ => rfl) Ag.rfl e).trans ?_
 refine (evT_comm f ha hm s).trans ?_
 refine (evT_pert (by omega) f L.z1 (a := 0) rfl ha _).trans ?_
 refine (Ag.add ((evT_comm f (a := 0) rfl ha s).trans hz) Ag.rfl).trans ?_
 refine Ag.add Ag.rfl (Ag.trans ?_ e.symm)
 exact Ag.of_eq (CR.zero_add _).symm
theorem LwN.cuP_0 (c : Nat → R) : ∀ k, (cuP N f c k).c 0 = 0
 | 0 => rfl
 | k + 1 => L.e0 (LwN.cuP_0 c k) (mono_0 k _)
theorem LwN.cur_0 (a : PS R) (k : Nat) : (cur N f a k).c 0 = 0 := by rw [← cuP_coo]; exact L.cuP_0 _ k
theorem LwN.cuP_low (c : Nat → R) {k : Nat} (hk : k + 1 < N) : Ag (k + 2) (cuP N f c (k + 1)) (cuP N f c k + mono (k + 1) (c k)) :=
 L.lead (L.cuP_0 c k) (mono_0 k _) hk (fun i hi => by rw [mono_c, if_neg (by omega)])
theorem LwN.cuP_stay (c : Nat → R) {k : Nat} : ∀ {j : Nat}, k ≤ j → j < N → Ag (k + 1) (cuP N f c j) (cuP N f c k)
 | 0, h, _ => by rw [show k = 0 by omega]; exact Ag.rfl
 | j + 1, h, hj => by
   by_cases e : k = j + 1
   · rw [e]; exact Ag.rfl
   · refine Ag.trans (b := cuP N f c j) (((L.cuP_low c hj).le (by omega)).trans (fun i hi => ?_)) (LwN.cuP_stay c (by omega) (by omega))
     rw [add_c, mono_c, if_neg (by omega), Go.Fg.add_zero]
theorem LwN.cur_ag {a : PS R} (ha : a.c 0 = 0) : ∀ {k : Nat}, k < N → Ag (k + 1) (cur N f a k) a
 | 0, _ => fun i hi => by rw [show i = 0 by omega, L.cur_0, ha]
 | k + 1, h => by
   have ih := LwN.cur_ag ha (k := k) (by omega)
   have h1 := L.cuP_low (coo N f a) h
   rw [cuP_coo, cuP_coo] at h1
   refine h1.trans (fun i hi => ?_)
   rw [add_c, mono_c]
   by_cases e : i = k + 1
   · rw [if_pos e, e]; unfold coo; rw [CR.add_comm, sub_add_cancel]
   · rw [if_neg e, Go.Fg.add_zero, ih i (by omega)]
theorem LwN.coo_cuP (c : Nat → R) {K : Nat} (hK : K < N) : ∀ k, k < K → coo N f (cuP N f c K) k = c k := by
 intro k
 induction k using Nat.strongRecOn with
 | ind k ih =>
   intro hk
   have e1 : cur N f (cuP N f c K) k = cuP N f c k := by
     rw [← cuP_coo]; exact cuP_congr N f (fun i hi => ih i hi (by omega))
   show (cuP N f c K).c (k + 1) - (cur N f (cuP N f c K) k).c (k + 1) = c k
   rw [e1, L.cuP_stay c (k := k + 1) (by omega) hK (k + 1) (by omega), L.cuP_low c (by omega) (k + 1) (by omega), add_c, mono_c, if_pos rfl, CR.add_comm, Go.Fg.add_sub_cancel]
theorem LwN.left_step {A x : PS R} (hA : A.c 0 = 0) (hx : x.c 0 = 0) {k : Nat} (hk : k + 1 < N) (h : ∀ i, i ≤ k → A.c i = 0) (hs : Ag N (evT N f (mono (k + 1) (A.c (k + 1))) x) 0) :
   ∀ i, i ≤ k + 1 → (evT N f A x).c i = 0 := by
 have h1 : Ag (k + 2) (evT N f x (mono (k + 1) (A.c (k + 1)))) (x + mono (k + 1) (A.c (k + 1))) := L.lead hx (mono_0 k _) hk (fun i hi => by rw [mono_c, if_neg (by omega)])
 have h2 : Ag (k + 2) (evT N f x (mono (k + 1) (A.c (k + 1)))) 0 := ((L.comm hx (mono_0 k _)).trans hs).le (by omega)
 have h3 : ∀ i, i < k + 2 → x.c i = -(mono (k + 1) (A.c (k + 1)) : PS R).c i := fun i hi => by
   refine neg_unique ?_
   have := (h1 i hi).symm.trans (h2 i hi)
   rw [add_c, zero_c] at this
   rw [CR.add_comm]; exact this
 have h4 : ∀ i, i ≤ k → x.c i = 0 := fun i hi => by rw [h3 i (by omega), mono_c, if_neg (by omega), Go.Fg.neg_zero]
 intro i hi
 rw [L.lead hA hx hk h4 i (by omega), add_c, h3 i (by omega), mono_c]
 by_cases e : i = k + 1
 · rw [if_pos e, e, Go.Fg.add_neg]
 · rw [if_neg e, h i (by omega), Go.Fg.neg_zero, Go.Fg.add_zero]
theorem LwN.left_coo {a A : PS R} (ha : a.c 0 = 0) (hA : A.c 0 = 0) {k : Nat} (hk : k + 1 < N) (h : ∀ i, i ≤ k → A.c i = 0) (hs : Ag N (evT N f (cur N f a k) A) a) : A.c (k + 1) = coo N f a k := by
 have h1 := L.lead (L.cur_0 a k) hA hk h (k + 1) (by omega)
 rw [hs (k + 1) (by omega), add_c] at h1
 unfold coo
 rw [h1, CR.add_comm, Go.Fg.add_sub_cancel]
theorem LwN.left_sum {a A x : PS R} (ha : a.c 0 = 0) (hA : A.c 0 = 0) (hx : x.c 0 = 0) {k : Nat} (hk : k + 1 < N) (h : ∀ i, i ≤ k → A.c i = 0) (hs : Ag N (evT N f (cur N f a k) A) a)
   (hx2 : Ag N (evT N f (mono (k + 1) (A.c (k + 1))) x) 0) : Ag N (evT N f (cur N f a (k + 1)) (evT N f A x)) a := by
 have e : cur N f a (k + 1) = evT N f (cur N f a k) (mono (k + 1) (A.c (k + 1))) := by
   rw [L.left_coo ha hA hk h hs]; rfl
 have c0 := L.cur_0 a k
 have m0 := mono_0 k (A.c (k + 1))
 rw [e]
 have g1 : L.G.ad (L.G.ad (cv N (cur N f a k)) (cv N (mono (k + 1) (A.c (k + 1))))) (L.G.ad (cv N A) (cv N x)) = cv N a := by
   rw [L.G.swp, L.ad_cv m0 hx, cv_of hx2, L.ad_cv c0 hA, cv_of hs]
   exact L.G.adz _
 rw [L.ad_cv c0 m0, L.ad_cv hA hx, L.ad_cv (L.e0 c0 m0) (L.e0 hA hx)] at g1
 exact (cv_eq (L.e0 (L.e0 c0 m0) (L.e0 hA hx)) ha).1 g1
end
end PS
end Go.Fg
namespace Go.Fg
set_option linter.unusedVariables false
set_option linter.unusedSectionVars false
section
variable {R : Type} [CR R]
end
namespace PS
variable {R : Type} [CR R]
section
variable {m : Int}
theorem CC_cc (r : Zm m) (g : PS (PS (Zm m))) (i j : Nat) : ((C (C r) * g).c i).c j = r * (g.c i).c j := by rw [C_mul, C_mul]
end
end PS
end Go.Fg
