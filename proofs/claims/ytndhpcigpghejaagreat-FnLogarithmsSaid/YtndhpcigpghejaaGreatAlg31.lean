import Derived.Test.YtndhpcigpghejaaGreatAlg24
namespace Go.Fg
set_option linter.unusedVariables false
set_option linter.unusedSimpArgs false
set_option linter.unusedSectionVars false
namespace AG
variable {A : Type} (G : AG A)
end AG
structure Kil (P : Nat → Prop) : Prop where
 mul : ∀ n k, P n → P (n * k)
 gcd : ∀ n k, P n → P k → P (Nat.gcd n k)
namespace PS
section
variable {m : Int}
end
end PS
end Go.Fg
namespace Go.Fg
set_option linter.unusedVariables false
set_option linter.unusedSimpArgs false
set_option linter.unusedSectionVars false
namespace PS
section
variable {R : Type} [CR R]
theorem ev_add (N : Nat) (a b : PS R) (g h : PS (PS R)) : ev N a b (g + h) = ev N a b g + ev N a b h := by
 rw [ev_eq, ev_eq, ev_eq, ← sm_add]
 refine sm_congr (fun i _ => ?_)
 rw [← sm_add]
 refine sm_congr (fun j _ => ?_)
 rw [add_c, add_c, ← C_add_C, add_mul]
theorem ev_zero (N : Nat) (a b : PS R) : ev N a b 0 = 0 := by
 rw [ev_eq]
 exact sm_zero (fun i _ => sm_zero (fun j _ => by rw [zero_c, zero_c, C_zero, Go.Fg.zero_mul]))
theorem ev_sm (N : Nat) (a b : PS R) (k : Nat) (u : Nat → PS (PS R)) : ev N a b (Go.Fg.sm k u) = Go.Fg.sm k fun i => ev N a b (u i) := by
 induction k with
 | zero => exact ev_zero N a b
 | succ k ih => rw [sm_succ, sm_succ, ev_add, ih]
theorem ev_CC {N : Nat} (hN : 1 ≤ N) (a b : PS R) (r : R) (g : PS (PS R)) : ev N a b (C (C r) * g) = C r * ev N a b g := by
 rw [ev_eq, ev_eq, sm_mul]
 refine sm_congr (fun i _ => ?_)
 rw [sm_mul]
 refine sm_congr (fun j _ => ?_)
 rw [C_mul, C_mul, ← C_mul_C, CR.mul_assoc]
theorem ev_axX {N : Nat} (hN : 1 ≤ N) {a : PS R} (ha : a.c 0 = 0) (b u : PS R) : Ag N (ev N a b (axX u)) (comp u a) := by
 refine Ag.trans (Ag.of_eq ?_) (compN_ag ha N)
 rw [ev_eq]
 unfold compN
 refine sm_congr (fun i _ => ?_)
 rw [sm_one 0 (by omega) (fun j _ hne => by rw [show ((axX u).c i).c j = (C (u.c i)).c j from rfl, C_c, if_neg hne, C_zero, Go.Fg.zero_mul])]
 rw [show ((axX u).c i).c 0 = u.c i from rfl, pw_zero, Go.Fg.mul_one, Nat.zero_add]
theorem ev_axY {N : Nat} (hN : 1 ≤ N) (a : PS R) {b : PS R} (hb : b.c 0 = 0) (u : PS R) : Ag N (ev N a b (axY u)) (comp u b) := by
 refine Ag.trans (Ag.of_eq ?_) (compN_ag hb N)
 rw [ev_eq]
 unfold compN
 rw [sm_one 0 (by omega) (fun i _ hne => sm_zero (fun j _ => by rw [show (axY u).c i = (C u).c i from rfl, C_c, if_neg hne, zero_c, C_zero, Go.Fg.zero_mul]))]
 refine sm_congr (fun j _ => ?_)
 rw [show ((axY u).c 0).c j = u.c j from rfl, pw_zero, CR.one_mul, Nat.zero_add]
end
section
variable {m : Int}
theorem ev_ag {N : Nat} {a b : PS (Zm m)} (ha : a.c 0 = 0) (hb : b.c 0 = 0) {g h : PS (PS (Zm m))} (H : Ag2 N g h) : Ag N (ev N a b g) (ev N a b h) :=
 (evT_ev g ha hb).symm.trans ((evT_congr (fun i j hij => H i j hij) Ag.rfl Ag.rfl).trans (evT_ev h ha hb))
theorem ev_comp2N {N : Nat} (hN : 1 ≤ N) (l : PS (Zm m)) (f : PS (PS (Zm m))) {a b : PS (Zm m)} (ha : a.c 0 = 0) (hb : b.c 0 = 0) :
   Ag N (ev N a b (comp2N l f 0 N)) (compN l (ev N a b f) 0 N) := by
 unfold comp2N compN
 rw [ev_sm]
 refine Ag.sm (fun i _ => ?_)
 rw [ev_CC hN]
 exact Ag.rfl.mul (ev_pw hN f ha hb i)
theorem comp_evT {N : Nat} (hN : 1 ≤ N) (l : PS (Zm m)) {f : PS (PS (Zm m))} (f0 : (f.c 0).c 0 = 0) {a b : PS (Zm m)} (ha : a.c 0 = 0) (hb : b.c 0 = 0) :
   Ag N (comp l (evT N f a b)) (ev N a b (comp2N l f 0 N)) := by
 refine Ag.trans ?_ (ev_comp2N hN l f ha hb).symm
 refine (compN_ag (evT_0 f0 ha hb) N).symm.trans ?_
 exact compN_congr (fun _ _ _ => rfl) (evT_ev f ha hb)
theorem log_evT {N : Nat} (hN : 1 ≤ N) {l : PS (Zm m)} {f : PS (PS (Zm m))} (f0 : (f.c 0).c 0 = 0) (h : Ag2 N (comp2N l f 0 N) (axX l + axY l)) {a b : PS (Zm m)} (ha : a.c 0 = 0) (hb : b.c 0 = 0) :
   Ag N (comp l (evT N f a b)) (comp l a + comp l b) := by
 refine (comp_evT hN l f0 ha hb).trans ((ev_ag ha hb h).trans ?_)
 rw [ev_add]
 exact (ev_axX hN ha b l).add (ev_axY hN a hb l)
theorem log_nm {N : Nat} {l : PS (Zm m)} {f : PS (PS (Zm m))} (L : LwN f N) (l0 : l.c 0 = 0) (h : Ag2 N (comp2N l f 0 N) (axX l + axY l)) (a : Cv (Zm m) N) :
   ∀ n : Nat, Ag N (comp l (L.G.nm n a).1) (C (nc (Zm m) n) * comp l a.1)
 | 0 => by
   refine (comp_congr Ag.rfl (cv_ag (a := (0 : PS (Zm m))) rfl)).trans (Ag.of_eq ?_)
   rw [show nc (Zm m) 0 = 0 from rfl, C_zero, Go.Fg.zero_mul]
   refine PS.ext (fun i => ?_)
   show (compN l 0 0 (i + 1)).c i = 0
   unfold compN
   rw [sm_one 0 (by omega) (fun j _ hne => by rw [zero_pw hne, Go.Fg.mul_zero]), l0, C_zero, Go.Fg.zero_mul]; rfl
 | n + 1 => by
   have e0 : (evT N f (L.G.nm n a).1 a.1).c 0 = 0 := L.e0 (L.G.nm n a).2.1 a.2.1
   have hN := L.pos
   refine (comp_congr Ag.rfl (cv_ag e0)).trans ((log_evT (by omega) L.z0 h (L.G.nm n a).2.1 a.2.1).trans (((log_nm L l0 h a n).add Ag.rfl).trans (Ag.of_eq ?_)))
   show C (nc (Zm m) n) * comp l a.1 + comp l a.1 = C (nc (Zm m) n + 1) * comp l a.1
   rw [← C_add_C, add_mul, C_one, CR.one_mul]
theorem comp_z0 {l : PS (Zm m)} (l0 : l.c 0 = 0) : comp l 0 = 0 := PS.ext (fun i => by
   show (compN l 0 0 (i + 1)).c i = 0
   unfold compN
   rw [sm_one 0 (by omega) (fun j _ hne => by rw [zero_pw hne, Go.Fg.mul_zero]), l0, C_zero, Go.Fg.zero_mul]; rfl)
theorem log_ng {N : Nat} {l : PS (Zm m)} {f : PS (PS (Zm m))} (L : LwN f N) (l0 : l.c 0 = 0) (h : Ag2 N (comp2N l f 0 N) (axX l + axY l)) (a : Cv (Zm m) N) :
   Ag N (comp l (L.G.ng a).1) (-(comp l a.1)) := by
 have hN := L.pos
 have e0 : (evT N f (L.G.ng a).1 a.1).c 0 = 0 := L.e0 (L.G.ng a).2.1 a.2.1
 have h1 := log_evT (by omega) L.z0 h (L.G.ng a).2.1 a.2.1
 have h2 : Ag N (comp l (evT N f (L.G.ng a).1 a.1)) 0 := by
   refine Ag.trans (comp_congr Ag.rfl ?_) (Ag.of_eq (comp_z0 l0))
   refine (cv_ag e0).symm.trans ?_
   have e : L.G.ad (L.G.ng a) a = L.G.z := L.G.nad a
   rw [show cv N (evT N f (L.G.ng a).1 a.1) = cv N 0 from e]
   exact cv_ag (a := (0 : PS (Zm m))) rfl
 intro i hi
 have h3 := (h1.symm.trans h2) i hi
 rw [add_c, zero_c] at h3
 rw [neg_c]
 exact neg_unique (by rw [CR.add_comm]; exact h3)
theorem log_zm {N : Nat} {l : PS (Zm m)} {f : PS (PS (Zm m))} (L : LwN f N) (l0 : l.c 0 = 0) (h : Ag2 N (comp2N l f 0 N) (axX l + axY l)) (a : Cv (Zm m) N) (k : Int) :
   Ag N (comp l (L.G.zm k a).1) (C (Zm.mk m k) * comp l a.1) := by
 cases k with
 | ofNat n => rw [show (L.G.zm (Int.ofNat n) a) = L.G.nm n a from rfl, show Zm.mk m (Int.ofNat n) = nc (Zm m) n from (nc_mk n).symm]; exact log_nm L l0 h a n
 | negSucc n =>
   refine (log_ng L l0 h (L.G.nm (n + 1) a)).trans ?_
   refine (Ag.neg (log_nm L l0 h a (n + 1))).trans (Ag.of_eq ?_)
   rw [show Zm.mk m (Int.negSucc n) = -nc (Zm m) (n + 1) by rw [nc_mk, ← Zm.mk_neg]; congr 1, ← Go.Fg.neg_mul]
   congr 1
   ext j; rw [neg_c, C_c, C_c]; split
   · rfl
   · exact Go.Fg.neg_zero
end
end PS
end Go.Fg
