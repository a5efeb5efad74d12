import Derived.Test.YtndhpcigpghejaaGreatK174
import Derived.Test.YtndhpcigpghejaaGreatK45
namespace Go.Proofs
open Go Go.Vm Go.Fg Go.Fg.PS
set_option maxRecDepth 100000
set_option maxHeartbeats 4000000
set_option linter.unusedSimpArgs false
set_option linter.unusedVariables false
variable {m : Int}
theorem unitB_one (m : Int) : unitB m 1 = true := by unfold unitB; simp
theorem c_isCoordinate (hm : Md m) (o : Bool) (n : Nat) (hn : 2 ≤ n ∧ n ≤ 11) (a : PS (Zm m)) (h0 : a.c 0 = 0) (h1 : a.c 1 = 1) : PureCall Tryz.prog 248 [SerD m o n a] (dbool true) := by
 have hm1 := hm.1
 have hm2 := hm.2
 have hv0 : (a.c 0).val = 0 := by rw [h0]; exact Zm.val_zero
 have hv1 : (a.c 1).val = 1 := by rw [h1]; exact Zm.val_one (by omega)
 have hu := c_isUnit hm 1 (by omega) (A := (a.c 1).val) (by rw [hv1]; rfl)
 rw [unitB_one] at hu
 have e0 : (L n a).getD 0 0 = 0 := by rw [L_getD a (by omega), hv0]
 have e1 : (L n a).getD 1 0 = (a.c 1).val := by rw [L_getD a (by omega)]
 refine pure_of_vcR Tryz.tabOk mixOrd Tryz.func248 rfl rfl ?_
 conv => whnf
 repeat' first | ((first | refine z0 ?_ | (apply zI; refine zP (hu) ?_) | (refine And.intro (fun h => ?_) (fun h => ?_) <;> (try simp only [cnt1, ints_length, rows_length, Tb_length, L_length, byts_length] at h) <;> first | (exfalso; first | omega | exact h trivial | (cases h; done)) | skip) | refine zS ?_ | refine zV ?_ | (apply zI; refine zP vObt ?_) | (apply zI; refine zP vObx ?_) | refine zA ?_ | refine Alt.fst ?_ | refine Or.inl ?_) <;> conv => whnf) | fail
 all_goals first | rfl | (exfalso; simp_all; done)
theorem c_inCoordinate (hm : Md m) (o p o' : Bool) (n : Nat) (hn : 2 ≤ n ∧ n ≤ 11) (f : PS (PS (Zm m))) (a : PS (Zm m)) : PureCall Tryz.prog 250 [PlD m o p n f, SerD m o' n a] (PlD m true true n (comp2N a (btS f (rev (invN m (a.c 1).val) a) (rev (invN m (a.c 1).val) a) n) 0 n)) := by
 have k1 := fun o => c_reverseU hm o n (by omega) a
 have k2 := fun o p o' o2 => c_bothP hm o p o' o2 n (by omega) f (rev (invN m (a.c 1).val) a) (rev (invN m (a.c 1).val) a)
 have k3 := fun o o1 p => c_of hm o1 o p n (by omega) a (btS f (rev (invN m (a.c 1).val) a) (rev (invN m (a.c 1).val) a) n)
 refine pure_of_vcR Tryz.tabOk mixOrd Tryz.func250 rfl rfl ?_
 conv => whnf
 repeat' first | ((first | refine z0 ?_ | (apply zI; refine zP (k1 _) ?_) | (apply zI; refine zP (k2 _ _ _ _) ?_) | (apply zI; refine zP (k3 _ _ _) ?_) | (refine And.intro (fun h => ?_) (fun h => ?_) <;> (try simp only [cnt1, ints_length, rows_length, Tb_length, L_length, byts_length] at h) <;> first | (exfalso; first | omega | exact h trivial | (cases h; done)) | skip) | refine zS ?_ | refine zV ?_ | (apply zI; refine zP vObt ?_) | (apply zI; refine zP vObx ?_) | refine zA ?_ | refine Alt.fst ?_ | refine Or.inl ?_) <;> conv => whnf) | fail
 all_goals first | rfl | (exfalso; simp_all; done)
theorem c_implLawInCoordinate (hm : Md m) (o p o1 : Bool) (N : Nat) (hN : 2 ≤ N ∧ N ≤ 11) (f : PS (PS (Zm m))) (hlaw : lawB m (Tb N f) = true) (a : PS (Zm m)) (h0 : a.c 0 = 0) (h1 : a.c 1 = 1) :
   PureCall Tryz.prog 72 [PlD m o p N f, SerD m o1 N a] (.tup [PlD m true true N (comp2N a (btS f (rev (invN m (a.c 1).val) a) (rev (invN m (a.c 1).val) a) N) 0 N), dint 0]) := by
 have hcu : cuC m (Tb N f) m (L N a) = 0 := by
   unfold cuC
   rw [if_pos hlaw, if_pos (serB_LX hm hN _), if_pos]
   simp only [fitB, decide_true, Bool.true_and, L_length, Tb_length]
   rw [L_getD _ (by omega), h0]; simp [Zm.val_zero]
 have k0 := fun o1 o2 => c_curved1 o p o1 o2 m (Tb N f) m (L N a) (by simp; omega) (lensOk_Tb (by omega) _) (by simp; omega)
 rw [hcu] at k0
 have k1 := fun o => c_isCoordinate hm o N hN a h0 h1
 have k2 := fun o p o' => c_inCoordinate hm o p o' N hN f a
 simp only [PlD, SerD] at k1 k2 ⊢
 refine pure_of_vcR Tryz.tabOk mixOrd Tryz.func72 rfl rfl ?_
 conv => whnf
 repeat' first | ((first | refine z0 ?_ | (apply zI; refine zP (k0 _ _) ?_) | (apply zI; refine zP (k1 _) ?_) | (apply zI; refine zP (k2 _ _ _) ?_) | (apply zI; refine zP ((show sub [dint m, D.list false 1 (ints (L N a))] 2 0 1 = [dint m, D.list false 1 (ints (L N a))] from rfl)) ?_) | (refine And.intro (fun h => ?_) (fun h => ?_) <;> (try simp only [cnt1, ints_length, rows_length, Tb_length, L_length, byts_length] at h) <;> first | (exfalso; first | omega | exact h trivial | (cases h; done)) | skip) | refine zS ?_ | refine zV ?_ | (apply zI; refine zP vObt ?_) | (apply zI; refine zP vObx ?_) | refine zA ?_ | refine And.intro ((show 1 * 2 ≤ 2 by omega)) ?_ | refine Alt.fst ?_ | refine Or.inl ?_) <;> conv => whnf) | fail
 all_goals first | rfl | (exfalso; simp_all; done)
theorem c_implLawOfCurve (hm : Md m) (o1 : Bool) (N : Nat) (hN : 2 ≤ N ∧ N ≤ 11) (a : PS (Zm m)) (h0 : a.c 0 = 0) (h1 : a.c 1 = 1) :
   PureCall Tryz.prog 70 [SerD m o1 N a] (.tup [PlD m true true N (lawG N a), dint 0]) := by
 have k0 := fun o => c_IsSeries o m (L N a) (by simp; omega)
 rw [serB_LX hm hN] at k0
 have k1 := fun o => c_isCoordinate hm o N hN a h0 h1
 have k2 := fun o => c_lawOf hm o N (by omega) a
 simp only [PlD, SerD] at k1 k2 ⊢
 refine pure_of_vcR Tryz.tabOk mixOrd Tryz.func70 rfl rfl ?_
 conv => whnf
 repeat' first | ((first | refine z0 ?_ | (apply zI; refine zP (k0 _) ?_) | (apply zI; refine zP (k1 _) ?_) | (apply zI; refine zP (k2 _) ?_) | (refine And.intro (fun h => ?_) (fun h => ?_) <;> (try simp only [cnt1, ints_length, rows_length, Tb_length, L_length, byts_length] at h) <;> first | (exfalso; first | omega | exact h trivial | (cases h; done)) | skip) | refine zS ?_ | refine zV ?_ | (apply zI; refine zP vObt ?_) | (apply zI; refine zP vObx ?_) | refine zA ?_ | refine Alt.fst ?_ | refine Or.inl ?_) <;> conv => whnf) | fail
 all_goals first | rfl | (exfalso; simp_all; done)
theorem c_implReverseSeries (hm : Md m) (o1 : Bool) (N : Nat) (hN : 2 ≤ N ∧ N ≤ 11) (a : PS (Zm m)) (h0 : a.c 0 = 0) (h1 : a.c 1 = 1) :
   PureCall Tryz.prog 71 [SerD m o1 N a] (.tup [SerD m true N (rev (invN m (a.c 1).val) a), dint 0]) := by
 have k0 := fun o => c_IsSeries o m (L N a) (by simp; omega)
 rw [serB_LX hm hN] at k0
 have k1 := fun o => c_isCoordinate hm o N hN a h0 h1
 have k2 := fun o => c_reverseU hm o N (by omega) a
 simp only [SerD] at k1 k2 ⊢
 refine pure_of_vcR Tryz.tabOk mixOrd Tryz.func71 rfl rfl ?_
 conv => whnf
 repeat' first | ((first | refine z0 ?_ | (apply zI; refine zP (k0 _) ?_) | (apply zI; refine zP (k1 _) ?_) | (apply zI; refine zP (k2 _) ?_) | (refine And.intro (fun h => ?_) (fun h => ?_) <;> (try simp only [cnt1, ints_length, rows_length, Tb_length, L_length, byts_length] at h) <;> first | (exfalso; first | omega | exact h trivial | (cases h; done)) | skip) | refine zS ?_ | refine zV ?_ | (apply zI; refine zP vObt ?_) | (apply zI; refine zP vObx ?_) | refine zA ?_ | refine Alt.fst ?_ | refine Or.inl ?_) <;> conv => whnf) | fail
 all_goals first | rfl | (exfalso; simp_all; done)
theorem c_standardX1 (x m : Int) (h1 : inR .i64 (m - 1)) : PureCall Tryz.prog 334 [dint x, .cptr [dint m] 0] (dbool (inB x 0 (m - 1))) := by
 refine pure_of_vcR Tryz.tabOk mixOrd Tryz.func334 rfl rfl ?_
 conv => whnf
 repeat' first | ((first | refine z0 ?_ | (apply zI; refine zP (c_isNumber _ _ h1) ?_) | (refine And.intro (fun h => ?_) (fun h => ?_) <;> (try simp only [cnt1, ints_length] at h)) | refine zS ?_ | refine zV ?_ | (apply zI; refine zP vObt ?_) | (apply zI; refine zP vObx ?_) | refine zA ?_ | refine Alt.fst ?_ | refine Or.inl ?_) <;> conv => whnf) | fail
 all_goals (refine dbool_congr ?_; first | rfl | (simp_all []; done) | (simp_all []; omega) | (simp_all []; intros; omega))
theorem c_standardX (hm : Md m) (d : Int) (hd : 1 ≤ d ∧ d ≤ 10) : PureCall Tryz.prog 158 [dint m, dint d, .list false 1 (ints [])] (dint 0) := by
 have hm1 := hm.1
 have hm2 := hm.2
 have hi := c_impl_in d 1 10
 rw [show inB d 1 10 = true by simp [inB]; omega] at hi
 have hM := c_IsModulus m
 rw [show inB m 2 10000 = true by simp [inB]; omega] at hM
 refine pure_of_vcR Tryz.tabOk mixOrd Tryz.func158 rfl rfl ?_
 conv => whnf
 repeat' first | ((first | refine z0 ?_ | (apply zI; refine zP (hM) ?_) | (apply zI; refine zP (hi) ?_) | (apply zI; refine zP (c_allA 334 [dint m] (fun a => inB a 0 (m - 1)) (fun a => c_standardX1 a m (inR64 (by omega) (by omega))) _ [] (by simp)) ?_) | (refine And.intro (fun h => ?_) (fun h => ?_) <;> (try simp only [cnt1, ints_length, rows_length, Tb_length, L_length, byts_length] at h) <;> first | (exfalso; first | omega | exact h trivial | (cases h; done)) | skip) | refine zS ?_ | refine zV ?_ | (apply zI; refine zP vObt ?_) | (apply zI; refine zP vObx ?_) | refine zA ?_ | refine Alt.fst ?_ | refine Or.inl ?_) <;> conv => whnf) | fail
 all_goals first | rfl | (exfalso; simp_all; done)
theorem c_standardNil (hm : Md m) (d : Int) (hd : 1 ≤ d ∧ d ≤ 10) : PureCall Tryz.prog 158 [dint m, dint d, .lit (.slice none 0 0)] (dint 0) := by
 refine (c_standardX hm d hd).mono rfl (fun i d d' h h' => ?_)
 match i, h, h' with
 | 0, h, h' => simp at h h'; subst h; subst h'; exact SubD.rfl _
 | 1, h, h' => simp at h h'; subst h; subst h'; exact SubD.rfl _
 | 2, h, h' => simp at h h'; subst h; subst h'; exact SubD.nil _ _
 | i + 3, h, h' => simp at h
theorem c_implAdditiveLaw (hm : Md m) (N : Nat) (hN : 2 ≤ N ∧ N ≤ 11) {d : Int} (hd : d + 1 = N) :
   PureCall Tryz.prog 31 [dint m, dint d] (.tup [PlD m true true N (axX PS.X + axY PS.X), dint 0]) := by
 have hm1 := hm.1
 have hm2 := hm.2
 have k0 := c_standardNil hm d (by omega)
 have k1 := c_variables hm N hd (by omega)
 have k2 := fun o p o' p' => c_plusP hm o p o' p' N (by omega) (axX (PS.X : PS (Zm m))) (axY PS.X)
 simp only [PlD] at k1 k2 ⊢
 refine pure_of_vcR Tryz.tabOk mixOrd Tryz.func31 rfl rfl ?_
 conv => whnf
 repeat' first | ((first | refine z0 ?_ | (apply zI; refine zP (k0) ?_) | (apply zI; refine zP (k1) ?_) | (apply zI; refine zP (k2 _ _ _ _) ?_) | (refine And.intro (fun h => ?_) (fun h => ?_) <;> (try simp only [cnt1, ints_length, rows_length, Tb_length, L_length, byts_length] at h) <;> first | (exfalso; first | omega | exact h trivial | (cases h; done)) | skip) | refine zS ?_ | refine zV ?_ | (apply zI; refine zP vObt ?_) | (apply zI; refine zP vObx ?_) | refine zA ?_ | refine Alt.fst ?_ | refine Or.inl ?_) <;> conv => whnf) | fail
 all_goals first | rfl | (exfalso; simp_all; done)
end Go.Proofs
