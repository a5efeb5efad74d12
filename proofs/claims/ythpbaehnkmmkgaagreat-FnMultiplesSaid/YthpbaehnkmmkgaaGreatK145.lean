/- Sums and opposites of curves of a law, as the program finds them. -/
-- tables
-- rec
import Derived.Test.YthpbaehnkmmkgaaGreatK139
namespace Go.Proofs
open Go Go.Vm Go.Fg Go.Fg.PS
set_option maxRecDepth 100000
set_option maxHeartbeats 4000000
set_option linter.unusedSimpArgs false
set_option linter.unusedVariables false
variable {m : Int}
theorem c_allS2A (g : Nat) (o o1 o3 : Bool) (ma : Int) (l : List Int) (mb : Int) (k : List Int)  (hp : PureCall Tryz.prog g [.agg [dint ma, .list o1 1 (ints l)]] (dbool true)) (hq : PureCall Tryz.prog g [.agg [dint mb, .list o3 1 (ints k)]] (dbool true)) :
    PureCall Tryz.prog 378 [.list o 2 [dint ma, .list o1 1 (ints l), dint mb, .list o3 1 (ints k)], (.fn (.func g) [] [])] (dbool true) := by
  have h1 : PureCall Tryz.prog 437 [.agg [dint ma, .list o1 1 (ints l)], .cptr [(.fn (.func g) [] [])] 0] (dbool (!true)) := c_all1SA g o1 ma l  true hp
  have h3 : PureCall Tryz.prog 437 [.agg [dint mb, .list o3 1 (ints k)], .cptr [(.fn (.func g) [] [])] 0] (dbool (!true)) := c_all1SA g o3 mb k  true hq
  have h2 : PureCall Tryz.prog 468 [.list o 2 [dint ma, .list o1 1 (ints l), dint mb, .list o3 1 (ints k)], .fn (.func 437) [] [.cptr [(.fn (.func g) [] [])] 0]] (dint (-1)) := by
    have hc2 : cnt 2 [dint ma, .list o1 1 (ints l), dint mb, .list o3 1 (ints k)] = 2 := by simp [cnt]
    refine pure_of_vcR Tryz.tabOk mixOrd Tryz.func468 rfl rfl ?_
    conv => whnf
    repeat' first | ((first | refine z0 ?_ | (refine And.intro (fun h => ?_) (fun h => ?_) <;> (try simp only [cnt1, ints_length] at h)) | refine zS ?_ | refine zV ?_ | (apply zI; refine zP vObt ?_) | (apply zI; refine zP vObx ?_) | refine zA ?_ | refine Alt.fst ?_ | refine Or.inl ?_) <;> conv => whnf) | fail
    refine loop_peelV Tryz.tabOk mixOrd ?_
    conv => whnf
    repeat' first | ((first | refine z0 ?_ | (apply zI; refine zP (⟨_, rfl, rfl⟩) ?_) | (apply zI; refine zP (h1) ?_) | (refine And.intro (fun h => ?_) (fun h => ?_) <;> (try simp only [cnt1, ints_length, rows_length, Tb_length, L_length, byts_length] at h) <;> first | (exfalso; first | omega | exact h trivial | (cases h; done)) | skip) | refine zS ?_ | refine zV ?_ | (apply zI; refine zP vObt ?_) | (apply zI; refine zP vObx ?_) | refine zA ?_ | refine Alt.fst ?_ | refine Or.inl ?_) <;> conv => whnf) | fail
    refine loop_peelV Tryz.tabOk mixOrd ?_
    conv => whnf
    repeat' first | ((first | refine z0 ?_ | (apply zI; refine zP (⟨_, rfl, rfl⟩) ?_) | (apply zI; refine zP (h3) ?_) | (refine And.intro (fun h => ?_) (fun h => ?_) <;> (try simp only [cnt1, ints_length, rows_length, Tb_length, L_length, byts_length] at h) <;> first | (exfalso; first | omega | exact h trivial | (cases h; done)) | skip) | refine zS ?_ | refine zV ?_ | (apply zI; refine zP vObt ?_) | (apply zI; refine zP vObx ?_) | refine zA ?_ | refine Alt.fst ?_ | refine Or.inl ?_) <;> conv => whnf) | fail
    refine loop_peelV Tryz.tabOk mixOrd ?_
    conv => whnf
    repeat' first | ((first | refine z0 ?_ | (refine And.intro (fun h => ?_) (fun h => ?_) <;> (try simp only [cnt1, ints_length, rows_length, Tb_length, L_length, byts_length] at h) <;> first | (exfalso; first | omega | exact h trivial | (cases h; done)) | skip) | refine zS ?_ | refine zV ?_ | (apply zI; refine zP vObt ?_) | (apply zI; refine zP vObx ?_) | refine zA ?_ | refine Alt.fst ?_ | refine Or.inl ?_) <;> conv => whnf) | fail
    all_goals first
          | rfl
          | (exfalso; have hx : 2 < ((cnt 2 [dint ma, .list o1 1 (ints l), dint mb, .list o3 1 (ints k)] : Nat) : Int) := (by assumption); rw [hc2] at hx; omega)
          | (exfalso; have hx : 1 + 1 < ((cnt 2 [dint ma, .list o1 1 (ints l), dint mb, .list o3 1 (ints k)] : Nat) : Int) := (by assumption); rw [hc2] at hx; omega)
          | (exfalso; have hx : 0 + 1 + 1 < ((cnt 2 [dint ma, .list o1 1 (ints l), dint mb, .list o3 1 (ints k)] : Nat) : Int) := (by assumption); rw [hc2] at hx; omega)
  refine pure_of_vcR Tryz.tabOk mixOrd Tryz.func378 rfl rfl ?_
  conv => whnf
  repeat' first | ((first | refine z0 ?_ | refine Or.inr (inl_ofR Tryz.tabOk mixOrd _ Tryz.func436 rfl rfl ?_) | (apply zI; refine zP (h2) ?_) | (refine And.intro (fun h => ?_) (fun h => ?_) <;> (try simp only [cnt1, ints_length, rows_length, Tb_length, L_length, byts_length] at h) <;> first | (exfalso; first | omega | exact h trivial | (cases h; done)) | skip) | refine zS ?_ | refine zV ?_ | (apply zI; refine zP vObt ?_) | (apply zI; refine zP vObx ?_) | refine zA ?_ | refine Alt.fst ?_ | refine Or.inl ?_) <;> conv => whnf) | fail
  all_goals first | rfl | (exfalso; omega)
theorem c_allS2B (g : Nat) (o o1 o3 : Bool) (ma : Int) (l : List Int) (mb : Int) (k : List Int) (m : Int) (o2 p2 : Bool) (t : List (List Int)) (hp : PureCall Tryz.prog g [.agg [dint m, .list o2 1 (rows p2 t)], .agg [dint ma, .list o1 1 (ints l)]] (dbool true)) (hq : PureCall Tryz.prog g [.agg [dint m, .list o2 1 (rows p2 t)], .agg [dint mb, .list o3 1 (ints k)]] (dbool true)) :
    PureCall Tryz.prog 378 [.list o 2 [dint ma, .list o1 1 (ints l), dint mb, .list o3 1 (ints k)], (.fn (.func g) [.agg [dint m, .list o2 1 (rows p2 t)]] [])] (dbool true) := by
  have h1 : PureCall Tryz.prog 437 [.agg [dint ma, .list o1 1 (ints l)], .cptr [(.fn (.func g) [.agg [dint m, .list o2 1 (rows p2 t)]] [])] 0] (dbool (!true)) := c_all1SB g o1 ma l m o2 p2 t true hp
  have h3 : PureCall Tryz.prog 437 [.agg [dint mb, .list o3 1 (ints k)], .cptr [(.fn (.func g) [.agg [dint m, .list o2 1 (rows p2 t)]] [])] 0] (dbool (!true)) := c_all1SB g o3 mb k m o2 p2 t true hq
  have h2 : PureCall Tryz.prog 468 [.list o 2 [dint ma, .list o1 1 (ints l), dint mb, .list o3 1 (ints k)], .fn (.func 437) [] [.cptr [(.fn (.func g) [.agg [dint m, .list o2 1 (rows p2 t)]] [])] 0]] (dint (-1)) := by
    have hc2 : cnt 2 [dint ma, .list o1 1 (ints l), dint mb, .list o3 1 (ints k)] = 2 := by simp [cnt]
    refine pure_of_vcR Tryz.tabOk mixOrd Tryz.func468 rfl rfl ?_
    conv => whnf
    repeat' first | ((first | refine z0 ?_ | (refine And.intro (fun h => ?_) (fun h => ?_) <;> (try simp only [cnt1, ints_length] at h)) | refine zS ?_ | refine zV ?_ | (apply zI; refine zP vObt ?_) | (apply zI; refine zP vObx ?_) | refine zA ?_ | refine Alt.fst ?_ | refine Or.inl ?_) <;> conv => whnf) | fail
    refine loop_peelV Tryz.tabOk mixOrd ?_
    conv => whnf
    repeat' first | ((first | refine z0 ?_ | (apply zI; refine zP (⟨_, rfl, rfl⟩) ?_) | (apply zI; refine zP (h1) ?_) | (refine And.intro (fun h => ?_) (fun h => ?_) <;> (try simp only [cnt1, ints_length, rows_length, Tb_length, L_length, byts_length] at h) <;> first | (exfalso; first | omega | exact h trivial | (cases h; done)) | skip) | refine zS ?_ | refine zV ?_ | (apply zI; refine zP vObt ?_) | (apply zI; refine zP vObx ?_) | refine zA ?_ | refine Alt.fst ?_ | refine Or.inl ?_) <;> conv => whnf) | fail
    refine loop_peelV Tryz.tabOk mixOrd ?_
    conv => whnf
    repeat' first | ((first | refine z0 ?_ | (apply zI; refine zP (⟨_, rfl, rfl⟩) ?_) | (apply zI; refine zP (h3) ?_) | (refine And.intro (fun h => ?_) (fun h => ?_) <;> (try simp only [cnt1, ints_length, rows_length, Tb_length, L_length, byts_length] at h) <;> first | (exfalso; first | omega | exact h trivial | (cases h; done)) | skip) | refine zS ?_ | refine zV ?_ | (apply zI; refine zP vObt ?_) | (apply zI; refine zP vObx ?_) | refine zA ?_ | refine Alt.fst ?_ | refine Or.inl ?_) <;> conv => whnf) | fail
    refine loop_peelV Tryz.tabOk mixOrd ?_
    conv => whnf
    repeat' first | ((first | refine z0 ?_ | (refine And.intro (fun h => ?_) (fun h => ?_) <;> (try simp only [cnt1, ints_length, rows_length, Tb_length, L_length, byts_length] at h) <;> first | (exfalso; first | omega | exact h trivial | (cases h; done)) | skip) | refine zS ?_ | refine zV ?_ | (apply zI; refine zP vObt ?_) | (apply zI; refine zP vObx ?_) | refine zA ?_ | refine Alt.fst ?_ | refine Or.inl ?_) <;> conv => whnf) | fail
    all_goals first
          | rfl
          | (exfalso; have hx : 2 < ((cnt 2 [dint ma, .list o1 1 (ints l), dint mb, .list o3 1 (ints k)] : Nat) : Int) := (by assumption); rw [hc2] at hx; omega)
          | (exfalso; have hx : 1 + 1 < ((cnt 2 [dint ma, .list o1 1 (ints l), dint mb, .list o3 1 (ints k)] : Nat) : Int) := (by assumption); rw [hc2] at hx; omega)
          | (exfalso; have hx : 0 + 1 + 1 < ((cnt 2 [dint ma, .list o1 1 (ints l), dint mb, .list o3 1 (ints k)] : Nat) : Int) := (by assumption); rw [hc2] at hx; omega)
  refine pure_of_vcR Tryz.tabOk mixOrd Tryz.func378 rfl rfl ?_
  conv => whnf
  repeat' first | ((first | refine z0 ?_ | refine Or.inr (inl_ofR Tryz.tabOk mixOrd _ Tryz.func436 rfl rfl ?_) | (apply zI; refine zP (h2) ?_) | (refine And.intro (fun h => ?_) (fun h => ?_) <;> (try simp only [cnt1, ints_length, rows_length, Tb_length, L_length, byts_length] at h) <;> first | (exfalso; first | omega | exact h trivial | (cases h; done)) | skip) | refine zS ?_ | refine zV ?_ | (apply zI; refine zP vObt ?_) | (apply zI; refine zP vObx ?_) | refine zA ?_ | refine Alt.fst ?_ | refine Or.inl ?_) <;> conv => whnf) | fail
  all_goals first | rfl | (exfalso; omega)
theorem serB_LX (hm : Md m) {n : Nat} (hn : 2 ≤ n ∧ n ≤ 11) (a : PS (Zm m)) : serB m (L n a) = true := by
  simp only [serB, Bool.and_eq_true]
  refine ⟨⟨?_, ?_⟩, ?_⟩
  · simpa [inB, Md] using hm
  · simp [inB]; omega
  · refine numsB_of (fun j hj => ?_)
    rw [L_getD _ (by simpa using hj)]
    have := Zm.val_range hm.pos (a.c j)
    simp [inB]; omega
theorem fitB_L {m : Int} {n : Nat} (hn : 2 ≤ n ∧ n ≤ 11) {f : PS (PS (Zm m))} {a : PS (Zm m)} (ha : a.c 0 = 0) : fitB m (Tb n f) m (L n a) = true := by
  simp only [fitB, decide_true, Bool.true_and, Bool.and_eq_true, decide_eq_true_eq, Tb_length, L_length]
  rw [L_getD _ (by omega), ha]; exact Zm.val_zero
theorem c_curvedY (hm : Md m) (o p o1 o2 : Bool) (n : Nat) (hn : 2 ≤ n ∧ n ≤ 11) (f : PS (PS (Zm m))) (hL : lawB m (Tb n f) = true) (a : PS (Zm m)) (ha : a.c 0 = 0) :
    PureCall Tryz.prog 254 [PlD m o p n f, .list o2 2 [dint m, .list o1 1 (ints (L n a))]] (dint 0) := by
  have h := c_curved1 o p o1 o2 m (Tb n f) m (L n a) (by simp; omega) (lensOk_Tb (by omega) f) (by simp; omega)
  rw [show cuC m (Tb n f) m (L n a) = 0 by unfold cuC; rw [if_pos hL, if_pos (serB_LX hm hn a), if_pos (fitB_L hn ha)]] at h
  exact h
theorem c_curved2 (hm : Md m) (o p o1 o2 o3 : Bool) (n : Nat) (hn : 2 ≤ n ∧ n ≤ 11) (f : PS (PS (Zm m))) (hL : lawB m (Tb n f) = true) (a b : PS (Zm m)) (ha : a.c 0 = 0) (hb : b.c 0 = 0) :
    PureCall Tryz.prog 254 [PlD m o p n f, .list o2 2 [dint m, .list o1 1 (ints (L n a)), dint m, .list o3 1 (ints (L n b))]] (dint 0) := by
  have q1 := c_IsSeries o1 m (L n a) (by simp; omega)
  have q2 := c_IsSeries o3 m (L n b) (by simp; omega)
  rw [serB_LX hm hn a] at q1
  rw [serB_LX hm hn b] at q2
  have hA := c_allS2A 166 o2 o1 o3 m (L n a) m (L n b) q1 q2
  have r1 := c_isCurveOf o p o1 m (Tb n f) m (L n a) (serB_LX hm hn a) (by simp; omega)
  have r2 := c_isCurveOf o p o3 m (Tb n f) m (L n b) (serB_LX hm hn b) (by simp; omega)
  rw [fitB_L hn ha] at r1
  rw [fitB_L hn hb] at r2
  have hB := c_allS2B 379 o2 o1 o3 m (L n a) m (L n b) m o p (Tb n f) r1 r2
  have hI := c_IsLaw o p m (Tb n f) (by simp; omega) (lensOk_Tb (by omega) f)
  rw [hL] at hI
  refine pure_of_vcR Tryz.tabOk mixOrd Tryz.func254 rfl rfl ?_
  conv => whnf
  repeat' first | ((first | refine z0 ?_ | (apply zI; refine zP (hI) ?_) | (apply zI; refine zP (hA) ?_) | (apply zI; refine zP (hB) ?_) | (refine And.intro (fun h => ?_) (fun h => ?_) <;> (try simp only [cnt1, ints_length, rows_length, Tb_length, L_length, byts_length] at h) <;> first | (exfalso; first | omega | exact h trivial | (cases h; done)) | skip) | refine zS ?_ | refine zV ?_ | (apply zI; refine zP vObt ?_) | (apply zI; refine zP vObx ?_) | refine zA ?_ | refine Alt.fst ?_ | refine Or.inl ?_) <;> conv => whnf) | fail
theorem c_implSumUnderY (hm : Md m) (o p o1 o3 : Bool) (n : Nat) (hn : 2 ≤ n ∧ n ≤ 11) (f : PS (PS (Zm m))) (hL : lawB m (Tb n f) = true) (a b : PS (Zm m)) (ha : a.c 0 = 0) (hb : b.c 0 = 0) :
    PureCall Tryz.prog 79 [PlD m o p n f, SerD m o1 n a, SerD m o3 n b] (.tup [SerD m true n (putS f a b n), dint 0]) := by
  have h0 := fun o1 o2 o3 => c_curved2 hm o p o1 o2 o3 n hn f hL a b ha hb
  refine pure_of_vcR Tryz.tabOk mixOrd Tryz.func79 rfl rfl ?_
  conv => whnf
  repeat' first | ((first | refine z0 ?_ | (apply zI; refine zP (h0 _ _ _) ?_) | (apply zI; refine zP (c_curves hm _ _ _ _ n (by omega) f a b) ?_) | (apply zI; refine zP ((show sub [dint m, D.list false 1 (ints (L n a)), dint m, D.list false 1 (ints (L n b))] 2 0 2 = [dint m, D.list false 1 (ints (L n a)), dint m, D.list false 1 (ints (L n b))] from rfl)) ?_) | (refine And.intro (fun h => ?_) (fun h => ?_) <;> (try simp only [cnt1, ints_length, rows_length, Tb_length, L_length, byts_length] at h) <;> first | (exfalso; first | omega | exact h trivial | (cases h; done)) | skip) | refine zS ?_ | refine zV ?_ | (apply zI; refine zP vObt ?_) | (apply zI; refine zP vObx ?_) | refine zA ?_ | refine And.intro ((show 2 * 2 ≤ 4 by omega)) ?_ | refine Alt.fst ?_ | refine Or.inl ?_) <;> conv => whnf) | fail
theorem c_implOppositeUnderY (hm : Md m) (o p o1 : Bool) (n : Nat) (hn : 2 ≤ n ∧ n ≤ 11) (f : PS (PS (Zm m))) (hL : lawB m (Tb n f) = true) (a : PS (Zm m)) (ha : a.c 0 = 0) :
    PureCall Tryz.prog 78 [PlD m o p n f, SerD m o1 n a] (.tup [SerD m true n (compN (ivS n f) a 0 n), dint 0]) := by
  have h0 := fun o1 o2 => c_curvedY hm o p o1 o2 n hn f hL a ha
  refine pure_of_vcR Tryz.tabOk mixOrd Tryz.func78 rfl rfl ?_
  conv => whnf
  repeat' first | ((first | refine z0 ?_ | (apply zI; refine zP (h0 _ _) ?_) | (apply zI; refine zP (c_oppositeP hm _ _ _ n (by omega) f a) ?_) | (apply zI; refine zP ((show sub [dint m, D.list false 1 (ints (L n a))] 2 0 1 = [dint m, D.list false 1 (ints (L n a))] from rfl)) ?_) | (refine And.intro (fun h => ?_) (fun h => ?_) <;> (try simp only [cnt1, ints_length, rows_length, Tb_length, L_length, byts_length] at h) <;> first | (exfalso; first | omega | exact h trivial | (cases h; done)) | skip) | refine zS ?_ | refine zV ?_ | (apply zI; refine zP vObt ?_) | (apply zI; refine zP vObx ?_) | refine zA ?_ | refine And.intro ((show 1 * 2 ≤ 2 by omega)) ?_ | refine Alt.fst ?_ | refine Or.inl ?_) <;> conv => whnf) | fail
theorem c_implMultipleUnderY (hm : Md m) (o p o1 : Bool) (n : Nat) (hn : 2 ≤ n ∧ n ≤ 11) (f : PS (PS (Zm m))) (hL : lawB m (Tb n f) = true) (a : PS (Zm m)) (ha : a.c 0 = 0) (k : Int) (hk : -1000000 ≤ k ∧ k ≤ 1000000) (r : PS (Zm m)) (hr : MulZ f n k a r) :
    PureCall Tryz.prog 74 [PlD m o p n f, dint k, SerD m o1 n a] (.tup [SerD m true n r, dint 0]) := by
  have h0 := fun o1 o2 => c_curvedY hm o p o1 o2 n hn f hL a ha
  have h1 := c_isMultiple k
  rw [show inB k (-1000000) 1000000 = true by simp [inB, hk]] at h1
  refine pure_of_vcR Tryz.tabOk mixOrd Tryz.func74 rfl rfl ?_
  conv => whnf
  repeat' first | ((first | refine z0 ?_ | (apply zI; refine zP (h0 _ _) ?_) | (apply zI; refine zP (h1) ?_) | (apply zI; refine zP (c_multipleZ hm _ _ _ n (by omega) f a k hk r hr) ?_) | (apply zI; refine zP ((show sub [dint m, D.list false 1 (ints (L n a))] 2 0 1 = [dint m, D.list false 1 (ints (L n a))] from rfl)) ?_) | (refine And.intro (fun h => ?_) (fun h => ?_) <;> (try simp only [cnt1, ints_length, rows_length, Tb_length, L_length, byts_length] at h) <;> first | (exfalso; first | omega | exact h trivial | (cases h; done)) | skip) | refine zS ?_ | refine zV ?_ | (apply zI; refine zP vObt ?_) | (apply zI; refine zP vObx ?_) | refine zA ?_ | refine And.intro ((show 1 * 2 ≤ 2 by omega)) ?_ | refine Alt.fst ?_ | refine Or.inl ?_) <;> conv => whnf) | fail
end Go.Proofs

