/- Values on Milnor's hypersurfaces. -/
-- tables
import Derived.Test.YthpbaehnkmmkgaaGreatK14
namespace Go.Proofs
open Go Go.Vm Go.Fg Go.Fg.PS
set_option maxRecDepth 100000
set_option maxHeartbeats 4000000
set_option linter.unusedSimpArgs false
set_option linter.unusedVariables false
variable {m : Int}
def milT (a : PS (Zm m)) (i j x y : Nat) : Zm m := (pw a (i + 1)).c x * (pw a (j + 1)).c y * milW (inv (invN m (a.c 0).val) a) (i - x) (j - y)
def milRow (a : PS (Zm m)) (i j x : Nat) : Zm m := sm (j + 1) (milT a i j x)
theorem milT_0 (a : PS (Zm m)) {i j x y : Nat} (h : i - x + (j - y) = 0) : milT a i j x y = 0 := by
  unfold milT milW; rw [if_pos h, Go.Fg.mul_zero]
theorem milT_c (a : PS (Zm m)) {i j x y : Nat} (h : 1 ≤ i - x + (j - y)) : milT a i j x y = (pw a (i + 1)).c x * (pw a (j + 1)).c y * ((inv (invN m (a.c 0).val) a).c (i - x + (j - y) - 1) * Zm.mk m (bin (i - x + (j - y)) (i - x))) := by
  unfold milT milW; rw [if_neg (by omega)]
theorem c_specMilL (hm : Md m) (o : Bool) (N : Nat) (hN : 2 ≤ N ∧ N ≤ 11) (a : PS (Zm m)) (hc : charB m (L N a) = true) (i j : Nat) (hij : 1 ≤ i + j ∧ i + j ≤ N) :
    PureCall Tryz.prog 37 [SerD m o N a, dint i, dint j] (.tup [dint (milV a i j).val, dint 0]) := by
  have hm1 := hm.1
  have hm2 := hm.2
  have hc' : (serB m (L N a) && decide ((L N a).getD 0 0 = 1)) = true := hc
  refine pure_of_vc Tryz.tabOk mixOrd Tryz.func37 rfl rfl ?_
  conv => whnf
  repeat' first | ((first | refine z0 ?_ | (apply zI; refine zP (c_l19Is _ _ _ vAr) ?_) | (apply zI; refine zP (c_l02Degree _ _ _ vAr) ?_) | (apply zI; refine zP (c_l01In _ _ _) ?_) | (refine And.intro (fun h => ?_) (fun h => ?_) <;> (try simp only [cnt1, ints_length] at h)) | refine zS ?_ | refine zV ?_ | (apply zI; refine zP vObt ?_) | (apply zI; refine zP vObx ?_) | refine zA ?_ | refine Alt.fst ?_ | refine Or.inl ?_) <;> conv => whnf) | fail
  all_goals try (exfalso; first | omega | (simp_all [inB]; done) | (simp_all [inB]; omega))
  repeat' first | ((first | refine z0 ?_ | (apply zI; refine zP (c_l02Power' hm _ N N vAr vAr vAr vAr a (i + 1) vAr vAr) ?_) | (apply zI; refine zP (c_l02Power' hm _ N N vAr vAr vAr vAr a (j + 1) vAr vAr) ?_) | (apply zI; refine zP (c_l02InverseU hm _ N N vAr vAr vAr vAr _) ?_) | (refine And.intro (fun h => ?_) (fun h => ?_) <;> (try simp only [cnt1, ints_length] at h)) | refine zS ?_ | refine zV ?_ | (apply zI; refine zP vObt ?_) | (apply zI; refine zP vObx ?_) | refine zA ?_ | refine Alt.fst ?_ | refine Or.inl ?_) <;> conv => whnf) | fail
  refine loop_at Tryz.tabOk mixOrd (α := Nat) (fun x => [(13, dint (sm x (milRow a i j)).val), (14, dint x)]) (fun x => []) (fun x => x ≤ i + 1) (fun x => i + 1 - x) (0) ?_ ?_ ?_
  · omega
  · conv => whnf
    first | refine WeakS.auto ?_ | refine Weak.auto ?_
    conv => whnf
    repeat' ((first | refine z1 ?_ | refine z2 ?_ | refine zV ?_ | refine And.intro vRepl ?_ | refine And.intro vReplL ?_ | refine And.intro ?_ ?_ | exact trivial) <;> try (conv => whnf))
    all_goals exact Zm.val_zero.symm
  intro x hx
  conv => whnf
  repeat' first | ((first | refine z0 ?_ | (refine And.intro (fun h => ?_) (fun h => ?_) <;> (try simp only [cnt1, ints_length] at h)) | refine zS ?_ | refine zV ?_ | (apply zI; refine zP vObt ?_) | (apply zI; refine zP vObx ?_) | refine zA ?_ | refine Alt.fst ?_ | refine Or.inl ?_) <;> conv => whnf) | fail
  · refine loop_at Tryz.tabOk mixOrd (α := Nat) (fun y => [(13, dint (sm x (milRow a i j) + sm y (milT a i j x)).val), (15, dint y)]) (fun y => []) (fun y => y ≤ j + 1) (fun y => j + 1 - y) (0) ?_ ?_ ?_
    · omega
    · conv => whnf
      first | refine WeakS.auto ?_ | refine Weak.auto ?_
      conv => whnf
      repeat' ((first | refine z1 ?_ | refine z2 ?_ | refine zV ?_ | refine And.intro vRepl ?_ | refine And.intro vReplL ?_ | refine And.intro ?_ ?_ | exact trivial) <;> try (conv => whnf))
      all_goals rw [show sm 0 (milT a i j x) = 0 from rfl, Go.Fg.add_zero]
    intro y hy
    conv => whnf
    repeat' first | ((first | refine z0 ?_ | (refine And.intro (fun h => ?_) (fun h => ?_) <;> (try simp only [cnt1, ints_length] at h)) | refine zS ?_ | refine zV ?_ | (apply zI; refine zP vObt ?_) | (apply zI; refine zP vObx ?_) | refine zA ?_ | refine Alt.fst ?_ | refine Or.inl ?_) <;> conv => whnf) | fail
    · refine Exists.intro (y + 1) (And.intro vAr (And.intro vAr ?_))
      first | refine WeakS.auto ?_ | refine Weak.auto ?_
      conv => whnf
      repeat' ((first | refine z1 ?_ | refine z2 ?_ | refine zV ?_ | refine And.intro vRepl ?_ | refine And.intro vReplL ?_ | refine And.intro ?_ ?_ | exact trivial) <;> try (conv => whnf))
      rw [sm_succ, milT_0 a (by omega), Go.Fg.add_zero]
    · exfalso; simp only [L_length] at *; omega
    · exfalso; simp only [L_length] at *; omega
    · have hcut : x ≤ i ∧ y ≤ j ∧ 1 ≤ i - x + (j - y) ∧ i - x + (j - y) ≤ 60 ∧ x < N ∧ y < N ∧ i - x + (j - y) - 1 < N := by simp only [L_length] at *; omega
      repeat' first | ((first | refine z0 ?_ | (apply zI; refine zP (c_l01Binomial' (i - x + (j - y)) (i - x) (by omega) (by omega) (by omega)) ?_) | (refine And.intro (fun h => ?_) (fun h => ?_) <;> (try simp only [cnt1, ints_length] at h)) | refine zS ?_ | refine zV ?_ | (apply zI; refine zP vObt ?_) | (apply zI; refine zP vObx ?_) | refine zA ?_ | refine Alt.fst ?_ | refine Or.inl ?_) <;> conv => whnf) | fail
      rw [show ((i : Int) - x + j - y - 1).toNat = i - x + (j - y) - 1 by omega, show ((bin (i - x + (j - y)) (i - x) : Nat) : Int).tmod m = (Zm.mk m (bin (i - x + (j - y)) (i - x) : Nat)).val from Zm.tmod_val (by omega) rfl]
      repeat' first | ((first | refine z0 ?_ | (refine And.intro (fun h => ?_) (fun h => ?_) <;> (try simp only [cnt1, ints_length] at h)) | refine zS ?_ | refine zV ?_ | (apply zI; refine zP vObt ?_) | (apply zI; refine zP vObx ?_) | refine zA ?_ | refine Alt.fst ?_ | refine Or.inl ?_) <;> conv => whnf) | fail
      rw [tm_mul hm, tm_mul hm]
      repeat' first | ((first | refine z0 ?_ | (refine And.intro (fun h => ?_) (fun h => ?_) <;> (try simp only [cnt1, ints_length] at h)) | refine zS ?_ | refine zV ?_ | (apply zI; refine zP vObt ?_) | (apply zI; refine zP vObx ?_) | refine zA ?_ | refine Alt.fst ?_ | refine Or.inl ?_) <;> conv => whnf) | fail
      refine Exists.intro (y + 1) (And.intro vAr (And.intro vAr ?_))
      first | refine WeakS.auto ?_ | refine Weak.auto ?_
      conv => whnf
      repeat' ((first | refine z1 ?_ | refine z2 ?_ | refine zV ?_ | refine And.intro vRepl ?_ | refine And.intro vReplL ?_ | refine And.intro ?_ ?_ | exact trivial) <;> try (conv => whnf))
      rw [tm_mulA hm, sm_succ, milT_c a (by omega), CR.add_assoc]
    · refine Exists.intro (x + 1) (And.intro vAr (And.intro vAr ?_))
      first | refine WeakS.auto ?_ | refine Weak.auto ?_
      conv => whnf
      repeat' ((first | refine z1 ?_ | refine z2 ?_ | refine zV ?_ | refine And.intro vRepl ?_ | refine And.intro vReplL ?_ | refine And.intro ?_ ?_ | exact trivial) <;> try (conv => whnf))
      rw [show y = j + 1 from vAr, sm_succ]; rfl
  · rw [show x = i + 1 from vAr]; rfl
theorem milB_eq (most i j : Int) : milB most i j = (inB i 0 most && (inB j 0 (most - i) && !decide (i + j < 1))) := by
  rw [Bool.eq_iff_iff]; simp only [milB, inB, Bool.and_eq_true, decide_eq_true_eq, Bool.not_eq_true', decide_eq_false_iff_not]; omega
theorem c_specMilnorGenus (o : Bool) (m : Int) (l : List Int) (hl : l.length ≤ 1048576) (i j : Int) : PureCall Tryz.prog 37 [.agg [dint m, .list o 1 (ints l)], dint i, dint j]
    (.tup [dint (if dimCode m l (milB ((l.length : Int) - 1 + 1) i j) = 0 then (milV (rd m l) i.toNat j.toNat).val else 0), dint (dimCode m l (milB ((l.length : Int) - 1 + 1) i j))]) := by
  by_cases h0 : dimCode m l (milB ((l.length : Int) - 1 + 1) i j) = 0
  · rw [h0, if_pos rfl]
    obtain ⟨hc, hb⟩ := dimCode_0 h0
    have hs := charB_ser hc
    have hlen := serB_len hs
    have hm := serB_md hs
    simp only [milB, inB, Bool.and_eq_true, decide_eq_true_eq] at hb
    obtain ⟨i, rfl⟩ := Int.eq_ofNat_of_zero_le hb.1.1.1
    obtain ⟨j, rfl⟩ := Int.eq_ofNat_of_zero_le hb.1.2.1
    have key := c_specMilL hm o l.length (by omega) (rd m l) (by rw [← serB_L hs]; exact hc) i j (by omega)
    rw [serD_of hs] at key
    exact key
  · rw [if_neg h0]
    refine pure_of_vc Tryz.tabOk mixOrd Tryz.func37 rfl rfl ?_
    conv => whnf
    repeat' first | ((first | refine z0 ?_ | (apply zI; refine zP (c_l19Is _ _ _ hl) ?_) | (apply zI; refine zP (c_l02Degree _ _ _ hl) ?_) | (apply zI; refine zP (c_l01In _ _ _) ?_) | (refine And.intro (fun h => ?_) (fun h => ?_) <;> (try simp only [cnt1, ints_length] at h)) | refine zS ?_ | refine zV ?_ | (apply zI; refine zP vObt ?_) | (apply zI; refine zP vObx ?_) | refine zA ?_ | refine Alt.fst ?_ | refine Or.inl ?_) <;> conv => whnf) | fail
    · have hb : inB i 0 (↑l.length - 1 + 1) = true := by assumption
      simp only [inB, decide_eq_true_eq] at hb
      have hjb : inR .i64 ((l.length : Int) - 1 + 1 - i) := inR64 (by omega) (by omega)
      repeat' first | ((first | refine z0 ?_ | (apply zI; refine zP (c_l19Is _ _ _ hl) ?_) | (apply zI; refine zP (c_l02Degree _ _ _ hl) ?_) | (apply zI; refine zP (c_l01In _ _ _) ?_) | (refine And.intro (fun h => ?_) (fun h => ?_) <;> (try simp only [cnt1, ints_length] at h)) | refine zS ?_ | refine zV ?_ | (apply zI; refine zP vObt ?_) | (apply zI; refine zP vObx ?_) | refine zA ?_ | refine Alt.fst ?_ | refine Or.inl ?_) <;> conv => whnf) | fail
      · have hb2 : inB j 0 (↑l.length - 1 + 1 - i) = true := by assumption
        simp only [inB, decide_eq_true_eq] at hb2
        have hjb2 : inR .i64 (i + j) := inR64 (by omega) (by omega)
        rw [milB_eq] at h0
        repeat' first | ((first | refine z0 ?_ | (refine And.intro (fun h => ?_) (fun h => ?_) <;> (try simp only [cnt1, ints_length] at h)) | refine zS ?_ | refine zV ?_ | (apply zI; refine zP vObt ?_) | (apply zI; refine zP vObx ?_) | refine zA ?_ | refine Alt.fst ?_ | refine Or.inl ?_) <;> conv => whnf) | fail
        · rw [milB_eq]
          refine congrArg (fun x => D.tup [dint 0, dint x]) ?_
          simp_all [dimCode, charB]
        · exfalso; simp_all [dimCode, charB]
      · rw [milB_eq]
        refine congrArg (fun x => D.tup [dint 0, dint x]) ?_
        simp_all [dimCode, charB]
    all_goals (rw [milB_eq]; refine congrArg (fun x => D.tup [dint 0, dint x]) ?_; simp_all [dimCode, charB])
end Go.Proofs

