/- The law of Weierstrass of the reference, second part. -/
-- tables
-- rec
import Derived.Test.YthpbaehnkmmkgaaGreatK135A
namespace Go.Proofs
open Go Go.Vm Go.Fg Go.Fg.PS
set_option maxRecDepth 100000
set_option maxHeartbeats 4000000
set_option linter.unusedSimpArgs false
set_option linter.unusedVariables false
variable {m : Int}
noncomputable def wstB (hm : Md m) (o : Bool) (n : Nat) (hn : 2 ≤ n ∧ n ≤ 11) {d : Int} (hd : d + 1 = n) (a : PS (Zm m)) (F : PS (PS (Zm m))) : (R : Prop) ×' (Hold R → (wstA hm o n hn hd a F).1) := by
  have hm1 := hm.1
  have hm2 := hm.2
  apply PSigma.mk
  intro h0
  conv => whnf
  intro i hi
  conv => whnf
  have hZ1 : m - 1 = (-1 : Zm m).val := neg_one_val hm
  have hx3 := Zm.val_range hm.pos (a.c (Int.toNat 3))
  have hx4 := Zm.val_range hm.pos (a.c (Int.toNat 4))
  repeat' first | ((first | refine z0 ?_ | (apply zI; refine zP (c_l03Times hm _ _ _ _ n vAr _ _) ?_) | (apply zI; refine zP (c_l03Add hm _ _ _ _ n vAr _ _) ?_) | (apply zI; refine zP (c_l03Scale hm _ _ n vAr (-1) hZ1 _) ?_) | (refine And.intro (fun h => ?_) (fun h => ?_) <;> (try simp only [cnt1, ints_length] at h)) | refine zS ?_ | refine zV ?_ | (apply zI; refine zP vObt ?_) | (apply zI; refine zP vObx ?_) | refine zA ?_ | refine Alt.fst ?_ | refine Or.inl ?_) <;> conv => whnf) | fail
  · have hin : i < n := vAr
    refine Exists.intro (i + 1) (And.intro vAr (And.intro vAr ?_))
    first | refine WeakS.autoR ?_ | refine Weak.autoR ?_
    conv => whnf
    repeat' ((first | refine z1 ?_ | refine z2 ?_ | refine zV ?_ | refine And.intro vRepl ?_ | refine And.intro vReplL ?_ | refine And.intro ?_ ?_ | exact trivial) <;> try (conv => whnf))
    all_goals first
      | exact rows_congr (setT_eq ((w0 n a).c i) rfl (by omega) (Ag2.of_eq rfl))
  have hin : n = i := by omega
  subst hin
  rw [show frT (w0 n a) n + PS.C (PS.C (-1)) * (wLN n a * upd2 0 1 0 1) = wVv n a from rfl]
  rw [show wLN n a * wLN n a = wSQ n a from rfl]
  repeat' first | ((first | refine z0 ?_ | (apply zI; refine zP (c_l03Scale hm _ _ n vAr (a.c 0) rfl _) ?_) | (apply zI; refine zP (c_l03Scale hm _ _ n vAr (a.c 1) rfl _) ?_) | (apply zI; refine zP (c_l03Add hm _ _ _ _ n vAr _ _) ?_) | (refine And.intro (fun h => ?_) (fun h => ?_) <;> (try simp only [cnt1, ints_length] at h)) | refine zS ?_ | refine zV ?_ | (apply zI; refine zP vObt ?_) | (apply zI; refine zP vObx ?_) | refine zA ?_ | refine Alt.fst ?_ | refine Or.inl ?_) <;> conv => whnf) | fail
  rw [show PS.C (PS.C (a.c 0)) * wLN n a + PS.C (PS.C (a.c 1)) * wVv n a = wT1 n a from rfl]
  repeat' first | ((first | refine z0 ?_ | (apply zI; refine zP (c_l03Scale hm _ _ n vAr (a.c 2) rfl _) ?_) | (apply zI; refine zP (c_l03Add hm _ _ _ _ n vAr _ _) ?_) | (apply zI; refine zP (c_l03Times hm _ _ _ _ n vAr _ _) ?_) | (refine And.intro (fun h => ?_) (fun h => ?_) <;> (try simp only [cnt1, ints_length] at h)) | refine zS ?_ | refine zV ?_ | (apply zI; refine zP vObt ?_) | (apply zI; refine zP vObx ?_) | refine zA ?_ | refine And.intro ((inR64 (by omega) (by omega))) ?_ | refine Alt.fst ?_ | refine Or.inl ?_) <;> conv => whnf) | fail
  rw [show wT1 n a + PS.C (PS.C (a.c 2)) * wSQ n a = wT2 n a from rfl]
  rw [show wLN n a * wVv n a = wLV n a from rfl]
  repeat' first | ((first | refine z0 ?_ | (apply zI; refine zP (c_l03Scale hm _ _ n vAr (Zm.mk m (2 * (a.c (Int.toNat 3)).val)) (tm_mk hm (by omega)) _) ?_) | (apply zI; refine zP (c_l03Add hm _ _ _ _ n vAr _ _) ?_) | (apply zI; refine zP (c_l03Times hm _ _ _ _ n vAr _ _) ?_) | (refine And.intro (fun h => ?_) (fun h => ?_) <;> (try simp only [cnt1, ints_length] at h)) | refine zS ?_ | refine zV ?_ | (apply zI; refine zP vObt ?_) | (apply zI; refine zP vObx ?_) | refine zA ?_ | refine And.intro ((inR64 (by omega) (by omega))) ?_ | refine Alt.fst ?_ | refine Or.inl ?_) <;> conv => whnf) | fail
  rw [show wT2 n a + PS.C (PS.C (Zm.mk m (2 * (a.c (Int.toNat 3)).val))) * wLV n a = wT3 n a from rfl]
  rw [show wSQ n a * wVv n a = wSV n a from rfl]
  repeat' first | ((first | refine z0 ?_ | (apply zI; refine zP (c_l03Scale hm _ _ n vAr (Zm.mk m (3 * (a.c (Int.toNat 4)).val)) (tm_mk hm (by omega)) _) ?_) | (apply zI; refine zP (c_l03Add hm _ _ _ _ n vAr _ _) ?_) | (refine And.intro (fun h => ?_) (fun h => ?_) <;> (try simp only [cnt1, ints_length] at h)) | refine zS ?_ | refine zV ?_ | (apply zI; refine zP vObt ?_) | (apply zI; refine zP vObx ?_) | refine zA ?_ | refine Alt.fst ?_ | refine Or.inl ?_) <;> conv => whnf) | fail
  rw [show wT3 n a + PS.C (PS.C (Zm.mk m (3 * (a.c (Int.toNat 4)).val))) * wSV n a = wT4 n a from rfl]
  repeat' first | ((first | refine z0 ?_ | (apply zI; refine zP (c_l03Scale hm _ _ n vAr (a.c 1) rfl _) ?_) | (apply zI; refine zP (c_l03Scale hm _ _ n vAr (a.c 3) rfl _) ?_) | (apply zI; refine zP (c_l03Add hm _ _ _ _ n vAr _ _) ?_) | (apply zI; refine zP (c_l03Times hm _ _ _ _ n vAr _ _) ?_) | (refine And.intro (fun h => ?_) (fun h => ?_) <;> (try simp only [cnt1, ints_length] at h)) | refine zS ?_ | refine zV ?_ | (apply zI; refine zP vObt ?_) | (apply zI; refine zP vObx ?_) | refine zA ?_ | refine Alt.fst ?_ | refine Or.inl ?_) <;> conv => whnf) | fail
  rw [show PS.C (PS.C (a.c 1)) * wLN n a + PS.C (PS.C (a.c 3)) * wSQ n a = wB1 n a from rfl]
  rw [show wSQ n a * wLN n a = wSL n a from rfl]
  repeat' first | ((first | refine z0 ?_ | (apply zI; refine zP (c_l03Scale hm _ _ n vAr (a.c 4) rfl _) ?_) | (apply zI; refine zP (c_l03Add hm _ _ _ _ n vAr _ _) ?_) | (refine And.intro (fun h => ?_) (fun h => ?_) <;> (try simp only [cnt1, ints_length] at h)) | refine zS ?_ | refine zV ?_ | (apply zI; refine zP vObt ?_) | (apply zI; refine zP vObx ?_) | refine zA ?_ | refine Alt.fst ?_ | refine Or.inl ?_) <;> conv => whnf) | fail
  rw [show wB1 n a + PS.C (PS.C (a.c 4)) * wSL n a = wB2 n a from rfl]
  exact h0.out
end Go.Proofs

