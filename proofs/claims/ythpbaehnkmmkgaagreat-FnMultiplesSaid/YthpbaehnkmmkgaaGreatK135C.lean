/- The law of Weierstrass of the reference, third part. -/
-- tables
-- rec
import Derived.Test.YthpbaehnkmmkgaaGreatK135B
namespace Go.Proofs
open Go Go.Vm Go.Fg Go.Fg.PS
set_option maxRecDepth 100000
set_option maxHeartbeats 4000000
set_option linter.unusedSimpArgs false
set_option linter.unusedVariables false
variable {m : Int}
theorem sgLd (hm : Md m) (i : Nat) : LoadRow [dint 1, dint (m - 1)] [] (place 1 0 ((i : Int).tmod 2).toNat) (dint ((sgS : PS (Zm m)).c i).val) := by
  have h1 : (1 : Int) = (1 : Zm m).val := (Zm.val_one (by have := hm.1; omega)).symm
  have e : ((i : Int).tmod 2).toNat = i % 2 := by rw [Int.tmod_eq_emod_of_nonneg (by omega)]; omega
  refine ⟨_, rfl, ?_⟩
  unfold place sgS
  rw [e]
  rcases Nat.mod_two_eq_zero_or_one i with h | h
  · rw [h]; simp only [if_pos h, ← h1]; rfl
  · rw [h]; simp only [if_neg (show ¬i % 2 = 0 by omega), ← neg_one_val hm]; rfl
noncomputable def wstC (hm : Md m) (o : Bool) (n : Nat) (hn : 2 ≤ n ∧ n ≤ 11) {d : Int} (hd : d + 1 = n) (a : PS (Zm m)) (F : PS (PS (Zm m))) : (R : Prop) ×' (Hold R → (wstB hm o n hn hd a F).1) := by
  have hm1 := hm.1
  have hm2 := hm.2
  apply PSigma.mk
  intro h0
  conv => whnf
  refine loop_cutR Tryz.tabOk mixOrd 26 (α := Nat) (fun i => [(7, .ref 0 [] 1 0 (n + 1)), (8, .undef), (11, .ref 2 [] 1 0 n), (12, .undef), (13, .undef), (14, .undef), (15, .undef), (16, .ref 18 [] 1 0 n), (17, .ref 24 [] 1 0 n), (18, .ref 25 [] 1 0 i), (19, dint i)]) (fun i => [(25, some ⟨false, 1, ints (L i (sgS : PS (Zm m)))⟩)]) (fun i => i ≤ n) (fun i => n - i) (0) ?_ ?_ ?_
  · omega
  · conv => whnf
    first | refine WeakS.autoR ?_ | refine Weak.autoR ?_
    conv => whnf
    repeat' ((first | refine z1 ?_ | refine z2 ?_ | refine zV ?_ | refine And.intro vRepl ?_ | refine And.intro vReplL ?_ | refine And.intro ?_ ?_ | exact trivial) <;> try (conv => whnf))
    all_goals first | rfl
  intro i hi
  conv => whnf
  repeat' first | ((refine Exists.intro (dint ((sgS : PS (Zm m)).c i).val) (And.intro (sgLd hm i) ?_); conv => whnf)) | ((first | refine z0 ?_ | (refine And.intro (fun h => ?_) (fun h => ?_) <;> (try simp only [cnt1, ints_length] at h) <;> first | (exfalso; omega) | skip) | refine zS ?_ | refine zV ?_ | (apply zI; refine zP vObt ?_) | (apply zI; refine zP vObx ?_) | refine zA ?_ | refine Alt.fst ?_ | refine Or.inl ?_) <;> conv => whnf) | fail
  · have hin : i < n := vAr
    refine Exists.intro (i + 1) (And.intro vAr (And.intro vAr ?_))
    first | refine WeakS.autoR ?_ | refine Weak.autoR ?_
    conv => whnf
    repeat' ((first | refine z1 ?_ | refine z2 ?_ | refine zV ?_ | refine And.intro vRepl ?_ | refine And.intro vReplL ?_ | refine And.intro ?_ ?_ | exact trivial) <;> try (conv => whnf))
    all_goals first
      | omega
      | exact ints_congr' (L_push rfl)
  have hin : n = i := by omega
  subst hin
  repeat' first | ((first | refine z0 ?_ | (apply zI; refine zP (c_l03After hm _ _ _ n (by omega) n (by omega) sgS (wB2 n a)) ?_) | (apply zI; refine zP (c_l03Times hm _ _ _ _ n vAr (wT4 n a) (comp2N sgS (wB2 n a) 0 n)) ?_) | (apply zI; refine zP (c_l03Turn _ _ n (by omega) (upd2 0 1 0 1)) ?_) | (apply zI; refine zP (c_l03Add hm _ _ _ _ n vAr _ _) ?_) | (apply zI; refine zP (c_l03Scale hm _ _ n vAr (-1) (neg_one_val hm) _) ?_) | (refine And.intro (fun h => ?_) (fun h => ?_) <;> (try simp only [cnt1, ints_length] at h)) | refine zS ?_ | refine zV ?_ | (apply zI; refine zP vObt ?_) | (apply zI; refine zP vObx ?_) | refine zA ?_ | refine Alt.fst ?_ | refine Or.inl ?_) <;> conv => whnf) | fail
  rw [show wT4 n a * comp2N sgS (wB2 n a) 0 n = wQ n a from rfl]
  rw [show PS.C (PS.C (-1)) * (upd2 0 1 0 1 + turn (upd2 0 1 0 1) + wQ n a) = wU n a from rfl]
  exact h0.out
end Go.Proofs

