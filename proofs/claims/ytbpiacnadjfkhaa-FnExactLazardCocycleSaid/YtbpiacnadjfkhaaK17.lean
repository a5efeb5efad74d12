/- The law of Lazard's cocycle. -/
-- tables
import Derived.Test.YtbpiacnadjfkhaaK16
import Derived.Test.YtbpiacnadjfkhaaKT
namespace Go.Proofs
open Go Go.Vm Go.Fg Go.Fg.PS
set_option maxRecDepth 100000
set_option maxHeartbeats 4000000
set_option linter.unusedSimpArgs false
set_option linter.unusedVariables false
variable {m : Int}
theorem c_FnExactLazardCocycle (m n : Int) (_ : -9223372036854775808 ≤ m ∧ m ≤ 9223372036854775807) (_ : -9223372036854775808 ≤ n ∧ n ≤ 9223372036854775807) : PureCall Try.prog 3 [dint m, dint n] (dbool true) := by
  have e1 := c_specLazardCocycle m n
  have e3 := c_implLazardCocycle m n
  refine pure_of_vc Try.tabOk mixOrd Try.func3 rfl rfl ?_
  conv => whnf
  by_cases hc : lazCode m n = 0
  · have hl : 2 ≤ n ∧ n ≤ 10 := by
      unfold lazCode at hc
      split at hc
      · split at hc
        · have hb : inB n 2 10 = true := by assumption
          simpa [inB] using hb
        · omega
      · omega
    rw [plRes, if_pos hc] at e1 e3
    generalize topP n.toNat (fun i => Zm.mk m (lazV n.toNat i)) = f at e1 e3
    obtain ⟨N, hN⟩ : ∃ N, n.toNat + 1 = N := ⟨_, rfl⟩
    rw [hN] at e1 e3
    have hN2 : N ≤ 11 := by omega
    have htot := totL_Tb (n := N) f
    have htot2 : totL (Tb N f) ≤ 121 := Nat.le_trans htot (Nat.mul_le_mul hN2 hN2)
    repeat' first
      | (refine And.intro (Or.inl rfl) ?_; conv => whnf)
      | (refine Or.inl (Or.inl (Exists.intro _ (And.intro (e1) ?_))); conv => whnf)
      | (refine Or.inl (Exists.intro _ (And.intro (e1) ?_)); conv => whnf)
      | (apply Exists.intro; refine And.intro (e1) ?_; conv => whnf)
      | (refine Or.inl (Or.inl (Exists.intro _ (And.intro (e3) ?_))); conv => whnf)
      | (refine Or.inl (Exists.intro _ (And.intro (e3) ?_)); conv => whnf)
      | (apply Exists.intro; refine And.intro (e3) ?_; conv => whnf)
      | (refine Or.inl (Or.inl (Exists.intro _ (And.intro (c_eqPlane _ _ _ _ _ _ _ _ vAr (lensOk_Tb vAr _)) ?_))); conv => whnf)
      | (refine Or.inl (Exists.intro _ (And.intro (c_eqPlane _ _ _ _ _ _ _ _ vAr (lensOk_Tb vAr _)) ?_)); conv => whnf)
      | (apply Exists.intro; refine And.intro (c_eqPlane _ _ _ _ _ _ _ _ vAr (lensOk_Tb vAr _)) ?_; conv => whnf)
      | (refine Or.inr (inl_of Try.tabOk mixOrd _ Try.func18 rfl rfl ?_); conv => whnf)
      | (refine Or.inr (inlMarkT rfl vAr vAr ⟨vAr, vAr⟩ ?_); conv => whnf)
      | (refine Or.inl (Or.inl (Exists.intro _ (And.intro (c_heldPlane _ _ _ _ _ vAr ⟨vAr, vAr⟩) ?_))); conv => whnf)
      | (refine Or.inl (Exists.intro _ (And.intro (c_heldPlane _ _ _ _ _ vAr ⟨vAr, vAr⟩) ?_)); conv => whnf)
      | (apply Exists.intro; refine And.intro (c_heldPlane _ _ _ _ _ vAr ⟨vAr, vAr⟩) ?_; conv => whnf)
      | (refine Or.inl (Or.inl (Exists.intro _ (And.intro (sub_rows vArS) ?_))); conv => whnf)
      | (refine Or.inl (Exists.intro _ (And.intro (sub_rows vArS) ?_)); conv => whnf)
      | (apply Exists.intro; refine And.intro (sub_rows vArS) ?_; conv => whnf)
      | (refine And.intro (fun h => ?_) (fun h => ?_) <;> (try simp only [cnt1, ints_length] at h) <;> conv => whnf)
      | (refine And.intro (show slotsOk _ = true by decide +kernel) ?_; conv => whnf)
      | (refine And.intro vOb ?_; conv => whnf)
      | (apply Exists.intro; refine And.intro vObt ?_; conv => whnf)
      | (apply Exists.intro; refine And.intro vObx ?_; conv => whnf)
      | (refine And.intro vArT ?_; conv => whnf)
      | (refine And.intro (vArS) ?_; conv => whnf)
      | (refine Or.inl ?_; conv => whnf)
      | fail
    all_goals (exfalso; first | omega | (simp_all; done) | (simp_all; omega))
  · rw [plRes, if_neg hc] at e1 e3
    repeat' first
      | (refine And.intro (Or.inl rfl) ?_; conv => whnf)
      | (refine Or.inl (Or.inl (Exists.intro _ (And.intro (e1) ?_))); conv => whnf)
      | (refine Or.inl (Exists.intro _ (And.intro (e1) ?_)); conv => whnf)
      | (apply Exists.intro; refine And.intro (e1) ?_; conv => whnf)
      | (refine Or.inl (Or.inl (Exists.intro _ (And.intro (e3) ?_))); conv => whnf)
      | (refine Or.inl (Exists.intro _ (And.intro (e3) ?_)); conv => whnf)
      | (apply Exists.intro; refine And.intro (e3) ?_; conv => whnf)
      | (refine Or.inl (Or.inl (Exists.intro _ (And.intro (c_eqPlaneNil) ?_))); conv => whnf)
      | (refine Or.inl (Exists.intro _ (And.intro (c_eqPlaneNil) ?_)); conv => whnf)
      | (apply Exists.intro; refine And.intro (c_eqPlaneNil) ?_; conv => whnf)
      | (refine Or.inr (inl_of Try.tabOk mixOrd _ Try.func18 rfl rfl ?_); conv => whnf)
      | (refine Or.inl (Or.inl (Exists.intro _ (And.intro (c_markNilT _ vAr) ?_))); conv => whnf)
      | (refine Or.inl (Exists.intro _ (And.intro (c_markNilT _ vAr) ?_)); conv => whnf)
      | (apply Exists.intro; refine And.intro (c_markNilT _ vAr) ?_; conv => whnf)
      | (refine Or.inl (Or.inl (Exists.intro _ (And.intro (c_heldPlaneNil _ vAr) ?_))); conv => whnf)
      | (refine Or.inl (Exists.intro _ (And.intro (c_heldPlaneNil _ vAr) ?_)); conv => whnf)
      | (apply Exists.intro; refine And.intro (c_heldPlaneNil _ vAr) ?_; conv => whnf)
      | (refine And.intro (fun h => ?_) (fun h => ?_) <;> (try simp only [cnt1, ints_length] at h) <;> conv => whnf)
      | (refine And.intro (show slotsOk _ = true by decide +kernel) ?_; conv => whnf)
      | (refine And.intro vOb ?_; conv => whnf)
      | (apply Exists.intro; refine And.intro vObt ?_; conv => whnf)
      | (apply Exists.intro; refine And.intro vObx ?_; conv => whnf)
      | (refine And.intro vArT ?_; conv => whnf)
      | (refine Or.inl ?_; conv => whnf)
      | fail
    all_goals (exfalso; first | omega | (simp_all; done) | (simp_all; omega))
end Go.Proofs

