/- The laws of characteristic series from values, and of Hirzebruch's series. -/
import Derived.Test.YtbpiacnadjfkhaaK11
import Derived.Test.YtbpiacnadjfkhaaKM
namespace Go.Proofs
open Go Go.Vm Go.Fg Go.Fg.PS
set_option maxRecDepth 100000
set_option maxHeartbeats 4000000
set_option linter.unusedSimpArgs false
set_option linter.unusedVariables false
variable {m : Int}
theorem c_FnExactCharacteristicOfGenera (m : Int) (l : List Int) (_ : -9223372036854775808 ≤ m ∧ m ≤ 9223372036854775807) (hl : l.length ≤ 9223372036854775807) : PureCall Try.prog 13 [dint m, .list false 1 (ints l)] (dbool true) := by
  refine pure_of_vc Try.tabOk mixOrd Try.func13 rfl rfl ?_
  conv => whnf
  repeat' first
    | (refine And.intro (Or.inl rfl) ?_; conv => whnf)
    | (refine And.intro (fun h => ?_) (fun h => ?_) <;> (try simp only [cnt1, ints_length] at h) <;> conv => whnf)
    | (refine And.intro (show slotsOk _ = true by decide +kernel) ?_; conv => whnf)
    | (refine And.intro vOb ?_; conv => whnf)
    | (apply Exists.intro; refine And.intro vObx ?_; conv => whnf)
    | fail
    | fail
    | (refine Or.inl ?_; conv => whnf)
    | fail
  have hl' : l.length ≤ 1048576 := vAr
  have e1 := c_specCharacteristicOfGenera false m l hl'
  have e3 := c_implCharacteristicOfGenera false m l hl'
  by_cases hc : codeG m l = 0
  · rw [serRes, if_pos hc] at e1 e3
    repeat' first
      | (refine And.intro (Or.inl rfl) ?_; conv => whnf)
      | (refine Or.inl (Or.inl (Exists.intro _ (And.intro (c_toInt64S _ _ hl') ?_))); conv => whnf)
      | (refine Or.inl (Exists.intro _ (And.intro (c_toInt64S _ _ hl') ?_)); conv => whnf)
      | (apply Exists.intro; refine And.intro (c_toInt64S _ _ hl') ?_; conv => whnf)
      | (refine Or.inl (Or.inl (Exists.intro _ (And.intro (e1) ?_))); conv => whnf)
      | (refine Or.inl (Exists.intro _ (And.intro (e1) ?_)); conv => whnf)
      | (apply Exists.intro; refine And.intro (e1) ?_; conv => whnf)
      | (refine Or.inl (Or.inl (Exists.intro _ (And.intro (e3) ?_))); conv => whnf)
      | (refine Or.inl (Exists.intro _ (And.intro (e3) ?_)); conv => whnf)
      | (apply Exists.intro; refine And.intro (e3) ?_; conv => whnf)
      | (refine Or.inl (Or.inl (Exists.intro _ (And.intro (c_eqInt64S _ _ _ _ hl') ?_))); conv => whnf)
      | (refine Or.inl (Exists.intro _ (And.intro (c_eqInt64S _ _ _ _ hl') ?_)); conv => whnf)
      | (apply Exists.intro; refine And.intro (c_eqInt64S _ _ _ _ hl') ?_; conv => whnf)
      | (refine Or.inl (Or.inl (Exists.intro _ (And.intro (c_eqSeries _ _ _ _ _ _ (by simp; omega)) ?_))); conv => whnf)
      | (refine Or.inl (Exists.intro _ (And.intro (c_eqSeries _ _ _ _ _ _ (by simp; omega)) ?_)); conv => whnf)
      | (apply Exists.intro; refine And.intro (c_eqSeries _ _ _ _ _ _ (by simp; omega)) ?_; conv => whnf)
      | (refine Or.inr (inl_of Try.tabOk mixOrd _ Try.func31 rfl rfl ?_); conv => whnf)
      | (refine Or.inr (inlMark rfl vAr ⟨vAr, vAr⟩ ?_); conv => whnf)
      | (refine Or.inl (Or.inl (Exists.intro _ (And.intro (c_heldSeries _ _ _ _ ⟨vAr, vAr⟩) ?_))); conv => whnf)
      | (refine Or.inl (Exists.intro _ (And.intro (c_heldSeries _ _ _ _ ⟨vAr, vAr⟩) ?_)); conv => whnf)
      | (apply Exists.intro; refine And.intro (c_heldSeries _ _ _ _ ⟨vAr, vAr⟩) ?_; conv => whnf)
      | (refine And.intro (fun h => ?_) (fun h => ?_) <;> (try simp only [cnt1, ints_length] at h) <;> conv => whnf)
      | (refine And.intro (show slotsOk _ = true by decide +kernel) ?_; conv => whnf)
      | (refine And.intro vOb ?_; conv => whnf)
      | (apply Exists.intro; refine And.intro vObx ?_; conv => whnf)
      | fail
      | fail
      | (refine Or.inl ?_; conv => whnf)
      | fail
    all_goals (exfalso; first | omega | (simp_all; done) | (simp_all; omega))
  · rw [serRes, if_neg hc] at e1 e3
    repeat' first
      | (refine And.intro (Or.inl rfl) ?_; conv => whnf)
      | (refine Or.inl (Or.inl (Exists.intro _ (And.intro (c_toInt64S _ _ hl') ?_))); conv => whnf)
      | (refine Or.inl (Exists.intro _ (And.intro (c_toInt64S _ _ hl') ?_)); conv => whnf)
      | (apply Exists.intro; refine And.intro (c_toInt64S _ _ hl') ?_; conv => whnf)
      | (refine Or.inl (Or.inl (Exists.intro _ (And.intro (e1) ?_))); conv => whnf)
      | (refine Or.inl (Exists.intro _ (And.intro (e1) ?_)); conv => whnf)
      | (apply Exists.intro; refine And.intro (e1) ?_; conv => whnf)
      | (refine Or.inl (Or.inl (Exists.intro _ (And.intro (e3) ?_))); conv => whnf)
      | (refine Or.inl (Exists.intro _ (And.intro (e3) ?_)); conv => whnf)
      | (apply Exists.intro; refine And.intro (e3) ?_; conv => whnf)
      | (refine Or.inl (Or.inl (Exists.intro _ (And.intro (c_eqSeriesNil) ?_))); conv => whnf)
      | (refine Or.inl (Exists.intro _ (And.intro (c_eqSeriesNil) ?_)); conv => whnf)
      | (apply Exists.intro; refine And.intro (c_eqSeriesNil) ?_; conv => whnf)
      | (refine Or.inl (Or.inl (Exists.intro _ (And.intro (c_eqInt64S _ _ _ _ hl') ?_))); conv => whnf)
      | (refine Or.inl (Exists.intro _ (And.intro (c_eqInt64S _ _ _ _ hl') ?_)); conv => whnf)
      | (apply Exists.intro; refine And.intro (c_eqInt64S _ _ _ _ hl') ?_; conv => whnf)
      | (refine Or.inr (inl_of Try.tabOk mixOrd _ Try.func31 rfl rfl ?_); conv => whnf)
      | (refine Or.inr (inlMark rfl vAr ⟨vAr, vAr⟩ ?_); conv => whnf)
      | (refine Or.inl (Or.inl (Exists.intro _ (And.intro (c_markNil _ vAr) ?_))); conv => whnf)
      | (refine Or.inl (Exists.intro _ (And.intro (c_markNil _ vAr) ?_)); conv => whnf)
      | (apply Exists.intro; refine And.intro (c_markNil _ vAr) ?_; conv => whnf)
      | (refine Or.inl (Or.inl (Exists.intro _ (And.intro (c_heldSeriesNil _ vAr) ?_))); conv => whnf)
      | (refine Or.inl (Exists.intro _ (And.intro (c_heldSeriesNil _ vAr) ?_)); conv => whnf)
      | (apply Exists.intro; refine And.intro (c_heldSeriesNil _ vAr) ?_; conv => whnf)
      | (refine And.intro (fun h => ?_) (fun h => ?_) <;> (try simp only [cnt1, ints_length] at h) <;> conv => whnf)
      | (refine And.intro (show slotsOk _ = true by decide +kernel) ?_; conv => whnf)
      | (refine And.intro vOb ?_; conv => whnf)
      | (apply Exists.intro; refine And.intro vObx ?_; conv => whnf)
      | fail
      | fail
      | (refine Or.inl ?_; conv => whnf)
      | fail
    all_goals (exfalso; first | omega | (simp_all; done) | (simp_all; omega))
theorem c_FnExactHirzebruchSeries (m d y : Int) (hm0 : -9223372036854775808 ≤ m ∧ m ≤ 9223372036854775807) (hd0 : -9223372036854775808 ≤ d ∧ d ≤ 9223372036854775807) (hy0 : -9223372036854775808 ≤ y ∧ y ≤ 9223372036854775807) : PureCall Try.prog 12 [dint m, dint d, dint y] (dbool true) := by
  have e1 := c_specHirzebruchSeries m d y hm0 hd0 hy0
  have e3 := c_implHirzebruchSeries m d y hm0 hd0 hy0
  have hlen : codeH m d y = 0 → 1 ≤ d ∧ d ≤ 9 := fun h => by
    unfold codeH at h
    split at h
    · split at h
      · have hb : inB d 1 9 = true := by assumption
        simpa [inB] using hb
      · omega
    · contradiction
  refine pure_of_vc Try.tabOk mixOrd Try.func12 rfl rfl ?_
  conv => whnf
  by_cases hc : codeH m d y = 0
  · have hl := hlen hc
    rw [serRes, if_pos hc] at e1 e3
    repeat' first
      | (refine And.intro (Or.inl rfl) ?_; conv => whnf)
      | (refine Or.inl (Or.inl (Exists.intro _ (And.intro (e1) ?_))); conv => whnf)
      | (refine Or.inl (Exists.intro _ (And.intro (e1) ?_)); conv => whnf)
      | (apply Exists.intro; refine And.intro (e1) ?_; conv => whnf)
      | (refine Or.inl (Or.inl (Exists.intro _ (And.intro (e3) ?_))); conv => whnf)
      | (refine Or.inl (Exists.intro _ (And.intro (e3) ?_)); conv => whnf)
      | (apply Exists.intro; refine And.intro (e3) ?_; conv => whnf)
      | (refine Or.inl (Or.inl (Exists.intro _ (And.intro (c_eqSeries _ _ _ _ _ _ (by simp; omega)) ?_))); conv => whnf)
      | (refine Or.inl (Exists.intro _ (And.intro (c_eqSeries _ _ _ _ _ _ (by simp; omega)) ?_)); conv => whnf)
      | (apply Exists.intro; refine And.intro (c_eqSeries _ _ _ _ _ _ (by simp; omega)) ?_; conv => whnf)
      | (refine Or.inr (inl_of Try.tabOk mixOrd _ Try.func31 rfl rfl ?_); conv => whnf)
      | (refine Or.inr (inlMark rfl vAr ⟨vAr, vAr⟩ ?_); conv => whnf)
      | (refine Or.inl (Or.inl (Exists.intro _ (And.intro (c_heldSeries _ _ _ _ ⟨vAr, vAr⟩) ?_))); conv => whnf)
      | (refine Or.inl (Exists.intro _ (And.intro (c_heldSeries _ _ _ _ ⟨vAr, vAr⟩) ?_)); conv => whnf)
      | (apply Exists.intro; refine And.intro (c_heldSeries _ _ _ _ ⟨vAr, vAr⟩) ?_; conv => whnf)
      | (refine And.intro (fun h => ?_) (fun h => ?_) <;> (try simp only [cnt1, ints_length] at h) <;> conv => whnf)
      | (refine And.intro (show slotsOk _ = true by decide +kernel) ?_; conv => whnf)
      | (refine And.intro vOb ?_; conv => whnf)
      | (apply Exists.intro; refine And.intro vObx ?_; conv => whnf)
      | fail
      | fail
      | (refine Or.inl ?_; conv => whnf)
      | fail
    all_goals (exfalso; first | omega | (simp_all; done) | (simp_all; omega))
  · rw [serRes, if_neg hc] at e1 e3
    repeat' first
      | (refine And.intro (Or.inl rfl) ?_; conv => whnf)
      | (refine Or.inl (Or.inl (Exists.intro _ (And.intro (e1) ?_))); conv => whnf)
      | (refine Or.inl (Exists.intro _ (And.intro (e1) ?_)); conv => whnf)
      | (apply Exists.intro; refine And.intro (e1) ?_; conv => whnf)
      | (refine Or.inl (Or.inl (Exists.intro _ (And.intro (e3) ?_))); conv => whnf)
      | (refine Or.inl (Exists.intro _ (And.intro (e3) ?_)); conv => whnf)
      | (apply Exists.intro; refine And.intro (e3) ?_; conv => whnf)
      | (refine Or.inl (Or.inl (Exists.intro _ (And.intro (c_eqSeriesNil) ?_))); conv => whnf)
      | (refine Or.inl (Exists.intro _ (And.intro (c_eqSeriesNil) ?_)); conv => whnf)
      | (apply Exists.intro; refine And.intro (c_eqSeriesNil) ?_; conv => whnf)
      | (refine Or.inr (inl_of Try.tabOk mixOrd _ Try.func31 rfl rfl ?_); conv => whnf)
      | (refine Or.inr (inlMark rfl vAr ⟨vAr, vAr⟩ ?_); conv => whnf)
      | (refine Or.inl (Or.inl (Exists.intro _ (And.intro (c_markNil _ vAr) ?_))); conv => whnf)
      | (refine Or.inl (Exists.intro _ (And.intro (c_markNil _ vAr) ?_)); conv => whnf)
      | (apply Exists.intro; refine And.intro (c_markNil _ vAr) ?_; conv => whnf)
      | (refine Or.inl (Or.inl (Exists.intro _ (And.intro (c_heldSeriesNil _ vAr) ?_))); conv => whnf)
      | (refine Or.inl (Exists.intro _ (And.intro (c_heldSeriesNil _ vAr) ?_)); conv => whnf)
      | (apply Exists.intro; refine And.intro (c_heldSeriesNil _ vAr) ?_; conv => whnf)
      | (refine And.intro (fun h => ?_) (fun h => ?_) <;> (try simp only [cnt1, ints_length] at h) <;> conv => whnf)
      | (refine And.intro (show slotsOk _ = true by decide +kernel) ?_; conv => whnf)
      | (refine And.intro vOb ?_; conv => whnf)
      | (apply Exists.intro; refine And.intro vObx ?_; conv => whnf)
      | fail
      | fail
      | (refine Or.inl ?_; conv => whnf)
      | fail
    all_goals (exfalso; first | omega | (simp_all; done) | (simp_all; omega))
end Go.Proofs

