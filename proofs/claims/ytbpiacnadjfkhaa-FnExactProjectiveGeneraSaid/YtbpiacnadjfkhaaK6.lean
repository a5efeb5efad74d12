/- The laws of products and lists of values on projective spaces. -/
import Derived.Test.YtbpiacnadjfkhaaK5
import Derived.Test.YtbpiacnadjfkhaaKM
namespace Go.Proofs
open Go Go.Vm Go.Fg Go.Fg.PS
set_option maxRecDepth 100000
set_option maxHeartbeats 4000000
set_option linter.unusedSimpArgs false
set_option linter.unusedVariables false

theorem c_FnExactProductOfGenera (m : Int) (l t : List Int) (_ : -9223372036854775808 ≤ m ∧ m ≤ 9223372036854775807) (hl : l.length ≤ 9223372036854775807) (ht0 : t.length ≤ 9223372036854775807) : PureCall Try.prog 5 [.agg [dint m, .list false 1 (ints l)], .list false 1 (ints t)] (dbool true) := by
  refine pure_of_vc Try.tabOk mixOrd Try.func5 rfl rfl ?_
  conv => whnf
  repeat' first
    | (refine And.intro (Or.inl rfl) ?_; conv => whnf)
    | (refine Or.inl (Exists.intro _ (And.intro (c_szSeries _ _ l _ (by omega) hl) ?_)); conv => whnf)
    | (apply Exists.intro; refine And.intro (c_szSeries _ _ l _ (by omega) hl) ?_; conv => whnf)
    | (refine And.intro (fun h => ?_) (fun h => ?_) <;> (try simp only [cnt1, ints_length] at h) <;> conv => whnf)
    | (refine And.intro (show slotsOk _ = true by decide +kernel) ?_; conv => whnf)
    | (refine And.intro vOb ?_; conv => whnf)
    | (apply Exists.intro; refine And.intro vObx ?_; conv => whnf)
    | (refine Or.inl ?_; conv => whnf)
    | fail
  have hl' : l.length ≤ 1048576 := by split at h <;> omega
  have ht : t.length ≤ 1048576 := by omega
  repeat' first
    | (refine And.intro (Or.inl rfl) ?_; conv => whnf)
    | (refine Or.inl (Exists.intro _ (And.intro (c_toSeries _ _ _ hl') ?_)); conv => whnf)
    | (apply Exists.intro; refine And.intro (c_toSeries _ _ _ hl') ?_; conv => whnf)
    | (refine Or.inl (Exists.intro _ (And.intro (c_specProductOfGenera _ _ _ _ _ hl' ht) ?_)); conv => whnf)
    | (apply Exists.intro; refine And.intro (c_specProductOfGenera _ _ _ _ _ hl' ht) ?_; conv => whnf)
    | (refine Or.inl (Exists.intro _ (And.intro (c_implProductOfGenera _ _ _ _ _ hl' ht) ?_)); conv => whnf)
    | (apply Exists.intro; refine And.intro (c_implProductOfGenera _ _ _ _ _ hl' ht) ?_; conv => whnf)
    | (refine Or.inl (Exists.intro _ (And.intro (c_eqSeries _ _ _ _ _ _ hl') ?_)); conv => whnf)
    | (apply Exists.intro; refine And.intro (c_eqSeries _ _ _ _ _ _ hl') ?_; conv => whnf)
    | (refine Or.inl (Exists.intro _ (And.intro (c_toInt64S _ _ ht) ?_)); conv => whnf)
    | (apply Exists.intro; refine And.intro (c_toInt64S _ _ ht) ?_; conv => whnf)
    | (refine Or.inl (Exists.intro _ (And.intro (c_eqInt64S _ _ _ _ ht) ?_)); conv => whnf)
    | (apply Exists.intro; refine And.intro (c_eqInt64S _ _ _ _ ht) ?_; conv => whnf)
    | (refine And.intro (fun h => ?_) (fun h => ?_) <;> (try simp only [cnt1, ints_length] at h) <;> conv => whnf)
    | (refine And.intro (show slotsOk _ = true by decide +kernel) ?_; conv => whnf)
    | (refine And.intro vOb ?_; conv => whnf)
    | (apply Exists.intro; refine And.intro vObx ?_; conv => whnf)
    | (refine Or.inl ?_; conv => whnf)
    | fail
  all_goals (exfalso; simp_all)
theorem c_FnExactProjectiveGenera (m : Int) (l : List Int) (_ : -9223372036854775808 ≤ m ∧ m ≤ 9223372036854775807) (hl : l.length ≤ 9223372036854775807) : PureCall Try.prog 6 [.agg [dint m, .list false 1 (ints l)]] (dbool true) := by
  refine pure_of_vc Try.tabOk mixOrd Try.func6 rfl rfl ?_
  conv => whnf
  repeat' first
    | (refine And.intro (Or.inl rfl) ?_; conv => whnf)
    | (refine Or.inl (Exists.intro _ (And.intro (c_szSeries _ _ l _ (by omega) hl) ?_)); conv => whnf)
    | (apply Exists.intro; refine And.intro (c_szSeries _ _ l _ (by omega) hl) ?_; conv => whnf)
    | (refine And.intro (fun h => ?_) (fun h => ?_) <;> (try simp only [cnt1, ints_length] at h) <;> conv => whnf)
    | (refine And.intro (show slotsOk _ = true by decide +kernel) ?_; conv => whnf)
    | (refine And.intro vOb ?_; conv => whnf)
    | (apply Exists.intro; refine And.intro vObx ?_; conv => whnf)
    | (refine Or.inl ?_; conv => whnf)
    | fail
  have hl' : l.length ≤ 1048576 := by split at h <;> omega
  cases hc : charB m l with
  | true =>
    repeat' first
      | (refine And.intro (Or.inl rfl) ?_; conv => whnf)
      | (refine Or.inl (Exists.intro _ (And.intro (c_toSeries _ _ _ hl') ?_)); conv => whnf)
      | (apply Exists.intro; refine And.intro (c_toSeries _ _ _ hl') ?_; conv => whnf)
      | (refine Or.inl (Exists.intro _ (And.intro (c_specProjectiveGenera _ _ _ hl' hc) ?_)); conv => whnf)
      | (apply Exists.intro; refine And.intro (c_specProjectiveGenera _ _ _ hl' hc) ?_; conv => whnf)
      | (refine Or.inl (Exists.intro _ (And.intro (c_implProjectiveGenera _ _ _ hl' hc) ?_)); conv => whnf)
      | (apply Exists.intro; refine And.intro (c_implProjectiveGenera _ _ _ hl' hc) ?_; conv => whnf)
      | (refine Or.inl (Exists.intro _ (And.intro (c_eqSeries _ _ _ _ _ _ hl') ?_)); conv => whnf)
      | (apply Exists.intro; refine And.intro (c_eqSeries _ _ _ _ _ _ hl') ?_; conv => whnf)
      | (refine Or.inl (Exists.intro _ (And.intro (c_eqInt64S _ _ _ _ (by simp; omega)) ?_)); conv => whnf)
      | (apply Exists.intro; refine And.intro (c_eqInt64S _ _ _ _ (by simp; omega)) ?_; conv => whnf)
      | (refine Or.inr (inl_of Try.tabOk mixOrd _ Try.func31 rfl rfl ?_); conv => whnf)
      | (refine Or.inr (inlMark rfl vAr ⟨vAr, vAr⟩ ?_); conv => whnf)
      | (refine Or.inl (Exists.intro _ (And.intro (c_heldInt64S _ _ _ ⟨vAr, vAr⟩) ?_)); conv => whnf)
      | (apply Exists.intro; refine And.intro (c_heldInt64S _ _ _ ⟨vAr, vAr⟩) ?_; conv => whnf)
      | (refine And.intro (fun h => ?_) (fun h => ?_) <;> (try simp only [cnt1, ints_length] at h) <;> conv => whnf)
      | (refine And.intro (show slotsOk _ = true by decide +kernel) ?_; conv => whnf)
      | (refine And.intro vOb ?_; conv => whnf)
      | (apply Exists.intro; refine And.intro vObx ?_; conv => whnf)
      | (refine Or.inl ?_; conv => whnf)
      | fail
    all_goals (exfalso; first | omega | (simp_all; done) | (simp_all; omega))
  | false =>
    repeat' first
      | (refine And.intro (Or.inl rfl) ?_; conv => whnf)
      | (refine Or.inl (Exists.intro _ (And.intro (c_toSeries _ _ _ hl') ?_)); conv => whnf)
      | (apply Exists.intro; refine And.intro (c_toSeries _ _ _ hl') ?_; conv => whnf)
      | (refine Or.inl (Exists.intro _ (And.intro (c_specProjectiveGenera' _ _ _ hl' hc) ?_)); conv => whnf)
      | (apply Exists.intro; refine And.intro (c_specProjectiveGenera' _ _ _ hl' hc) ?_; conv => whnf)
      | (refine Or.inl (Exists.intro _ (And.intro (c_implProjectiveGenera' _ _ _ hl' hc) ?_)); conv => whnf)
      | (apply Exists.intro; refine And.intro (c_implProjectiveGenera' _ _ _ hl' hc) ?_; conv => whnf)
      | (refine Or.inl (Exists.intro _ (And.intro (c_eqSeries _ _ _ _ _ _ hl') ?_)); conv => whnf)
      | (apply Exists.intro; refine And.intro (c_eqSeries _ _ _ _ _ _ hl') ?_; conv => whnf)
      | (refine Or.inl (Exists.intro _ (And.intro (c_eqNil) ?_)); conv => whnf)
      | (apply Exists.intro; refine And.intro (c_eqNil) ?_; conv => whnf)
      | (refine Or.inr (inl_of Try.tabOk mixOrd _ Try.func31 rfl rfl ?_); conv => whnf)
      | (refine Or.inr (inlMark rfl vAr ⟨vAr, vAr⟩ ?_); conv => whnf)
      | (refine Or.inl (Exists.intro _ (And.intro (c_markNil _ (by omega)) ?_)); conv => whnf)
      | (apply Exists.intro; refine And.intro (c_markNil _ (by omega)) ?_; conv => whnf)
      | (refine Or.inl (Exists.intro _ (And.intro (c_heldNil _ (by omega)) ?_)); conv => whnf)
      | (apply Exists.intro; refine And.intro (c_heldNil _ (by omega)) ?_; conv => whnf)
      | (refine And.intro (fun h => ?_) (fun h => ?_) <;> (try simp only [cnt1, ints_length] at h) <;> conv => whnf)
      | (refine And.intro (show slotsOk _ = true by decide +kernel) ?_; conv => whnf)
      | (refine And.intro vOb ?_; conv => whnf)
      | (apply Exists.intro; refine And.intro vObx ?_; conv => whnf)
      | (refine Or.inl ?_; conv => whnf)
      | fail
    all_goals (exfalso; first | omega | (simp_all; done) | (simp_all; omega))
end Go.Proofs

