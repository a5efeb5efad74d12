/- Typical curves: the law. -/
-- tables
-- rec
import Derived.Test.YtllcbelphabdpaaK69
namespace Go.Proofs
open Go Go.Vm Go.Fg Go.Fg.PS
set_option maxRecDepth 100000
set_option maxHeartbeats 4000000
set_option linter.unusedSimpArgs false
set_option linter.unusedVariables false
theorem c_FnExactIsTypicalCurve (m : Int) (t : List (List Int)) (ma : Int) (l : List Int) (n : Int) (_ : -9223372036854775808 ≤ m ∧ m ≤ 9223372036854775807) (g : (∀ k, k < t.length → (t.getD k []).length ≤ 9223372036854775807) ∧ t.length ≤ 9223372036854775807)
    (_ : -9223372036854775808 ≤ ma ∧ ma ≤ 9223372036854775807) (g1 : l.length ≤ 9223372036854775807) (he : -9223372036854775808 ≤ n ∧ n ≤ 9223372036854775807) : PureCall Try.prog 5 [.agg [dint m, .list false 1 (rows false t)], .agg [dint ma, .list false 1 (ints l)], dint n] (dbool true) := by
  have hT := szT_le (n := 1048576) (t := t) (by omega)
  refine pure_of_vcR Try.tabOk mixOrd Try.func5 rfl rfl ?_
  conv => whnf
  repeat' first
    | (refine And.intro (Or.inl rfl) ?_; conv => whnf)
    | (refine Or.inl (Or.inl (Exists.intro _ (And.intro (c_szPlane _ _ _ t _ (by omega) g.2 g.1) ?_))); conv => whnf)
    | (refine Or.inl (Exists.intro _ (And.intro (c_szPlane _ _ _ t _ (by omega) g.2 g.1) ?_)); conv => whnf)
    | (apply Exists.intro; refine And.intro (c_szPlane _ _ _ t _ (by omega) g.2 g.1) ?_; conv => whnf)
    | (refine Or.inl (Or.inl (Exists.intro _ (And.intro (c_szSeries _ _ l _ (by omega) g1) ?_))); conv => whnf)
    | (refine Or.inl (Exists.intro _ (And.intro (c_szSeries _ _ l _ (by omega) g1) ?_)); conv => whnf)
    | (apply Exists.intro; refine And.intro (c_szSeries _ _ l _ (by omega) g1) ?_; conv => whnf)
    | (refine And.intro (fun h => ?_) (fun h => ?_) <;> (try simp only [cnt1, ints_length] at h) <;> first | (exfalso; omega) | (conv => whnf))
    | (refine And.intro (show slotsOk _ = true by decide +kernel) ?_; conv => whnf)
    | (refine And.intro vOb ?_; conv => whnf)
    | (apply Exists.intro; refine And.intro vObt ?_; conv => whnf)
    | (apply Exists.intro; refine And.intro vObx ?_; conv => whnf)
    | (refine And.intro vArT ?_; conv => whnf)
    | (refine Or.inl ?_; conv => whnf)
    | fail
  have hA : ¬ szT 1048576 t < 0 := by assumption
  obtain ⟨hl, hr⟩ := szT_ok (by omega) hA
  have htot : totL t ≤ 1048576 := by unfold szT at hA; split at hA <;> omega
  have h1 : l.length ≤ 1048576 := by
    have hB : ¬ (if szT 1048576 t - (l.length : Int) < 0 then -1 else szT 1048576 t - (l.length : Int)) < 0 := by assumption
    split at hB <;> omega
  have e1 := c_specIsTypicalCurve false true false m t ma l n hl hr h1
  have e3 := c_implIsTypicalCurve false true false m t ma l n hl hr h1
  unfold tyR at e1 e3
  generalize (decide (tyC (cuC m t ma l) n = 0) && prL.all (tyO m t l n)) = b at *
  generalize tyC (cuC m t ma l) n = q at *
  repeat' first
    | (refine And.intro (Or.inl rfl) ?_; conv => whnf)
    | (refine Or.inl (Or.inl (Exists.intro _ (And.intro (c_toPlane _ _ _ _ hl hr) ?_))); conv => whnf)
    | (refine Or.inl (Exists.intro _ (And.intro (c_toPlane _ _ _ _ hl hr) ?_)); conv => whnf)
    | (apply Exists.intro; refine And.intro (c_toPlane _ _ _ _ hl hr) ?_; conv => whnf)
    | (refine Or.inl (Or.inl (Exists.intro _ (And.intro (c_toSeries _ _ _ h1) ?_))); conv => whnf)
    | (refine Or.inl (Exists.intro _ (And.intro (c_toSeries _ _ _ h1) ?_)); conv => whnf)
    | (apply Exists.intro; refine And.intro (c_toSeries _ _ _ h1) ?_; conv => whnf)
    | (refine Or.inl (Or.inl (Exists.intro _ (And.intro (e1) ?_))); conv => whnf)
    | (refine Or.inl (Exists.intro _ (And.intro (e1) ?_)); conv => whnf)
    | (apply Exists.intro; refine And.intro (e1) ?_; conv => whnf)
    | (refine Or.inl (Or.inl (Exists.intro _ (And.intro (e3) ?_))); conv => whnf)
    | (refine Or.inl (Exists.intro _ (And.intro (e3) ?_)); conv => whnf)
    | (apply Exists.intro; refine And.intro (e3) ?_; conv => whnf)
    | (refine Or.inl (Or.inl (Exists.intro _ (And.intro (c_eqSeries _ _ _ _ _ _ h1) ?_))); conv => whnf)
    | (refine Or.inl (Exists.intro _ (And.intro (c_eqSeries _ _ _ _ _ _ h1) ?_)); conv => whnf)
    | (apply Exists.intro; refine And.intro (c_eqSeries _ _ _ _ _ _ h1) ?_; conv => whnf)
    | (refine Or.inl (Or.inl (Exists.intro _ (And.intro (c_eqPlane _ _ _ _ _ _ _ _ hl hr) ?_))); conv => whnf)
    | (refine Or.inl (Exists.intro _ (And.intro (c_eqPlane _ _ _ _ _ _ _ _ hl hr) ?_)); conv => whnf)
    | (apply Exists.intro; refine And.intro (c_eqPlane _ _ _ _ _ _ _ _ hl hr) ?_; conv => whnf)
    | (refine And.intro (fun h => ?_) (fun h => ?_) <;> (try simp only [cnt1, ints_length] at h) <;> conv => whnf)
    | (refine And.intro (show slotsOk _ = true by decide +kernel) ?_; conv => whnf)
    | (refine And.intro vOb ?_; conv => whnf)
    | (apply Exists.intro; refine And.intro vObt ?_; conv => whnf)
    | (apply Exists.intro; refine And.intro vObx ?_; conv => whnf)
    | (refine And.intro vArT ?_; conv => whnf)
    | (refine Or.inl ?_; conv => whnf)
    | fail
  all_goals (exfalso; first | omega | (simp_all; done) | (simp_all; omega))
end Go.Proofs

