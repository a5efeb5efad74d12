/- The law of powers in the dual algebra. -/
-- tables
-- rec
import Derived.Test.YtllcbelphabdpaaK53
namespace Go.Proofs
open Go Go.Vm Go.Fg Go.Fg.PS
set_option maxRecDepth 100000
set_option maxHeartbeats 4000000
set_option linter.unusedSimpArgs false
set_option linter.unusedVariables false
theorem c_FnExactDualPower (m : Int) (t : List (List Int)) (u : List Int) (e : Int) (_ : -9223372036854775808 ≤ m ∧ m ≤ 9223372036854775807) (g : (∀ k, k < t.length → (t.getD k []).length ≤ 9223372036854775807) ∧ t.length ≤ 9223372036854775807) (g1 : u.length ≤ 9223372036854775807) (he : -9223372036854775808 ≤ e ∧ e ≤ 9223372036854775807) : PureCall Try.prog 4 [.agg [dint m, .list false 1 (rows false t)], .list false 1 (ints u), dint e] (dbool true) := by
  have hT := szT_le (n := 1048576) (t := t) (by omega)
  refine pure_of_vcR Try.tabOk mixOrd Try.func4 rfl rfl ?_
  conv => whnf
  repeat' first
    | (refine And.intro (Or.inl rfl) ?_; conv => whnf)
    | (refine Or.inl (Or.inl (Exists.intro _ (And.intro (c_szPlane _ _ _ t _ (by omega) g.2 g.1) ?_))); conv => whnf)
    | (refine Or.inl (Exists.intro _ (And.intro (c_szPlane _ _ _ t _ (by omega) g.2 g.1) ?_)); conv => whnf)
    | (apply Exists.intro; refine And.intro (c_szPlane _ _ _ t _ (by omega) g.2 g.1) ?_; conv => whnf)
    | (refine And.intro (fun h => ?_) (fun h => ?_) <;> (try simp only [cnt1, ints_length] at h) <;> first | (exfalso; omega) | (conv => whnf))
    | (refine And.intro (show slotsOk _ = true by decide +kernel) ?_; conv => whnf)
    | (refine And.intro vOb ?_; conv => whnf)
    | (apply Exists.intro; refine And.intro vObt ?_; conv => whnf)
    | (apply Exists.intro; refine And.intro vObx ?_; conv => whnf)
    | (refine And.intro vArT ?_; conv => whnf)
    | (refine Or.inl ?_; conv => whnf)
    | fail
  have hA : ¬ szT 1048576 t < 0 := by assumption
  obtain ⟨hl, hr⟩ := szT_ok (by omega) hA
  have htot : totL t ≤ 1048576 := by unfold szT at hA; split at hA <;> omega
  have h1 : u.length ≤ 1048576 := by
    have : ¬ (1048576 : Int) < u.length := by assumption
    omega
  have e1 := c_specDualPower false true false m t u e he hl hr h1
  have e3 := c_implDualPower false true false m t u e he hl hr h1
  by_cases hc : elCK m t u e = 0
  · rw [dpRes, if_pos hc] at e1 e3
    have hq : rkT m t ≤ 11 := by
      have h4 : kC m t = 0 := by
        have h5 : elC1 m t u = 0 := by
          unfold elCK at hc
          split at hc
          · assumption
          · exact hc
        unfold elC1 at h5
        split at h5
        · assumption
        · exact h5
      obtain ⟨hk, hht, hq1, hq2⟩ := kC_0 h4
      obtain ⟨hp, hlw⟩ := lawB_pl (htC_0 hht).1
      obtain ⟨hm, h2, h3, _⟩ := plB_md hp
      have : rkT m t < t.length := rkOf_lt (by omega)
      omega
    generalize dpw (rd2 m t) (rd m u) (rkT m t) (e - 1).toNat = w at *
    generalize rkT m t = q at *
    repeat' first
      | (refine And.intro (Or.inl rfl) ?_; conv => whnf)
      | (refine Or.inl (Or.inl (Exists.intro _ (And.intro (c_toPlane _ _ _ _ hl hr) ?_))); conv => whnf)
      | (refine Or.inl (Exists.intro _ (And.intro (c_toPlane _ _ _ _ hl hr) ?_)); conv => whnf)
      | (apply Exists.intro; refine And.intro (c_toPlane _ _ _ _ hl hr) ?_; conv => whnf)
      | (refine Or.inl (Or.inl (Exists.intro _ (And.intro (c_toInt64S _ _ h1) ?_))); conv => whnf)
      | (refine Or.inl (Exists.intro _ (And.intro (c_toInt64S _ _ h1) ?_)); conv => whnf)
      | (apply Exists.intro; refine And.intro (c_toInt64S _ _ h1) ?_; conv => whnf)
      | (refine Or.inl (Or.inl (Exists.intro _ (And.intro (e1) ?_))); conv => whnf)
      | (refine Or.inl (Exists.intro _ (And.intro (e1) ?_)); conv => whnf)
      | (apply Exists.intro; refine And.intro (e1) ?_; conv => whnf)
      | (refine Or.inl (Or.inl (Exists.intro _ (And.intro (e3) ?_))); conv => whnf)
      | (refine Or.inl (Exists.intro _ (And.intro (e3) ?_)); conv => whnf)
      | (apply Exists.intro; refine And.intro (e3) ?_; conv => whnf)
      | (refine Or.inl (Or.inl (Exists.intro _ (And.intro (c_eqInt64S _ _ _ _ (by simp; omega)) ?_))); conv => whnf)
      | (refine Or.inl (Exists.intro _ (And.intro (c_eqInt64S _ _ _ _ (by simp; omega)) ?_)); conv => whnf)
      | (apply Exists.intro; refine And.intro (c_eqInt64S _ _ _ _ (by simp; omega)) ?_; conv => whnf)
      | (refine Or.inl (Or.inl (Exists.intro _ (And.intro (c_eqInt64S _ _ _ _ h1) ?_))); conv => whnf)
      | (refine Or.inl (Exists.intro _ (And.intro (c_eqInt64S _ _ _ _ h1) ?_)); conv => whnf)
      | (apply Exists.intro; refine And.intro (c_eqInt64S _ _ _ _ h1) ?_; conv => whnf)
      | (refine Or.inl (Or.inl (Exists.intro _ (And.intro (c_eqPlane _ _ _ _ _ _ _ _ hl hr) ?_))); conv => whnf)
      | (refine Or.inl (Exists.intro _ (And.intro (c_eqPlane _ _ _ _ _ _ _ _ hl hr) ?_)); conv => whnf)
      | (apply Exists.intro; refine And.intro (c_eqPlane _ _ _ _ _ _ _ _ hl hr) ?_; conv => whnf)
      | (refine Or.inr (inl_ofR Try.tabOk mixOrd _ Try.func17 rfl rfl ?_); conv => whnf)
      | (refine Or.inr (inlMarkT rfl vAr vAr ⟨vAr, vAr⟩ ?_); conv => whnf)
      | (refine Or.inr (inlMark rfl vAr ⟨vAr, vAr⟩ ?_); conv => whnf)
      | (refine Or.inl (Or.inl (Exists.intro _ (And.intro (c_heldInt64S _ _ _ ⟨vAr, vAr⟩) ?_))); conv => whnf)
      | (refine Or.inl (Exists.intro _ (And.intro (c_heldInt64S _ _ _ ⟨vAr, vAr⟩) ?_)); conv => whnf)
      | (apply Exists.intro; refine And.intro (c_heldInt64S _ _ _ ⟨vAr, vAr⟩) ?_; conv => whnf)
      | (refine Or.inl (Or.inl (Exists.intro _ (And.intro (sub_rows vArS) ?_))); conv => whnf)
      | (refine Or.inl (Exists.intro _ (And.intro (sub_rows vArS) ?_)); conv => whnf)
      | (apply Exists.intro; refine And.intro (sub_rows vArS) ?_; conv => whnf)
      | (refine And.intro (fun h => ?_) (fun h => ?_) <;> (try simp only [cnt1, ints_length] at h) <;> conv => whnf)
      | (refine And.intro (show slotsOk _ = true by decide +kernel) ?_; conv => whnf)
      | (refine And.intro vOb ?_; conv => whnf)
      | (apply Exists.intro; refine And.intro vObt ?_; conv => whnf)
      | (apply Exists.intro; refine And.intro vObx ?_; conv => whnf)
      | (refine And.intro vArT ?_; conv => whnf)
      | (refine And.intro (vArS) ?_; conv => whnf)
      | (refine Or.inl ?_; conv => whnf)
      | fail
    all_goals (exfalso; first | omega | (simp_all; done) | (simp_all; omega))
  · rw [dpRes, if_neg hc] at e1 e3
    repeat' first
      | (refine And.intro (Or.inl rfl) ?_; conv => whnf)
      | (refine Or.inl (Or.inl (Exists.intro _ (And.intro (c_toPlane _ _ _ _ hl hr) ?_))); conv => whnf)
      | (refine Or.inl (Exists.intro _ (And.intro (c_toPlane _ _ _ _ hl hr) ?_)); conv => whnf)
      | (apply Exists.intro; refine And.intro (c_toPlane _ _ _ _ hl hr) ?_; conv => whnf)
      | (refine Or.inl (Or.inl (Exists.intro _ (And.intro (c_toInt64S _ _ h1) ?_))); conv => whnf)
      | (refine Or.inl (Exists.intro _ (And.intro (c_toInt64S _ _ h1) ?_)); conv => whnf)
      | (apply Exists.intro; refine And.intro (c_toInt64S _ _ h1) ?_; conv => whnf)
      | (refine Or.inl (Or.inl (Exists.intro _ (And.intro (e1) ?_))); conv => whnf)
      | (refine Or.inl (Exists.intro _ (And.intro (e1) ?_)); conv => whnf)
      | (apply Exists.intro; refine And.intro (e1) ?_; conv => whnf)
      | (refine Or.inl (Or.inl (Exists.intro _ (And.intro (e3) ?_))); conv => whnf)
      | (refine Or.inl (Exists.intro _ (And.intro (e3) ?_)); conv => whnf)
      | (apply Exists.intro; refine And.intro (e3) ?_; conv => whnf)
      | (refine Or.inl (Or.inl (Exists.intro _ (And.intro (c_eqNil) ?_))); conv => whnf)
      | (refine Or.inl (Exists.intro _ (And.intro (c_eqNil) ?_)); conv => whnf)
      | (apply Exists.intro; refine And.intro (c_eqNil) ?_; conv => whnf)
      | (refine Or.inl (Or.inl (Exists.intro _ (And.intro (c_eqInt64S _ _ _ _ h1) ?_))); conv => whnf)
      | (refine Or.inl (Exists.intro _ (And.intro (c_eqInt64S _ _ _ _ h1) ?_)); conv => whnf)
      | (apply Exists.intro; refine And.intro (c_eqInt64S _ _ _ _ h1) ?_; conv => whnf)
      | (refine Or.inl (Or.inl (Exists.intro _ (And.intro (c_eqPlane _ _ _ _ _ _ _ _ hl hr) ?_))); conv => whnf)
      | (refine Or.inl (Exists.intro _ (And.intro (c_eqPlane _ _ _ _ _ _ _ _ hl hr) ?_)); conv => whnf)
      | (apply Exists.intro; refine And.intro (c_eqPlane _ _ _ _ _ _ _ _ hl hr) ?_; conv => whnf)
      | (refine Or.inr (inl_ofR Try.tabOk mixOrd _ Try.func17 rfl rfl ?_); conv => whnf)
      | (refine Or.inr (inlMarkT rfl vAr vAr ⟨vAr, vAr⟩ ?_); conv => whnf)
      | (refine Or.inr (inlMark rfl vAr ⟨vAr, vAr⟩ ?_); conv => whnf)
      | (refine Or.inl (Or.inl (Exists.intro _ (And.intro (c_markNil _ vAr) ?_))); conv => whnf)
      | (refine Or.inl (Exists.intro _ (And.intro (c_markNil _ vAr) ?_)); conv => whnf)
      | (apply Exists.intro; refine And.intro (c_markNil _ vAr) ?_; conv => whnf)
      | (refine Or.inl (Or.inl (Exists.intro _ (And.intro (c_heldNil _ vAr) ?_))); conv => whnf)
      | (refine Or.inl (Exists.intro _ (And.intro (c_heldNil _ vAr) ?_)); conv => whnf)
      | (apply Exists.intro; refine And.intro (c_heldNil _ vAr) ?_; conv => whnf)
      | (refine Or.inl (Or.inl (Exists.intro _ (And.intro (sub_rows vArS) ?_))); conv => whnf)
      | (refine Or.inl (Exists.intro _ (And.intro (sub_rows vArS) ?_)); conv => whnf)
      | (apply Exists.intro; refine And.intro (sub_rows vArS) ?_; conv => whnf)
      | (refine And.intro (fun h => ?_) (fun h => ?_) <;> (try simp only [cnt1, ints_length] at h) <;> conv => whnf)
      | (refine And.intro (show slotsOk _ = true by decide +kernel) ?_; conv => whnf)
      | (refine And.intro vOb ?_; conv => whnf)
      | (apply Exists.intro; refine And.intro vObt ?_; conv => whnf)
      | (apply Exists.intro; refine And.intro vObx ?_; conv => whnf)
      | (refine And.intro vArT ?_; conv => whnf)
      | (refine And.intro (vArS) ?_; conv => whnf)
      | (refine Or.inl ?_; conv => whnf)
      | fail
    all_goals (exfalso; first | omega | (simp_all; done) | (simp_all; omega))
end Go.Proofs

