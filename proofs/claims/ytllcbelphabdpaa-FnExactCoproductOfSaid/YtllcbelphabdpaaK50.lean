/- Coproducts of the variable: the reference. -/
-- tables
-- rec
import Derived.Test.YtllcbelphabdpaaK49
namespace Go.Proofs
open Go Go.Vm Go.Fg Go.Fg.PS
set_option maxRecDepth 100000
set_option maxHeartbeats 4000000
set_option linter.unusedSimpArgs false
set_option linter.unusedVariables false
theorem c_specCoproductOf (o p : Bool) (m : Int) (t : List (List Int)) (hl : t.length ≤ 1048576) (hr : lensOk t) : PureCall Try.prog 12 [.agg [dint m, .list o 1 (rows p t)]] (coRes m t) := by
  have key := c_l17Code o p m t hl hr
  by_cases h4 : kC m t = 0
  · obtain ⟨hk, hht, hq1, hq2⟩ := kC_0 h4
    obtain ⟨hb, hpr⟩ := htC_0 hht
    obtain ⟨hp, hlw⟩ := lawB_pl hb
    obtain ⟨hm, h2, h3, _⟩ := plB_md hp
    rw [h4, if_pos rfl] at key
    have kp := c_l17Square (m := m) o p t.length (rkT m t) ⟨by omega, by omega, by omega⟩ (rd2 m t) (rfl : ((rkT m t : Nat) : Int) = rkT m t)
    simp only [PlD, plB_T hp] at kp
    refine pure_of_vcR Try.tabOk mixOrd Try.func12 rfl rfl ?_
    conv => whnf
    repeat' first
      | (refine And.intro (Or.inl rfl) ?_; conv => whnf)
      | (refine Or.inl (Or.inl (Exists.intro _ (And.intro (key) ?_))); conv => whnf)
      | (refine Or.inl (Exists.intro _ (And.intro (key) ?_)); conv => whnf)
      | (apply Exists.intro; refine And.intro (key) ?_; conv => whnf)
      | (refine Or.inl (Or.inl (Exists.intro _ (And.intro (kp) ?_))); conv => whnf)
      | (refine Or.inl (Exists.intro _ (And.intro (kp) ?_)); conv => whnf)
      | (apply Exists.intro; refine And.intro (kp) ?_; conv => whnf)
      | (refine And.intro (fun h => ?_) (fun h => ?_) <;> (try simp only [cnt1, ints_length] at h) <;> first | (exfalso; omega) | (conv => whnf))
      | (refine And.intro (show slotsOk _ = true by decide +kernel) ?_; conv => whnf)
      | (refine And.intro vOb ?_; conv => whnf)
      | (apply Exists.intro; refine And.intro vObt ?_; conv => whnf)
      | (apply Exists.intro; refine And.intro vObx ?_; conv => whnf)
      | (refine And.intro vArT ?_; conv => whnf)
      | (refine Or.inl ?_; conv => whnf)
      | fail
    rw [coRes, if_pos h4]
  · rw [if_neg h4] at key
    refine pure_of_vcR Try.tabOk mixOrd Try.func12 rfl rfl ?_
    conv => whnf
    repeat' first
      | (refine And.intro (Or.inl rfl) ?_; conv => whnf)
      | (refine Or.inl (Or.inl (Exists.intro _ (And.intro (key) ?_))); conv => whnf)
      | (refine Or.inl (Exists.intro _ (And.intro (key) ?_)); conv => whnf)
      | (apply Exists.intro; refine And.intro (key) ?_; conv => whnf)
      | (refine And.intro (fun h => ?_) (fun h => ?_) <;> (try simp only [cnt1, ints_length] at h) <;> first | (exfalso; omega) | (conv => whnf))
      | (refine And.intro (show slotsOk _ = true by decide +kernel) ?_; conv => whnf)
      | (refine And.intro vOb ?_; conv => whnf)
      | (apply Exists.intro; refine And.intro vObt ?_; conv => whnf)
      | (apply Exists.intro; refine And.intro vObx ?_; conv => whnf)
      | (refine And.intro vArT ?_; conv => whnf)
      | (refine Or.inl ?_; conv => whnf)
      | fail
    rw [coRes, if_neg h4]
end Go.Proofs

