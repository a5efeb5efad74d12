/- Coproducts of elements: the reference. -/
-- tables
-- rec
import Derived.Test.YtnonhialafcjmaaK43
namespace Go.Proofs
open Go Go.Vm Go.Fg Go.Fg.PS
set_option maxRecDepth 100000
set_option maxHeartbeats 4000000
set_option linter.unusedSimpArgs false
set_option linter.unusedVariables false
theorem c_specCoproductOfElement (o p o1 : Bool) (m : Int) (t : List (List Int)) (u : List Int) (hl : t.length ≤ 1048576) (hr : lensOk t) (hu : u.length ≤ 1048576) :
    PureCall Try.prog 54 [.agg [dint m, .list o 1 (rows p t)], .list o1 1 (ints u)] (ceRes m t u) := by
  have key := c_l17Code o p m t hl hr
  by_cases h4 : kC m t = 0
  · obtain ⟨hk, hht, hq1, hq2⟩ := kC_0 h4
    obtain ⟨hb, hpr⟩ := htC_0 hht
    obtain ⟨hp, hlw⟩ := lawB_pl hb
    obtain ⟨hm, h2, h3, _⟩ := plB_md hp
    have hm1 := hm.1
    have hm2 := hm.2
    have hlt : rkT m t < t.length := rkOf_lt (by omega)
    rw [h4, if_pos rfl] at key
    have hmB : inR .i64 (m - 1) := h1of (by simpa [inB, Md] using hm)
    have hno : elB (rkT m t) m u = false → D.tup [.lit (.slice none 0 0), dint 2] = ceRes m t u := fun e => by
      have h5 : elC1 m t u = 2 := by unfold elC1; rw [if_pos h4, e]; rfl
      rw [ceRes, h5, if_neg (by omega)]
    refine pure_of_vcR Try.tabOk mixOrd Try.func54 rfl rfl ?_
    conv => whnf
    repeat' first
      | (refine And.intro (Or.inl rfl) ?_; conv => whnf)
      | (refine Or.inr (inl_ofR Try.tabOk mixOrd _ Try.func104 rfl rfl ?_); conv => whnf)
      | (refine Or.inl (Or.inl (Exists.intro _ (And.intro (key) ?_))); conv => whnf)
      | (refine Or.inl (Exists.intro _ (And.intro (key) ?_)); conv => whnf)
      | (apply Exists.intro; refine And.intro (key) ?_; conv => whnf)
      | (refine And.intro (fun h => ?_) (fun h => ?_) <;> (try simp only [cnt1, ints_length] at h) <;> first | (exfalso; omega) | (conv => whnf))
      | (refine And.intro (show slotsOk _ = true by decide +kernel) ?_; conv => whnf)
      | (refine And.intro vOb ?_; conv => whnf)
      | (apply Exists.intro; refine And.intro vObt ?_; conv => whnf)
      | (apply Exists.intro; refine And.intro vObx ?_; conv => whnf)
      | (refine And.intro vArT ?_; conv => whnf)
      | (refine Or.inl ?_; conv => whnf)
      | fail
    refine loop_peelV Try.tabOk mixOrd ?_
    conv => whnf
    repeat' first
      | (refine And.intro (Or.inl rfl) ?_; conv => whnf)
      | (refine Or.inl (Or.inl (Exists.intro _ (And.intro (⟨_, rfl, rfl⟩) ?_))); conv => whnf)
      | (refine Or.inl (Exists.intro _ (And.intro (⟨_, rfl, rfl⟩) ?_)); conv => whnf)
      | (apply Exists.intro; refine And.intro (⟨_, rfl, rfl⟩) ?_; conv => whnf)
      | (refine Or.inl (Or.inl (Exists.intro _ (And.intro (c_l01Numbers _ m u hmB (by omega)) ?_))); conv => whnf)
      | (refine Or.inl (Exists.intro _ (And.intro (c_l01Numbers _ m u hmB (by omega)) ?_)); conv => whnf)
      | (apply Exists.intro; refine And.intro (c_l01Numbers _ m u hmB (by omega)) ?_; conv => whnf)
      | (refine And.intro (fun h => ?_) (fun h => ?_) <;> (try simp only [cnt1, ints_length] at h) <;> first | (exfalso; omega) | (conv => whnf))
      | (refine And.intro (show slotsOk _ = true by decide +kernel) ?_; conv => whnf)
      | (refine And.intro vOb ?_; conv => whnf)
      | (apply Exists.intro; refine And.intro vObt ?_; conv => whnf)
      | (apply Exists.intro; refine And.intro vObx ?_; conv => whnf)
      | (refine And.intro vArT ?_; conv => whnf)
      | (refine Or.inl ?_; conv => whnf)
      | fail
    · have hne : (u.length : Int) ≠ (rkT m t : Int) := by assumption
      exact hno (by simp [elB]; intro e; exfalso; omega)
    · have hul : u.length = rkT m t := by
        have : ¬ (u.length : Int) ≠ (rkT m t : Int) := by assumption
        omega
      have hun : numsB m u = true := by assumption
      have hyes : D.tup [SqD true true (rkT m t) (comp2N (rd m u) (rd2 m t) 0 (rkT m t)), dint 0] = ceRes m t u := by
        have h5 : elC1 m t u = 0 := by unfold elC1; rw [if_pos h4]; simp [elB, hul, hun]
        rw [ceRes, if_pos h5]
      have hlu : ints u = ints (L (rkT m t) (rd m u)) := by rw [← hul, L_rd (numsB_iff.1 hun)]
      refine loop_peelV Try.tabOk mixOrd ?_
      conv => whnf
      rw [hlu]
      have kp := c_l17Powers hm o p t.length (rkT m t) ⟨by omega, by omega, by omega⟩ (rd2 m t) (rfl : ((rkT m t : Nat) : Int) = rkT m t)
      simp only [PlD, plB_T hp] at kp
      generalize rkT m t = q at *
      generalize rd2 m t = f at *
      repeat' first
        | (refine And.intro (Or.inl rfl) ?_; conv => whnf)
        | (refine Or.inl (Or.inl (Exists.intro _ (And.intro (kp) ?_))); conv => whnf)
        | (refine Or.inl (Exists.intro _ (And.intro (kp) ?_)); conv => whnf)
        | (apply Exists.intro; refine And.intro (kp) ?_; conv => whnf)
        | (refine Or.inl (Or.inl (Exists.intro _ (And.intro (c_l17Element hm q vAr _ _ f _) ?_))); conv => whnf)
        | (refine Or.inl (Exists.intro _ (And.intro (c_l17Element hm q vAr _ _ f _) ?_)); conv => whnf)
        | (apply Exists.intro; refine And.intro (c_l17Element hm q vAr _ _ f _) ?_; conv => whnf)
        | (refine Or.inl (Or.inl (Exists.intro _ (And.intro (sub_tbq vDA) ?_))); conv => whnf)
        | (refine Or.inl (Exists.intro _ (And.intro (sub_tbq vDA) ?_)); conv => whnf)
        | (apply Exists.intro; refine And.intro (sub_tbq vDA) ?_; conv => whnf)
        | (refine And.intro (fun h => ?_) (fun h => ?_) <;> (try simp only [cnt1, ints_length] at h) <;> first | (exfalso; omega) | (conv => whnf))
        | (refine And.intro (show slotsOk _ = true by decide +kernel) ?_; conv => whnf)
        | (refine And.intro vOb ?_; conv => whnf)
        | (apply Exists.intro; refine And.intro vObt ?_; conv => whnf)
        | (apply Exists.intro; refine And.intro vObx ?_; conv => whnf)
        | (refine And.intro vArT ?_; conv => whnf)
        | (refine And.intro (vQsz vDA) ?_; conv => whnf)
        | (refine And.intro (vDA) ?_; conv => whnf)
        | (refine Or.inl ?_; conv => whnf)
        | fail
      exact hyes
    · have hun : numsB m u = false := by assumption
      exact hno (by simp [elB, hun])
  · have h5 : elC1 m t u = kC m t := by unfold elC1; rw [if_neg h4]
    rw [if_neg h4] at key
    refine pure_of_vcR Try.tabOk mixOrd Try.func54 rfl rfl ?_
    conv => whnf
    repeat' first
      | (refine And.intro (Or.inl rfl) ?_; conv => whnf)
      | (refine Or.inr (inl_ofR Try.tabOk mixOrd _ Try.func104 rfl rfl ?_); conv => whnf)
      | (refine Or.inl (Or.inl (Exists.intro _ (And.intro (key) ?_))); conv => whnf)
      | (refine Or.inl (Exists.intro _ (And.intro (key) ?_)); conv => whnf)
      | (apply Exists.intro; refine And.intro (key) ?_; conv => whnf)
      | (refine And.intro (fun h => ?_) (fun h => ?_) <;> (try simp only [cnt1, ints_length] at h) <;> first | (exfalso; omega) | (conv => whnf))
      | (refine And.intro (show slotsOk _ = true by decide +kernel) ?_; conv => whnf)
      | (refine And.intro vOb ?_; conv => whnf)
      | (apply Exists.intro; refine And.intro vObt ?_; conv => whnf)
      | (apply Exists.intro; refine And.intro vObx ?_; conv => whnf)
      | (refine And.intro vArT ?_; conv => whnf)
      | (refine Or.inl ?_; conv => whnf)
      | fail
    rw [ceRes, h5, if_neg h4]
end Go.Proofs

