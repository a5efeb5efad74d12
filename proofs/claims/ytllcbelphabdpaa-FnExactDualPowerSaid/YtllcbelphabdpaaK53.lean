/- Powers in the dual algebra: the reference. -/
-- tables
-- rec
import Derived.Test.YtllcbelphabdpaaK52
namespace Go.Proofs
open Go Go.Vm Go.Fg Go.Fg.PS
set_option maxRecDepth 100000
set_option maxHeartbeats 4000000
set_option linter.unusedSimpArgs false
set_option linter.unusedVariables false
theorem c_specDualPower (o p o1 : Bool) (m : Int) (t : List (List Int)) (u : List Int) (e : Int) (he : -9223372036854775808 ≤ e ∧ e ≤ 9223372036854775807) (hl : t.length ≤ 1048576) (hr : lensOk t) (hu : u.length ≤ 1048576) :
    PureCall Try.prog 20 [.agg [dint m, .list o 1 (rows p t)], .list o1 1 (ints u), dint e] (dpRes m t u e) := by
  have key := c_l17Code o p m t hl hr
  by_cases h4 : kC m t = 0
  · obtain ⟨hk, hht, hq1, hq2⟩ := kC_0 h4
    obtain ⟨hb, hpr⟩ := htC_0 hht
    obtain ⟨hp, hlw⟩ := lawB_pl hb
    obtain ⟨hm, h2, h3, _⟩ := plB_md hp
    have hm1 := hm.1
    have hm2 := hm.2
    have hlt : rkT m t < t.length := rkOf_lt (by omega)
    rw [h4, if_pos rfl] at key
    have hmB : inR .i64 (m - 1) := h1of (by simpa [inB, Md] using hm)
    have hno : elB (rkT m t) m u = false → D.tup [.lit (.slice none 0 0), dint 2] = dpRes m t u e := fun hx => by
      have h5 : elCK m t u e = 2 := by unfold elCK elC1; rw [if_pos h4, hx]; rfl
      rw [dpRes, h5, if_neg (by omega)]
    refine pure_of_vcR Try.tabOk mixOrd Try.func20 rfl rfl ?_
    conv => whnf
    repeat' first
      | (refine And.intro (Or.inl rfl) ?_; conv => whnf)
      | (refine Or.inr (inl_ofR Try.tabOk mixOrd _ Try.func49 rfl rfl ?_); conv => whnf)
      | (refine Or.inl (Or.inl (Exists.intro _ (And.intro (key) ?_))); conv => whnf)
      | (refine Or.inl (Exists.intro _ (And.intro (key) ?_)); conv => whnf)
      | (apply Exists.intro; refine And.intro (key) ?_; conv => whnf)
      | (refine And.intro (fun h => ?_) (fun h => ?_) <;> (try simp only [cnt1, ints_length] at h) <;> first | (exfalso; omega) | (conv => whnf))
      | (refine And.intro (show slotsOk _ = true by decide +kernel) ?_; conv => whnf)
      | (refine And.intro vOb ?_; conv => whnf)
      | (apply Exists.intro; refine And.intro vObt ?_; conv => whnf)
      | (apply Exists.intro; refine And.intro vObx ?_; conv => whnf)
      | (refine And.intro vArT ?_; conv => whnf)
      | (refine Or.inl ?_; conv => whnf)
      | fail
    refine loop_peelV Try.tabOk mixOrd ?_
    conv => whnf
    repeat' first
      | (refine And.intro (Or.inl rfl) ?_; conv => whnf)
      | (refine Or.inl (Or.inl (Exists.intro _ (And.intro (⟨_, rfl, rfl⟩) ?_))); conv => whnf)
      | (refine Or.inl (Exists.intro _ (And.intro (⟨_, rfl, rfl⟩) ?_)); conv => whnf)
      | (apply Exists.intro; refine And.intro (⟨_, rfl, rfl⟩) ?_; conv => whnf)
      | (refine Or.inl (Or.inl (Exists.intro _ (And.intro (c_l01Numbers _ m u hmB (by omega)) ?_))); conv => whnf)
      | (refine Or.inl (Exists.intro _ (And.intro (c_l01Numbers _ m u hmB (by omega)) ?_)); conv => whnf)
      | (apply Exists.intro; refine And.intro (c_l01Numbers _ m u hmB (by omega)) ?_; conv => whnf)
      | (refine And.intro (fun h => ?_) (fun h => ?_) <;> (try simp only [cnt1, ints_length] at h) <;> first | (exfalso; omega) | (conv => whnf))
      | (refine And.intro (show slotsOk _ = true by decide +kernel) ?_; conv => whnf)
      | (refine And.intro vOb ?_; conv => whnf)
      | (apply Exists.intro; refine And.intro vObt ?_; conv => whnf)
      | (apply Exists.intro; refine And.intro vObx ?_; conv => whnf)
      | (refine And.intro vArT ?_; conv => whnf)
      | (refine Or.inl ?_; conv => whnf)
      | fail
    · have hne : (u.length : Int) ≠ (rkT m t : Int) := by assumption
      exact hno (by simp [elB]; intro _; exfalso; omega)
    · have hul : u.length = rkT m t := by
        have : ¬ (u.length : Int) ≠ (rkT m t : Int) := by assumption
        omega
      have hun : numsB m u = true := by assumption
      have h50 : elC1 m t u = 0 := by unfold elC1; rw [if_pos h4]; simp [elB, hul, hun]
      have hyes : inB e 1 100 = true → D.tup [LD true (rkT m t) (dpw (rd2 m t) (rd m u) (rkT m t) (e - 1).toNat), dint 0] = dpRes m t u e := fun hx => by
        rw [dpRes, if_pos (by unfold elCK; rw [if_pos h50, hx]; rfl)]
      have hbad : inB e 1 100 = false → D.tup [.lit (.slice none 0 0), dint 2] = dpRes m t u e := fun hx => by
        have h5 : elCK m t u e = 2 := by unfold elCK; rw [if_pos h50, hx]; rfl
        rw [dpRes, h5, if_neg (by omega)]
      have hlu : ints u = ints (L (rkT m t) (rd m u)) := by rw [← hul, L_rd (numsB_iff.1 hun)]
      refine loop_peelV Try.tabOk mixOrd ?_
      conv => whnf
      rw [hlu]
      have kp := c_l17Powers hm o p t.length (rkT m t) ⟨by omega, by omega, by omega⟩ (rd2 m t) (rfl : ((rkT m t : Nat) : Int) = rkT m t)
      simp only [PlD, plB_T hp] at kp
      generalize rkT m t = q at *
      generalize rd2 m t = f at *
      repeat' first
        | (refine And.intro (Or.inl rfl) ?_; conv => whnf)
        | (refine Or.inl (Or.inl (Exists.intro _ (And.intro (kp) ?_))); conv => whnf)
        | (refine Or.inl (Exists.intro _ (And.intro (kp) ?_)); conv => whnf)
        | (apply Exists.intro; refine And.intro (kp) ?_; conv => whnf)
        | (refine Or.inl (Or.inl (Exists.intro _ (And.intro (c_l01In _ _ _) ?_))); conv => whnf)
        | (refine Or.inl (Exists.intro _ (And.intro (c_l01In _ _ _) ?_)); conv => whnf)
        | (apply Exists.intro; refine And.intro (c_l01In _ _ _) ?_; conv => whnf)
        | (refine Or.inl (Or.inl (Exists.intro _ (And.intro (c_l01Own _ (L q (rd m u)) (by rw [L_length]; omega)) ?_))); conv => whnf)
        | (refine Or.inl (Exists.intro _ (And.intro (c_l01Own _ (L q (rd m u)) (by rw [L_length]; omega)) ?_)); conv => whnf)
        | (apply Exists.intro; refine And.intro (c_l01Own _ (L q (rd m u)) (by rw [L_length]; omega)) ?_; conv => whnf)
        | (refine Or.inl (Or.inl (Exists.intro _ (And.intro (sub_tbq vDA) ?_))); conv => whnf)
        | (refine Or.inl (Exists.intro _ (And.intro (sub_tbq vDA) ?_)); conv => whnf)
        | (apply Exists.intro; refine And.intro (sub_tbq vDA) ?_; conv => whnf)
        | (refine And.intro (fun h => ?_) (fun h => ?_) <;> (try simp only [cnt1, ints_length] at h) <;> first | (exfalso; omega) | (conv => whnf))
        | (refine And.intro (show slotsOk _ = true by decide +kernel) ?_; conv => whnf)
        | (refine And.intro vOb ?_; conv => whnf)
        | (apply Exists.intro; refine And.intro vObt ?_; conv => whnf)
        | (apply Exists.intro; refine And.intro vObx ?_; conv => whnf)
        | (refine And.intro vArT ?_; conv => whnf)
        | (refine And.intro (vQsz vDA) ?_; conv => whnf)
        | (refine And.intro (vDA) ?_; conv => whnf)
        | (refine Or.inl ?_; conv => whnf)
        | fail
      · have hx : inB e 1 100 = true := by assumption
        have hx2 : 1 ≤ e ∧ e ≤ 100 := by simpa [inB] using hx
        refine loop_atR Try.tabOk mixOrd (α := Nat) (fun i => [(2, dint (e - i)), (11, .ref 8 [] 1 0 q), (33, .undef)]) (fun i => [(8, some ⟨false, 1, ints (L q (dpw f (rd m u) q i))⟩)]) (fun i => (i : Int) + 1 ≤ e) (fun i => (e - 1).toNat - i) (0) ?_ ?_ ?_
        · omega
        · conv => whnf
          first | refine WeakS.auto ?_ | refine Weak.auto ?_
          conv => whnf
          repeat' first
            | exact trivial
            | (refine And.intro rfl ?_; conv => whnf)
            | (refine And.intro (eqV_int vAr) ?_; conv => whnf)
            | (refine And.intro vOb ?_; conv => whnf)
            | (refine And.intro vRepl ?_; conv => whnf)
            | (refine And.intro vReplL ?_; conv => whnf)
            | (refine And.intro ?_ ?_ <;> try (conv => whnf))
          all_goals first
            | (rw [cnt1, ints_length, L_length]; done)
            | rfl
            | skip
        intro i hi
        conv => whnf
        repeat' first
          | (refine And.intro (Or.inl rfl) ?_; conv => whnf)
          | (refine Or.inl (Or.inl (Exists.intro _ (And.intro (c_l17Dual hm q vAr _ _ _ f (dpw f (rd m u) q i) (rd m u)) ?_))); conv => whnf)
          | (refine Or.inl (Exists.intro _ (And.intro (c_l17Dual hm q vAr _ _ _ f (dpw f (rd m u) q i) (rd m u)) ?_)); conv => whnf)
          | (apply Exists.intro; refine And.intro (c_l17Dual hm q vAr _ _ _ f (dpw f (rd m u) q i) (rd m u)) ?_; conv => whnf)
          | (refine Or.inl (Or.inl (Exists.intro _ (And.intro (sub_tbq vDA) ?_))); conv => whnf)
          | (refine Or.inl (Exists.intro _ (And.intro (sub_tbq vDA) ?_)); conv => whnf)
          | (apply Exists.intro; refine And.intro (sub_tbq vDA) ?_; conv => whnf)
          | (refine And.intro (fun h => ?_) (fun h => ?_) <;> (try simp only [cnt1, ints_length] at h) <;> conv => whnf)
          | (refine And.intro (show slotsOk _ = true by decide +kernel) ?_; conv => whnf)
          | (refine And.intro vOb ?_; conv => whnf)
          | (apply Exists.intro; refine And.intro vObt ?_; conv => whnf)
          | (apply Exists.intro; refine And.intro vObx ?_; conv => whnf)
          | (refine And.intro vArT ?_; conv => whnf)
          | (refine And.intro (vQsz vDA) ?_; conv => whnf)
          | (refine And.intro (vDA) ?_; conv => whnf)
          | (refine Or.inl ?_; conv => whnf)
          | fail
        · refine Exists.intro (i + 1) (And.intro vDA (And.intro vDA ?_))
          first | refine WeakS.auto ?_ | refine Weak.auto ?_
          conv => whnf
          repeat' first
            | exact trivial
            | (refine And.intro rfl ?_; conv => whnf)
            | (refine And.intro (eqV_int vAr) ?_; conv => whnf)
            | (refine And.intro vOb ?_; conv => whnf)
            | (refine And.intro vRepl ?_; conv => whnf)
            | (refine And.intro vReplL ?_; conv => whnf)
            | (refine And.intro ?_ ?_ <;> try (conv => whnf))
          all_goals first
            | (rw [cnt1, ints_length, L_length]; done)
            | rfl
            | skip
        · rw [← hyes hx, show (e - 1).toNat = i by omega]
      · exact hbad (by assumption)
      · exfalso
        first | omega | (simp_all; done) | (simp_all; omega)
    · have hun : numsB m u = false := by assumption
      exact hno (by simp [elB, hun])
  · have h5 : elCK m t u e = kC m t := by unfold elCK elC1; rw [if_neg h4, if_neg h4]
    rw [if_neg h4] at key
    refine pure_of_vcR Try.tabOk mixOrd Try.func20 rfl rfl ?_
    conv => whnf
    repeat' first
      | (refine And.intro (Or.inl rfl) ?_; conv => whnf)
      | (refine Or.inr (inl_ofR Try.tabOk mixOrd _ Try.func49 rfl rfl ?_); conv => whnf)
      | (refine Or.inl (Or.inl (Exists.intro _ (And.intro (key) ?_))); conv => whnf)
      | (refine Or.inl (Exists.intro _ (And.intro (key) ?_)); conv => whnf)
      | (apply Exists.intro; refine And.intro (key) ?_; conv => whnf)
      | (refine And.intro (fun h => ?_) (fun h => ?_) <;> (try simp only [cnt1, ints_length] at h) <;> first | (exfalso; omega) | (conv => whnf))
      | (refine And.intro (show slotsOk _ = true by decide +kernel) ?_; conv => whnf)
      | (refine And.intro vOb ?_; conv => whnf)
      | (apply Exists.intro; refine And.intro vObt ?_; conv => whnf)
      | (apply Exists.intro; refine And.intro vObx ?_; conv => whnf)
      | (refine And.intro vArT ?_; conv => whnf)
      | (refine Or.inl ?_; conv => whnf)
      | fail
    rw [dpRes, h5, if_neg h4]
end Go.Proofs

