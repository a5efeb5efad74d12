/- The law of products of elements of kernel algebras. -/
-- tables
-- rec
import Derived.Test.YtnonhialafcjmaaK36
namespace Go.Proofs
open Go Go.Vm Go.Fg Go.Fg.PS
set_option maxRecDepth 100000
set_option maxHeartbeats 4000000
set_option linter.unusedSimpArgs false
set_option linter.unusedVariables false
theorem c_specMultiplyElements (o p o1 o2 : Bool) (m : Int) (t : List (List Int)) (u v : List Int) (hl : t.length ≤ 1048576) (hr : lensOk t) (hu : u.length ≤ 1048576) (hv : v.length ≤ 1048576) :
    PureCall Try.prog 41 [.agg [dint m, .list o 1 (rows p t)], .list o1 1 (ints u), .list o2 1 (ints v)] (meRes m t u v) := by
  have key := c_l17Code o p m t hl hr
  by_cases h4 : kC m t = 0
  · obtain ⟨hk, hht, hq1, hq2⟩ := kC_0 h4
    obtain ⟨hb, hpr⟩ := htC_0 hht
    obtain ⟨hp, hlw⟩ := lawB_pl hb
    obtain ⟨hm, h2, h3, _⟩ := plB_md hp
    have hm1 := hm.1
    have hm2 := hm.2
    have hlt : rkT m t < t.length := rkOf_lt (by omega)
    rw [h4, if_pos rfl] at key
    have hmB : inR .i64 (m - 1) := h1of (by simpa [inB, Md] using hm)
    have hno : (elB (rkT m t) m u && elB (rkT m t) m v) = false → D.tup [.lit (.slice none 0 0), dint 2] = meRes m t u v := fun e => by
      have h5 : elC2 m t u v = 2 := by unfold elC2; rw [if_pos h4, e]; rfl
      rw [meRes, h5, if_neg (by omega)]
    refine pure_of_vcR Try.tabOk mixOrd Try.func41 rfl rfl ?_
    conv => whnf
    repeat' first
      | (refine And.intro (Or.inl rfl) ?_; conv => whnf)
      | (refine Or.inr (inl_ofR Try.tabOk mixOrd _ Try.func104 rfl rfl ?_); conv => whnf)
      | (refine Or.inl (Or.inl (Exists.intro _ (And.intro (key) ?_))); conv => whnf)
      | (refine Or.inl (Exists.intro _ (And.intro (key) ?_)); conv => whnf)
      | (apply Exists.intro; refine And.intro (key) ?_; conv => whnf)
      | (refine And.intro (fun h => ?_) (fun h => ?_) <;> (try simp only [cnt1, ints_length] at h) <;> first | (exfalso; omega) | (conv => whnf))
      | (refine And.intro (show slotsOk _ = true by decide +kernel) ?_; conv => whnf)
      | (refine And.intro vOb ?_; conv => whnf)
      | (apply Exists.intro; refine And.intro vObt ?_; conv => whnf)
      | (apply Exists.intro; refine And.intro vObx ?_; conv => whnf)
      | (refine And.intro vArT ?_; conv => whnf)
      | (refine Or.inl ?_; conv => whnf)
      | fail
    refine loop_peelV Try.tabOk mixOrd ?_
    conv => whnf
    repeat' first
      | (refine And.intro (Or.inl rfl) ?_; conv => whnf)
      | (refine Or.inl (Or.inl (Exists.intro _ (And.intro (⟨_, rfl, rfl⟩) ?_))); conv => whnf)
      | (refine Or.inl (Exists.intro _ (And.intro (⟨_, rfl, rfl⟩) ?_)); conv => whnf)
      | (apply Exists.intro; refine And.intro (⟨_, rfl, rfl⟩) ?_; conv => whnf)
      | (refine Or.inl (Or.inl (Exists.intro _ (And.intro (c_l01Numbers _ m u hmB (by omega)) ?_))); conv => whnf)
      | (refine Or.inl (Exists.intro _ (And.intro (c_l01Numbers _ m u hmB (by omega)) ?_)); conv => whnf)
      | (apply Exists.intro; refine And.intro (c_l01Numbers _ m u hmB (by omega)) ?_; conv => whnf)
      | (refine And.intro (fun h => ?_) (fun h => ?_) <;> (try simp only [cnt1, ints_length] at h) <;> first | (exfalso; omega) | (conv => whnf))
      | (refine And.intro (show slotsOk _ = true by decide +kernel) ?_; conv => whnf)
      | (refine And.intro vOb ?_; conv => whnf)
      | (apply Exists.intro; refine And.intro vObt ?_; conv => whnf)
      | (apply Exists.intro; refine And.intro vObx ?_; conv => whnf)
      | (refine And.intro vArT ?_; conv => whnf)
      | (refine Or.inl ?_; conv => whnf)
      | fail
    · have hne : (u.length : Int) ≠ (rkT m t : Int) := by assumption
      exact hno (by simp [elB]; intro e; exfalso; omega)
    · have hul : u.length = rkT m t := by
        have : ¬ (u.length : Int) ≠ (rkT m t : Int) := by assumption
        omega
      have hun : numsB m u = true := by assumption
      refine loop_peelV Try.tabOk mixOrd ?_
      conv => whnf
      repeat' first
        | (refine And.intro (Or.inl rfl) ?_; conv => whnf)
        | (refine Or.inl (Or.inl (Exists.intro _ (And.intro (⟨_, rfl, rfl⟩) ?_))); conv => whnf)
        | (refine Or.inl (Exists.intro _ (And.intro (⟨_, rfl, rfl⟩) ?_)); conv => whnf)
        | (apply Exists.intro; refine And.intro (⟨_, rfl, rfl⟩) ?_; conv => whnf)
        | (refine Or.inl (Or.inl (Exists.intro _ (And.intro (c_l01Numbers _ m v hmB (by omega)) ?_))); conv => whnf)
        | (refine Or.inl (Exists.intro _ (And.intro (c_l01Numbers _ m v hmB (by omega)) ?_)); conv => whnf)
        | (apply Exists.intro; refine And.intro (c_l01Numbers _ m v hmB (by omega)) ?_; conv => whnf)
        | (refine And.intro (fun h => ?_) (fun h => ?_) <;> (try simp only [cnt1, ints_length] at h) <;> first | (exfalso; omega) | (conv => whnf))
        | (refine And.intro (show slotsOk _ = true by decide +kernel) ?_; conv => whnf)
        | (refine And.intro vOb ?_; conv => whnf)
        | (apply Exists.intro; refine And.intro vObt ?_; conv => whnf)
        | (apply Exists.intro; refine And.intro vObx ?_; conv => whnf)
        | (refine And.intro vArT ?_; conv => whnf)
        | (refine Or.inl ?_; conv => whnf)
        | fail
      · have hne : (v.length : Int) ≠ (rkT m t : Int) := by assumption
        exact hno (by simp [elB]; intro _ _ e; exfalso; omega)
      · have hvl : v.length = rkT m t := by
          have : ¬ (v.length : Int) ≠ (rkT m t : Int) := by assumption
          omega
        have hvn : numsB m v = true := by assumption
        have hyes : D.tup [LD true (rkT m t) (rd m u * rd m v), dint 0] = meRes m t u v := by
          have h5 : elC2 m t u v = 0 := by unfold elC2; rw [if_pos h4]; simp [elB, hul, hvl, hun, hvn]
          rw [meRes, if_pos h5]
        have hlu : ints u = ints (L (rkT m t) (rd m u)) := by rw [← hul, L_rd (numsB_iff.1 hun)]
        have hlv : ints v = ints (L (rkT m t) (rd m v)) := by rw [← hvl, L_rd (numsB_iff.1 hvn)]
        refine loop_peelV Try.tabOk mixOrd ?_
        conv => whnf
        rw [hlu, hlv]
        generalize rkT m t = q at *
        repeat' first
          | (refine And.intro (Or.inl rfl) ?_; conv => whnf)
          | (refine Or.inl (Or.inl (Exists.intro _ (And.intro (c_l02Times hm _ _ q q q (by omega) (by omega) (by omega) (by omega) (by omega) (by omega) _ _) ?_))); conv => whnf)
          | (refine Or.inl (Exists.intro _ (And.intro (c_l02Times hm _ _ q q q (by omega) (by omega) (by omega) (by omega) (by omega) (by omega) _ _) ?_)); conv => whnf)
          | (apply Exists.intro; refine And.intro (c_l02Times hm _ _ q q q (by omega) (by omega) (by omega) (by omega) (by omega) (by omega) _ _) ?_; conv => whnf)
          | (refine And.intro (fun h => ?_) (fun h => ?_) <;> (try simp only [cnt1, ints_length] at h) <;> first | (exfalso; omega) | (conv => whnf))
          | (refine And.intro (show slotsOk _ = true by decide +kernel) ?_; conv => whnf)
          | (refine And.intro vOb ?_; conv => whnf)
          | (apply Exists.intro; refine And.intro vObt ?_; conv => whnf)
          | (apply Exists.intro; refine And.intro vObx ?_; conv => whnf)
          | (refine And.intro vArT ?_; conv => whnf)
          | (refine Or.inl ?_; conv => whnf)
          | fail
        exact hyes
      · have hvn : numsB m v = false := by assumption
        exact hno (by simp [elB, hvn])
    · have hun : numsB m u = false := by assumption
      exact hno (by simp [elB, hun])
  · have h5 : elC2 m t u v = kC m t := by unfold elC2; rw [if_neg h4]
    rw [if_neg h4] at key
    refine pure_of_vcR Try.tabOk mixOrd Try.func41 rfl rfl ?_
    conv => whnf
    repeat' first
      | (refine And.intro (Or.inl rfl) ?_; conv => whnf)
      | (refine Or.inr (inl_ofR Try.tabOk mixOrd _ Try.func104 rfl rfl ?_); conv => whnf)
      | (refine Or.inl (Or.inl (Exists.intro _ (And.intro (key) ?_))); conv => whnf)
      | (refine Or.inl (Exists.intro _ (And.intro (key) ?_)); conv => whnf)
      | (apply Exists.intro; refine And.intro (key) ?_; conv => whnf)
      | (refine And.intro (fun h => ?_) (fun h => ?_) <;> (try simp only [cnt1, ints_length] at h) <;> first | (exfalso; omega) | (conv => whnf))
      | (refine And.intro (show slotsOk _ = true by decide +kernel) ?_; conv => whnf)
      | (refine And.intro vOb ?_; conv => whnf)
      | (apply Exists.intro; refine And.intro vObt ?_; conv => whnf)
      | (apply Exists.intro; refine And.intro vObx ?_; conv => whnf)
      | (refine And.intro vArT ?_; conv => whnf)
      | (refine Or.inl ?_; conv => whnf)
      | fail
    rw [meRes, h5, if_neg h4]
theorem c_FnExactMultiplyElements (m : Int) (t : List (List Int)) (u v : List Int) (_ : -9223372036854775808 ≤ m ∧ m ≤ 9223372036854775807) (g : (∀ k, k < t.length → (t.getD k []).length ≤ 9223372036854775807) ∧ t.length ≤ 9223372036854775807) (g1 : u.length ≤ 9223372036854775807) (g2 : v.length ≤ 9223372036854775807) : PureCall Try.prog 9 [.agg [dint m, .list false 1 (rows false t)], .list false 1 (ints u), .list false 1 (ints v)] (dbool true) := by
  have hT := szT_le (n := 1048576) (t := t) (by omega)
  refine pure_of_vcR Try.tabOk mixOrd Try.func9 rfl rfl ?_
  conv => whnf
  repeat' first
    | (refine And.intro (Or.inl rfl) ?_; conv => whnf)
    | (refine Or.inl (Or.inl (Exists.intro _ (And.intro (c_szPlane _ _ _ t _ (by omega) g.2 g.1) ?_))); conv => whnf)
    | (refine Or.inl (Exists.intro _ (And.intro (c_szPlane _ _ _ t _ (by omega) g.2 g.1) ?_)); conv => whnf)
    | (apply Exists.intro; refine And.intro (c_szPlane _ _ _ t _ (by omega) g.2 g.1) ?_; conv => whnf)
    | (refine Or.inl (Or.inl (Exists.intro _ (And.intro (c_szInt64S _ u _ (by omega) g1) ?_))); conv => whnf)
    | (refine Or.inl (Exists.intro _ (And.intro (c_szInt64S _ u _ (by omega) g1) ?_)); conv => whnf)
    | (apply Exists.intro; refine And.intro (c_szInt64S _ u _ (by omega) g1) ?_; conv => whnf)
    | (refine Or.inl (Or.inl (Exists.intro _ (And.intro (c_szInt64S _ v _ (by split at * <;> omega) g2) ?_))); conv => whnf)
    | (refine Or.inl (Exists.intro _ (And.intro (c_szInt64S _ v _ (by split at * <;> omega) g2) ?_)); conv => whnf)
    | (apply Exists.intro; refine And.intro (c_szInt64S _ v _ (by split at * <;> omega) g2) ?_; conv => whnf)
    | (refine And.intro (fun h => ?_) (fun h => ?_) <;> (try simp only [cnt1, ints_length] at h) <;> first | (exfalso; omega) | (conv => whnf))
    | (refine And.intro (show slotsOk _ = true by decide +kernel) ?_; conv => whnf)
    | (refine And.intro vOb ?_; conv => whnf)
    | (apply Exists.intro; refine And.intro vObt ?_; conv => whnf)
    | (apply Exists.intro; refine And.intro vObx ?_; conv => whnf)
    | (refine And.intro vArT ?_; conv => whnf)
    | (refine Or.inl ?_; conv => whnf)
    | fail
  have hA : ¬ szT 1048576 t < 0 := by assumption
  obtain ⟨hl, hr⟩ := szT_ok (by omega) hA
  have htot : totL t ≤ 1048576 := by unfold szT at hA; split at hA <;> omega
  have h1 : u.length ≤ 1048576 := by
    have : ¬ (1048576 : Int) < u.length := by assumption
    omega
  have h2 : v.length ≤ 1048576 := by
    have : ¬ (1048576 : Int) < v.length := by assumption
    omega
  have e1 := c_specMultiplyElements false true false false m t u v hl hr h1 h2
  have e3 := c_implMultiplyElements false true false false m t u v hl hr h1 h2
  by_cases hc : elC2 m t u v = 0
  · rw [meRes, if_pos hc] at e1 e3
    have hq : rkT m t ≤ 11 := by
      have h4 : kC m t = 0 := by
        unfold elC2 at hc
        split at hc
        · assumption
        · exact hc
      obtain ⟨hk, hht, hq1, hq2⟩ := kC_0 h4
      obtain ⟨hp, hlw⟩ := lawB_pl (htC_0 hht).1
      obtain ⟨hm, h2, h3, _⟩ := plB_md hp
      have : rkT m t < t.length := rkOf_lt (by omega)
      omega
    generalize rkT m t = q at *
    generalize rd m u * rd m v = w at *
    repeat' first
      | (refine And.intro (Or.inl rfl) ?_; conv => whnf)
      | (refine Or.inl (Or.inl (Exists.intro _ (And.intro (c_toPlane _ _ _ _ hl hr) ?_))); conv => whnf)
      | (refine Or.inl (Exists.intro _ (And.intro (c_toPlane _ _ _ _ hl hr) ?_)); conv => whnf)
      | (apply Exists.intro; refine And.intro (c_toPlane _ _ _ _ hl hr) ?_; conv => whnf)
      | (refine Or.inl (Or.inl (Exists.intro _ (And.intro (c_toInt64S _ _ h1) ?_))); conv => whnf)
      | (refine Or.inl (Exists.intro _ (And.intro (c_toInt64S _ _ h1) ?_)); conv => whnf)
      | (apply Exists.intro; refine And.intro (c_toInt64S _ _ h1) ?_; conv => whnf)
      | (refine Or.inl (Or.inl (Exists.intro _ (And.intro (c_toInt64S _ _ h2) ?_))); conv => whnf)
      | (refine Or.inl (Exists.intro _ (And.intro (c_toInt64S _ _ h2) ?_)); conv => whnf)
      | (apply Exists.intro; refine And.intro (c_toInt64S _ _ h2) ?_; conv => whnf)
      | (refine Or.inl (Or.inl (Exists.intro _ (And.intro (e1) ?_))); conv => whnf)
      | (refine Or.inl (Exists.intro _ (And.intro (e1) ?_)); conv => whnf)
      | (apply Exists.intro; refine And.intro (e1) ?_; conv => whnf)
      | (refine Or.inl (Or.inl (Exists.intro _ (And.intro (e3) ?_))); conv => whnf)
      | (refine Or.inl (Exists.intro _ (And.intro (e3) ?_)); conv => whnf)
      | (apply Exists.intro; refine And.intro (e3) ?_; conv => whnf)
      | (refine Or.inl (Or.inl (Exists.intro _ (And.intro (c_eqInt64S _ _ _ _ (by simp; omega)) ?_))); conv => whnf)
      | (refine Or.inl (Exists.intro _ (And.intro (c_eqInt64S _ _ _ _ (by simp; omega)) ?_)); conv => whnf)
      | (apply Exists.intro; refine And.intro (c_eqInt64S _ _ _ _ (by simp; omega)) ?_; conv => whnf)
      | (refine Or.inl (Or.inl (Exists.intro _ (And.intro (c_eqInt64S _ _ _ _ h1) ?_))); conv => whnf)
      | (refine Or.inl (Exists.intro _ (And.intro (c_eqInt64S _ _ _ _ h1) ?_)); conv => whnf)
      | (apply Exists.intro; refine And.intro (c_eqInt64S _ _ _ _ h1) ?_; conv => whnf)
      | (refine Or.inl (Or.inl (Exists.intro _ (And.intro (c_eqInt64S _ _ _ _ h2) ?_))); conv => whnf)
      | (refine Or.inl (Exists.intro _ (And.intro (c_eqInt64S _ _ _ _ h2) ?_)); conv => whnf)
      | (apply Exists.intro; refine And.intro (c_eqInt64S _ _ _ _ h2) ?_; conv => whnf)
      | (refine Or.inl (Or.inl (Exists.intro _ (And.intro (c_eqPlane _ _ _ _ _ _ _ _ hl hr) ?_))); conv => whnf)
      | (refine Or.inl (Exists.intro _ (And.intro (c_eqPlane _ _ _ _ _ _ _ _ hl hr) ?_)); conv => whnf)
      | (apply Exists.intro; refine And.intro (c_eqPlane _ _ _ _ _ _ _ _ hl hr) ?_; conv => whnf)
      | (refine Or.inr (inl_ofR Try.tabOk mixOrd _ Try.func32 rfl rfl ?_); conv => whnf)
      | (refine Or.inr (inlMarkT rfl vAr vAr ⟨vAr, vAr⟩ ?_); conv => whnf)
      | (refine Or.inr (inlMark rfl vAr ⟨vAr, vAr⟩ ?_); conv => whnf)
      | (refine Or.inl (Or.inl (Exists.intro _ (And.intro (c_heldInt64S _ _ _ ⟨vAr, vAr⟩) ?_))); conv => whnf)
      | (refine Or.inl (Exists.intro _ (And.intro (c_heldInt64S _ _ _ ⟨vAr, vAr⟩) ?_)); conv => whnf)
      | (apply Exists.intro; refine And.intro (c_heldInt64S _ _ _ ⟨vAr, vAr⟩) ?_; conv => whnf)
      | (refine Or.inl (Or.inl (Exists.intro _ (And.intro (sub_rows vArS) ?_))); conv => whnf)
      | (refine Or.inl (Exists.intro _ (And.intro (sub_rows vArS) ?_)); conv => whnf)
      | (apply Exists.intro; refine And.intro (sub_rows vArS) ?_; conv => whnf)
      | (refine And.intro (fun h => ?_) (fun h => ?_) <;> (try simp only [cnt1, ints_length] at h) <;> conv => whnf)
      | (refine And.intro (show slotsOk _ = true by decide +kernel) ?_; conv => whnf)
      | (refine And.intro vOb ?_; conv => whnf)
      | (apply Exists.intro; refine And.intro vObt ?_; conv => whnf)
      | (apply Exists.intro; refine And.intro vObx ?_; conv => whnf)
      | (refine And.intro vArT ?_; conv => whnf)
      | (refine And.intro (vArS) ?_; conv => whnf)
      | (refine Or.inl ?_; conv => whnf)
      | fail
    all_goals (exfalso; first | omega | (simp_all; done) | (simp_all; omega))
  · rw [meRes, if_neg hc] at e1 e3
    repeat' first
      | (refine And.intro (Or.inl rfl) ?_; conv => whnf)
      | (refine Or.inl (Or.inl (Exists.intro _ (And.intro (c_toPlane _ _ _ _ hl hr) ?_))); conv => whnf)
      | (refine Or.inl (Exists.intro _ (And.intro (c_toPlane _ _ _ _ hl hr) ?_)); conv => whnf)
      | (apply Exists.intro; refine And.intro (c_toPlane _ _ _ _ hl hr) ?_; conv => whnf)
      | (refine Or.inl (Or.inl (Exists.intro _ (And.intro (c_toInt64S _ _ h1) ?_))); conv => whnf)
      | (refine Or.inl (Exists.intro _ (And.intro (c_toInt64S _ _ h1) ?_)); conv => whnf)
      | (apply Exists.intro; refine And.intro (c_toInt64S _ _ h1) ?_; conv => whnf)
      | (refine Or.inl (Or.inl (Exists.intro _ (And.intro (c_toInt64S _ _ h2) ?_))); conv => whnf)
      | (refine Or.inl (Exists.intro _ (And.intro (c_toInt64S _ _ h2) ?_)); conv => whnf)
      | (apply Exists.intro; refine And.intro (c_toInt64S _ _ h2) ?_; conv => whnf)
      | (refine Or.inl (Or.inl (Exists.intro _ (And.intro (e1) ?_))); conv => whnf)
      | (refine Or.inl (Exists.intro _ (And.intro (e1) ?_)); conv => whnf)
      | (apply Exists.intro; refine And.intro (e1) ?_; conv => whnf)
      | (refine Or.inl (Or.inl (Exists.intro _ (And.intro (e3) ?_))); conv => whnf)
      | (refine Or.inl (Exists.intro _ (And.intro (e3) ?_)); conv => whnf)
      | (apply Exists.intro; refine And.intro (e3) ?_; conv => whnf)
      | (refine Or.inl (Or.inl (Exists.intro _ (And.intro (c_eqNil) ?_))); conv => whnf)
      | (refine Or.inl (Exists.intro _ (And.intro (c_eqNil) ?_)); conv => whnf)
      | (apply Exists.intro; refine And.intro (c_eqNil) ?_; conv => whnf)
      | (refine Or.inl (Or.inl (Exists.intro _ (And.intro (c_eqInt64S _ _ _ _ h1) ?_))); conv => whnf)
      | (refine Or.inl (Exists.intro _ (And.intro (c_eqInt64S _ _ _ _ h1) ?_)); conv => whnf)
      | (apply Exists.intro; refine And.intro (c_eqInt64S _ _ _ _ h1) ?_; conv => whnf)
      | (refine Or.inl (Or.inl (Exists.intro _ (And.intro (c_eqInt64S _ _ _ _ h2) ?_))); conv => whnf)
      | (refine Or.inl (Exists.intro _ (And.intro (c_eqInt64S _ _ _ _ h2) ?_)); conv => whnf)
      | (apply Exists.intro; refine And.intro (c_eqInt64S _ _ _ _ h2) ?_; conv => whnf)
      | (refine Or.inl (Or.inl (Exists.intro _ (And.intro (c_eqPlane _ _ _ _ _ _ _ _ hl hr) ?_))); conv => whnf)
      | (refine Or.inl (Exists.intro _ (And.intro (c_eqPlane _ _ _ _ _ _ _ _ hl hr) ?_)); conv => whnf)
      | (apply Exists.intro; refine And.intro (c_eqPlane _ _ _ _ _ _ _ _ hl hr) ?_; conv => whnf)
      | (refine Or.inr (inl_ofR Try.tabOk mixOrd _ Try.func32 rfl rfl ?_); conv => whnf)
      | (refine Or.inr (inlMarkT rfl vAr vAr ⟨vAr, vAr⟩ ?_); conv => whnf)
      | (refine Or.inr (inlMark rfl vAr ⟨vAr, vAr⟩ ?_); conv => whnf)
      | (refine Or.inl (Or.inl (Exists.intro _ (And.intro (c_markNil _ vAr) ?_))); conv => whnf)
      | (refine Or.inl (Exists.intro _ (And.intro (c_markNil _ vAr) ?_)); conv => whnf)
      | (apply Exists.intro; refine And.intro (c_markNil _ vAr) ?_; conv => whnf)
      | (refine Or.inl (Or.inl (Exists.intro _ (And.intro (c_heldNil _ vAr) ?_))); conv => whnf)
      | (refine Or.inl (Exists.intro _ (And.intro (c_heldNil _ vAr) ?_)); conv => whnf)
      | (apply Exists.intro; refine And.intro (c_heldNil _ vAr) ?_; conv => whnf)
      | (refine Or.inl (Or.inl (Exists.intro _ (And.intro (sub_rows vArS) ?_))); conv => whnf)
      | (refine Or.inl (Exists.intro _ (And.intro (sub_rows vArS) ?_)); conv => whnf)
      | (apply Exists.intro; refine And.intro (sub_rows vArS) ?_; conv => whnf)
      | (refine And.intro (fun h => ?_) (fun h => ?_) <;> (try simp only [cnt1, ints_length] at h) <;> conv => whnf)
      | (refine And.intro (show slotsOk _ = true by decide +kernel) ?_; conv => whnf)
      | (refine And.intro vOb ?_; conv => whnf)
      | (apply Exists.intro; refine And.intro vObt ?_; conv => whnf)
      | (apply Exists.intro; refine And.intro vObx ?_; conv => whnf)
      | (refine And.intro vArT ?_; conv => whnf)
      | (refine And.intro (vArS) ?_; conv => whnf)
      | (refine Or.inl ?_; conv => whnf)
      | fail
    all_goals (exfalso; first | omega | (simp_all; done) | (simp_all; omega))
end Go.Proofs

