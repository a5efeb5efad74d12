/- The law of the parameters of a law. -/
-- tables
-- rec
import Derived.Test.YtbaojihanfkofaaK108
import Derived.Test.YtbaojihanfkofaaK30
import Derived.Test.YtbaojihanfkofaaKT
namespace Go.Proofs
open Go Go.Vm Go.Fg Go.Fg.PS
set_option maxRecDepth 100000
set_option maxHeartbeats 4000000
set_option linter.unusedSimpArgs false
set_option linter.unusedVariables false
theorem szT_leP {n : Int} {t : List (List Int)} (hn : 0 ≤ n) : szT n t ≤ n := by
  unfold szT; split <;> omega
theorem lawB_mdP {m : Int} {t : List (List Int)} (h : lawB m t = true) : plB m t = true ∧ LawP (rd2 m t) t.length := by
  simp only [lawB, trL, Bool.and_eq_true, decide_eq_true_eq] at h
  exact h
noncomputable def poCode (m : Int) (t : List (List Int)) : Int := if lawB m t = true then if t.length = 2 then 5 else 0 else 1
noncomputable def poRes (m : Int) (t : List (List Int)) : D := if poCode m t = 0 then .tup [.list true 1 (ints (parL (rd2 m t) (t.length - 2))), dint 0] else .tup [.lit (.slice none 0 0), dint (poCode m t)]
theorem poCode_0 {m : Int} {t : List (List Int)} (h : poCode m t = 0) : lawB m t = true ∧ t.length ≠ 2 := by
  unfold poCode at h
  split at h
  · split at h
    · omega
    · exact ⟨by assumption, by assumption⟩
  · omega
theorem c_implParametersOfLaw (o p : Bool) (m : Int) (t : List (List Int)) (hl : t.length ≤ 1048576) (hr : lensOk t) : PureCall Try.prog 19 [.agg [dint m, .list o 1 (rows p t)]] (poRes m t) := by
  have h0 := c_IsLaw o p m t hl hr
  cases hc : lawB m t with
  | false =>
    rw [hc] at h0
    have e : poCode m t = 1 := by unfold poCode; rw [if_neg (by simp [hc])]
    rw [poRes, if_neg (by omega), e]
    refine pure_of_vcR Try.tabOk mixOrd Try.func19 rfl rfl ?_
    conv => whnf
    repeat' first | ((first | refine And.intro (Or.inl rfl) ?_ | (apply Exists.intro; refine And.intro (h0) ?_) | (refine And.intro (fun h => ?_) (fun h => ?_) <;> (try simp only [cnt1, ints_length] at h) <;> first | (exfalso; omega) | skip) | refine And.intro (show slotsOk _ = true by decide +kernel) ?_ | refine And.intro vOb ?_ | (apply Exists.intro; refine And.intro vObt ?_) | (apply Exists.intro; refine And.intro vObx ?_) | refine And.intro vArT ?_ | refine Or.inl ?_) <;> conv => whnf) | fail
    all_goals first | rfl | (exfalso; simp_all)
  | true =>
    rw [hc] at h0
    obtain ⟨hp, hL⟩ := lawB_mdP hc
    obtain ⟨hm, h3, h4, _⟩ := plB_md hp
    have hdeg := c_degreeP o p t.length (by omega) (rd2 m t)
    simp only [PlD, plB_T hp] at hdeg
    by_cases h11 : t.length = 2
    · have e : poCode m t = 5 := by unfold poCode; rw [if_pos hc, if_pos h11]
      rw [poRes, if_neg (by omega), e]
      refine pure_of_vcR Try.tabOk mixOrd Try.func19 rfl rfl ?_
      conv => whnf
      repeat' first | ((first | refine And.intro (Or.inl rfl) ?_ | (apply Exists.intro; refine And.intro (h0) ?_) | (apply Exists.intro; refine And.intro (hdeg) ?_) | (refine And.intro (fun h => ?_) (fun h => ?_) <;> (try simp only [cnt1, ints_length] at h) <;> first | (exfalso; omega) | skip) | refine And.intro (show slotsOk _ = true by decide +kernel) ?_ | refine And.intro vOb ?_ | (apply Exists.intro; refine And.intro vObt ?_) | (apply Exists.intro; refine And.intro vObx ?_) | refine And.intro vArT ?_ | refine Or.inl ?_) <;> conv => whnf) | fail
      all_goals first | rfl | (exfalso; simp_all; done) | (exfalso; omega) | (exfalso; simp only [cnt1, rows_length] at *; omega) | (exfalso; simp_all; omega)
    · have e : poCode m t = 0 := by unfold poCode; rw [if_pos hc, if_neg h11]
      rw [poRes, if_pos e]
      have key := c_parameters hm o p t.length ⟨by omega, by omega⟩ (rd2 m t) hL
      rw [show PlD m o p t.length (rd2 m t) = .agg [dint m, .list o 1 (rows p t)] by simp only [PlD, plB_T hp]] at key
      refine pure_of_vcR Try.tabOk mixOrd Try.func19 rfl rfl ?_
      conv => whnf
      repeat' first | ((first | refine And.intro (Or.inl rfl) ?_ | (apply Exists.intro; refine And.intro (h0) ?_) | (apply Exists.intro; refine And.intro (hdeg) ?_) | (apply Exists.intro; refine And.intro (key) ?_) | (refine And.intro (fun h => ?_) (fun h => ?_) <;> (try simp only [cnt1, ints_length] at h) <;> first | (exfalso; omega) | skip) | refine And.intro (show slotsOk _ = true by decide +kernel) ?_ | refine And.intro vOb ?_ | (apply Exists.intro; refine And.intro vObt ?_) | (apply Exists.intro; refine And.intro vObx ?_) | refine And.intro vArT ?_ | refine Or.inl ?_) <;> conv => whnf) | fail
      all_goals first | rfl | (exfalso; simp_all; done) | (exfalso; omega) | (exfalso; simp only [cnt1, rows_length] at *; omega) | (exfalso; simp_all; omega)
theorem c_specParametersOfLaw (o p : Bool) (m : Int) (t : List (List Int)) (hl : t.length ≤ 1048576) (hr : lensOk t) : PureCall Try.prog 18 [.agg [dint m, .list o 1 (rows p t)]] (poRes m t) := by
  have h0 := c_l04Is o p m t hl hr
  cases hc : lawB m t with
  | false =>
    rw [hc] at h0
    have e : poCode m t = 1 := by unfold poCode; rw [if_neg (by simp [hc])]
    rw [poRes, if_neg (by omega), e]
    refine pure_of_vcR Try.tabOk mixOrd Try.func18 rfl rfl ?_
    conv => whnf
    repeat' first | ((first | refine And.intro (Or.inl rfl) ?_ | (apply Exists.intro; refine And.intro (h0) ?_) | (refine And.intro (fun h => ?_) (fun h => ?_) <;> (try simp only [cnt1, ints_length] at h) <;> first | (exfalso; omega) | skip) | refine And.intro (show slotsOk _ = true by decide +kernel) ?_ | refine And.intro vOb ?_ | (apply Exists.intro; refine And.intro vObt ?_) | (apply Exists.intro; refine And.intro vObx ?_) | refine And.intro vArT ?_ | refine Or.inl ?_) <;> conv => whnf) | fail
    all_goals first | rfl | (exfalso; simp_all)
  | true =>
    rw [hc] at h0
    obtain ⟨hp, hL⟩ := lawB_mdP hc
    obtain ⟨hm, h3, h4, _⟩ := plB_md hp
    by_cases h11 : t.length = 2
    · have e : poCode m t = 5 := by unfold poCode; rw [if_pos hc, if_pos h11]
      rw [poRes, if_neg (by omega), e]
      refine pure_of_vcR Try.tabOk mixOrd Try.func18 rfl rfl ?_
      conv => whnf
      repeat' first | ((first | refine And.intro (Or.inl rfl) ?_ | (apply Exists.intro; refine And.intro (h0) ?_) | refine Or.inr (inl_ofR Try.tabOk mixOrd _ Try.func23 rfl rfl ?_) | (refine And.intro (fun h => ?_) (fun h => ?_) <;> (try simp only [cnt1, ints_length] at h) <;> first | (exfalso; omega) | skip) | refine And.intro (show slotsOk _ = true by decide +kernel) ?_ | refine And.intro vOb ?_ | (apply Exists.intro; refine And.intro vObt ?_) | (apply Exists.intro; refine And.intro vObx ?_) | refine And.intro vArT ?_ | refine Or.inl ?_) <;> conv => whnf) | fail
      all_goals first | rfl | (exfalso; simp_all; done) | (exfalso; omega) | (exfalso; simp only [cnt1, rows_length] at *; omega) | (exfalso; simp_all; omega)
    · have e : poCode m t = 0 := by unfold poCode; rw [if_pos hc, if_neg h11]
      rw [poRes, if_pos e]
      have key := c_l07Parameters hm o p t.length ⟨by omega, by omega⟩ (rd2 m t) hL
      rw [show TbD o p t.length (rd2 m t) = .list o 1 (rows p t) by simp only [TbD, plB_T hp]] at key
      refine pure_of_vcR Try.tabOk mixOrd Try.func18 rfl rfl ?_
      conv => whnf
      repeat' first | ((first | refine And.intro (Or.inl rfl) ?_ | (apply Exists.intro; refine And.intro (h0) ?_) | refine Or.inr (inl_ofR Try.tabOk mixOrd _ Try.func23 rfl rfl ?_) | (apply Exists.intro; refine And.intro (key) ?_) | (refine And.intro (fun h => ?_) (fun h => ?_) <;> (try simp only [cnt1, ints_length] at h) <;> first | (exfalso; omega) | skip) | refine And.intro (show slotsOk _ = true by decide +kernel) ?_ | refine And.intro vOb ?_ | (apply Exists.intro; refine And.intro vObt ?_) | (apply Exists.intro; refine And.intro vObx ?_) | refine And.intro vArT ?_ | refine Or.inl ?_) <;> conv => whnf) | fail
      all_goals first | rfl | (exfalso; simp_all; done) | (exfalso; omega) | (exfalso; simp only [cnt1, rows_length] at *; omega) | (exfalso; simp_all; omega)
theorem c_FnExactParametersOfLaw (m : Int) (t : List (List Int)) (_ : -9223372036854775808 ≤ m ∧ m ≤ 9223372036854775807) (g : (∀ k, k < t.length → (t.getD k []).length ≤ 9223372036854775807) ∧ t.length ≤ 9223372036854775807) : PureCall Try.prog 5 [.agg [dint m, .list false 1 (rows false t)]] (dbool true) := by
  have hT := szT_leP (n := 1048576) (t := t) (by omega)
  refine pure_of_vcR Try.tabOk mixOrd Try.func5 rfl rfl ?_
  conv => whnf
  repeat' first | ((first | refine And.intro (Or.inl rfl) ?_ | (apply Exists.intro; refine And.intro (c_szPlane _ _ _ t _ (by omega) g.2 g.1) ?_) | (refine And.intro (fun h => ?_) (fun h => ?_) <;> (try simp only [cnt1, ints_length] at h) <;> first | (exfalso; omega) | skip) | refine And.intro (show slotsOk _ = true by decide +kernel) ?_ | refine And.intro vOb ?_ | (apply Exists.intro; refine And.intro vObt ?_) | (apply Exists.intro; refine And.intro vObx ?_) | refine And.intro vArT ?_ | refine Or.inl ?_) <;> conv => whnf) | fail
  have hA : ¬ szT 1048576 t < 0 := by assumption
  obtain ⟨hl, hr⟩ := szT_ok (by omega) hA
  have htot : totL t ≤ 1048576 := by unfold szT at hA; split at hA <;> omega
  have e1 := c_specParametersOfLaw false true m t hl hr
  have e3 := c_implParametersOfLaw false true m t hl hr
  by_cases hc : poCode m t = 0
  · rw [poRes, if_pos hc] at e1 e3
    have hN : t.length ≤ 11 := by
      obtain ⟨h1, h2⟩ := poCode_0 hc
      obtain ⟨hp, hL⟩ := lawB_mdP h1
      obtain ⟨hm, h3, h4, _⟩ := plB_md hp
      exact h4
    obtain ⟨L0, hL0⟩ : ∃ L0, parL (rd2 m t) (t.length - 2) = L0 := ⟨_, rfl⟩
    have hlen : L0.length ≤ 9 := by rw [← hL0]; simp [parL]; omega
    rw [hL0] at e1 e3
    clear hL0
    repeat' first | ((first | refine And.intro (Or.inl rfl) ?_ | (apply Exists.intro; refine And.intro (c_toPlane _ _ _ _ hl hr) ?_) | (apply Exists.intro; refine And.intro (e1) ?_) | (apply Exists.intro; refine And.intro (e3) ?_) | (apply Exists.intro; refine And.intro (c_eqInt64S _ _ _ _ vAr) ?_) | (apply Exists.intro; refine And.intro (c_eqPlane _ _ _ _ _ _ _ _ hl hr) ?_) | refine Or.inr (inl_ofR Try.tabOk mixOrd _ Try.func11 rfl rfl ?_) | refine Or.inr (inlMarkT rfl vAr vAr ⟨vAr, vAr⟩ ?_) | refine Or.inr (inlMark rfl vAr ⟨vAr, vAr⟩ ?_) | (apply Exists.intro; refine And.intro (c_heldInt64S _ _ _ ⟨vAr, vAr⟩) ?_) | (apply Exists.intro; refine And.intro (sub_rows vArS) ?_) | (refine And.intro (fun h => ?_) (fun h => ?_) <;> (try simp only [cnt1, ints_length] at h)) | refine And.intro (show slotsOk _ = true by decide +kernel) ?_ | refine And.intro vOb ?_ | (apply Exists.intro; refine And.intro vObt ?_) | (apply Exists.intro; refine And.intro vObx ?_) | refine And.intro vArT ?_ | refine And.intro (vArS) ?_ | refine Or.inl ?_) <;> conv => whnf) | fail
    all_goals (exfalso; first | omega | (simp_all; done) | (simp_all; omega))
  · rw [poRes, if_neg hc] at e1 e3
    repeat' first | ((first | refine And.intro (Or.inl rfl) ?_ | (apply Exists.intro; refine And.intro (c_toPlane _ _ _ _ hl hr) ?_) | (apply Exists.intro; refine And.intro (e1) ?_) | (apply Exists.intro; refine And.intro (e3) ?_) | (apply Exists.intro; refine And.intro (c_eqNil) ?_) | (apply Exists.intro; refine And.intro (c_eqPlane _ _ _ _ _ _ _ _ hl hr) ?_) | refine Or.inr (inl_ofR Try.tabOk mixOrd _ Try.func11 rfl rfl ?_) | refine Or.inr (inlMarkT rfl vAr vAr ⟨vAr, vAr⟩ ?_) | (apply Exists.intro; refine And.intro (c_markNil _ vAr) ?_) | (apply Exists.intro; refine And.intro (c_heldNil _ vAr) ?_) | (apply Exists.intro; refine And.intro (sub_rows vArS) ?_) | (refine And.intro (fun h => ?_) (fun h => ?_) <;> (try simp only [cnt1, ints_length] at h)) | refine And.intro (show slotsOk _ = true by decide +kernel) ?_ | refine And.intro vOb ?_ | (apply Exists.intro; refine And.intro vObt ?_) | (apply Exists.intro; refine And.intro vObx ?_) | refine And.intro vArT ?_ | refine And.intro (vArS) ?_ | refine Or.inl ?_) <;> conv => whnf) | fail
    all_goals (exfalso; first | omega | (simp_all; done) | (simp_all; omega))
end Go.Proofs

