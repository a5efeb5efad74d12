/- The law of the first extension. -/
-- tables
-- rec
import Derived.Test.YtbaojihanfkofaaK98
import Derived.Test.YtbaojihanfkofaaK85
import Derived.Test.YtbaojihanfkofaaK30
import Derived.Test.YtbaojihanfkofaaKT
namespace Go.Proofs
open Go Go.Vm Go.Fg Go.Fg.PS
set_option maxRecDepth 100000
set_option maxHeartbeats 4000000
set_option linter.unusedSimpArgs false
set_option linter.unusedVariables false
theorem lawB_md {m : Int} {t : List (List Int)} (h : lawB m t = true) : plB m t = true ∧ LawP (rd2 m t) t.length := by
  simp only [lawB, trL, Bool.and_eq_true, decide_eq_true_eq] at h
  exact h
theorem szT_le {n : Int} {t : List (List Int)} (hn : 0 ≤ n) : szT n t ≤ n := by
  unfold szT; split <;> omega
def zplF : D := .agg [dint 0, .lit (.slice none 0 0)]
noncomputable def feCode (m : Int) (t : List (List Int)) : Int := if lawB m t = true then if t.length = 11 then 5 else 0 else 1
noncomputable def feRes (m : Int) (t : List (List Int)) (v : Nat → Zm m) : D := if feCode m t = 0 then .tup [PlD m true true (t.length + 1) (extP (rd2 m t) t.length v), dint 0] else .tup [zplF, dint (feCode m t)]
theorem feCode_0 {m : Int} {t : List (List Int)} (h : feCode m t = 0) : lawB m t = true ∧ t.length ≠ 11 := by
  unfold feCode at h
  split at h
  · split at h
    · omega
    · exact ⟨by assumption, by assumption⟩
  · omega
theorem c_implFirstExtension (o p : Bool) (m : Int) (t : List (List Int)) (hl : t.length ≤ 1048576) (hr : lensOk t) (v : Nat → Zm m) (hv : feCode m t = 0 → First (lowP (rd2 m t) t.length) t.length v) : PureCall Try.prog 9 [.agg [dint m, .list o 1 (rows p t)]] (feRes m t v) := by
  have h0 := c_IsLaw o p m t hl hr
  cases hc : lawB m t with
  | false =>
    rw [hc] at h0
    have e : feCode m t = 1 := by unfold feCode; rw [if_neg (by simp [hc])]
    rw [feRes, if_neg (by omega), e]
    refine pure_of_vcR Try.tabOk mixOrd Try.func9 rfl rfl ?_
    conv => whnf
    repeat' first | ((first | refine And.intro (Or.inl rfl) ?_ | (apply Exists.intro; refine And.intro (h0) ?_) | refine Or.inr (inl_ofR Try.tabOk mixOrd _ Try.func27 rfl rfl ?_) | (refine And.intro (fun h => ?_) (fun h => ?_) <;> (try simp only [cnt1, ints_length] at h) <;> first | (exfalso; omega) | skip) | refine And.intro (show slotsOk _ = true by decide +kernel) ?_ | refine And.intro vOb ?_ | (apply Exists.intro; refine And.intro vObt ?_) | (apply Exists.intro; refine And.intro vObx ?_) | refine And.intro vArT ?_ | refine Or.inl ?_) <;> conv => whnf) | fail
    all_goals first | rfl | (exfalso; simp_all)
  | true =>
    rw [hc] at h0
    obtain ⟨hp, hL⟩ := lawB_md hc
    obtain ⟨hm, h3, h4, _⟩ := plB_md hp
    have hdeg := c_degreeP o p t.length (by omega) (rd2 m t)
    simp only [PlD, plB_T hp] at hdeg
    by_cases h11 : t.length = 11
    · have e : feCode m t = 5 := by unfold feCode; rw [if_pos hc, if_pos h11]
      rw [feRes, if_neg (by omega), e]
      refine pure_of_vcR Try.tabOk mixOrd Try.func9 rfl rfl ?_
      conv => whnf
      repeat' first | ((first | refine And.intro (Or.inl rfl) ?_ | (apply Exists.intro; refine And.intro (h0) ?_) | refine Or.inr (inl_ofR Try.tabOk mixOrd _ Try.func27 rfl rfl ?_) | (apply Exists.intro; refine And.intro (hdeg) ?_) | (refine And.intro (fun h => ?_) (fun h => ?_) <;> (try simp only [cnt1, ints_length] at h) <;> first | (exfalso; omega) | skip) | refine And.intro (show slotsOk _ = true by decide +kernel) ?_ | refine And.intro vOb ?_ | (apply Exists.intro; refine And.intro vObt ?_) | (apply Exists.intro; refine And.intro vObx ?_) | refine And.intro vArT ?_ | refine Or.inl ?_) <;> conv => whnf) | fail
      all_goals first | rfl | (exfalso; simp_all; done) | (exfalso; omega) | (exfalso; simp only [cnt1, rows_length] at *; omega) | (exfalso; simp_all; omega)
    · have e : feCode m t = 0 := by unfold feCode; rw [if_pos hc, if_neg h11]
      rw [feRes, if_pos e]
      have key := c_firstExtension hm o p t.length ⟨h3, by omega⟩ (rd2 m t) hL v (hv e)
      rw [show PlD m o p t.length (rd2 m t) = .agg [dint m, .list o 1 (rows p t)] by simp only [PlD, plB_T hp]] at key
      refine pure_of_vcR Try.tabOk mixOrd Try.func9 rfl rfl ?_
      conv => whnf
      repeat' first | ((first | refine And.intro (Or.inl rfl) ?_ | (apply Exists.intro; refine And.intro (h0) ?_) | refine Or.inr (inl_ofR Try.tabOk mixOrd _ Try.func27 rfl rfl ?_) | (apply Exists.intro; refine And.intro (hdeg) ?_) | (apply Exists.intro; refine And.intro (key) ?_) | (refine And.intro (fun h => ?_) (fun h => ?_) <;> (try simp only [cnt1, ints_length] at h) <;> first | (exfalso; omega) | skip) | refine And.intro (show slotsOk _ = true by decide +kernel) ?_ | refine And.intro vOb ?_ | (apply Exists.intro; refine And.intro vObt ?_) | (apply Exists.intro; refine And.intro vObx ?_) | refine And.intro vArT ?_ | refine Or.inl ?_) <;> conv => whnf) | fail
      all_goals first | rfl | (exfalso; simp_all; done) | (exfalso; omega) | (exfalso; simp only [cnt1, rows_length] at *; omega) | (exfalso; simp_all; omega)
theorem mk_l03MakeF : MakesAgg Try.prog 24 := fun m b n c => by
  refine pure_of_vcR Try.tabOk mixOrd Try.func24 rfl rfl ?_
  conv => whnf
  repeat' first | ((first | refine And.intro (Or.inl rfl) ?_ | (refine And.intro (fun h => ?_) (fun h => ?_) <;> (try simp only [cnt1, ints_length] at h)) | refine And.intro (show slotsOk _ = true by decide +kernel) ?_ | refine And.intro vOb ?_ | (apply Exists.intro; refine And.intro vObt ?_) | (apply Exists.intro; refine And.intro vObx ?_) | refine And.intro vArT ?_ | refine Or.inl ?_) <;> conv => whnf) | fail
theorem c_specFirstExtension (o p : Bool) (m : Int) (t : List (List Int)) (hl : t.length ≤ 1048576) (hr : lensOk t) (v : Nat → Zm m) (hv : feCode m t = 0 → First (lowP (rd2 m t) t.length) t.length v) : PureCall Try.prog 7 [.agg [dint m, .list o 1 (rows p t)]] (feRes m t v) := by
  have h0 := c_l04Is o p m t hl hr
  cases hc : lawB m t with
  | false =>
    rw [hc] at h0
    have e : feCode m t = 1 := by unfold feCode; rw [if_neg (by simp [hc])]
    rw [feRes, if_neg (by omega), e]
    refine pure_of_vcR Try.tabOk mixOrd Try.func7 rfl rfl ?_
    conv => whnf
    repeat' first | ((first | refine And.intro (Or.inl rfl) ?_ | (apply Exists.intro; refine And.intro (h0) ?_) | (refine And.intro (fun h => ?_) (fun h => ?_) <;> (try simp only [cnt1, ints_length] at h) <;> first | (exfalso; omega) | skip) | refine And.intro (show slotsOk _ = true by decide +kernel) ?_ | refine And.intro vOb ?_ | (apply Exists.intro; refine And.intro vObt ?_) | (apply Exists.intro; refine And.intro vObx ?_) | refine And.intro vArT ?_ | refine Or.inl ?_) <;> conv => whnf) | fail
    all_goals first | rfl | (exfalso; simp_all)
  | true =>
    rw [hc] at h0
    obtain ⟨hp, hL⟩ := lawB_md hc
    obtain ⟨hm, h3, h4, _⟩ := plB_md hp
    by_cases h11 : t.length = 11
    · have e : feCode m t = 5 := by unfold feCode; rw [if_pos hc, if_pos h11]
      rw [feRes, if_neg (by omega), e]
      refine pure_of_vcR Try.tabOk mixOrd Try.func7 rfl rfl ?_
      conv => whnf
      repeat' first | ((first | refine And.intro (Or.inl rfl) ?_ | (apply Exists.intro; refine And.intro (h0) ?_) | refine Or.inr (inl_ofR Try.tabOk mixOrd _ Try.func23 rfl rfl ?_) | (refine And.intro (fun h => ?_) (fun h => ?_) <;> (try simp only [cnt1, ints_length] at h) <;> first | (exfalso; omega) | skip) | refine And.intro (show slotsOk _ = true by decide +kernel) ?_ | refine And.intro vOb ?_ | (apply Exists.intro; refine And.intro vObt ?_) | (apply Exists.intro; refine And.intro vObx ?_) | refine And.intro vArT ?_ | refine Or.inl ?_) <;> conv => whnf) | fail
      all_goals first | rfl | (exfalso; simp_all; done) | (exfalso; omega) | (exfalso; simp only [cnt1, rows_length] at *; omega) | (exfalso; simp_all; omega)
    · have e : feCode m t = 0 := by unfold feCode; rw [if_pos hc, if_neg h11]
      rw [feRes, if_pos e]
      have key := c_l07First hm o p t.length ⟨h3, by omega⟩ (rd2 m t) (by rw [hL.1 0 (by omega)]; exact if_neg (by omega)) v (hv e)
      rw [show TbD o p t.length (rd2 m t) = .list o 1 (rows p t) by simp only [TbD, plB_T hp]] at key
      refine pure_of_vcR Try.tabOk mixOrd Try.func7 rfl rfl ?_
      conv => whnf
      repeat' first | ((first | refine And.intro (Or.inl rfl) ?_ | (apply Exists.intro; refine And.intro (h0) ?_) | refine Or.inr (inl_ofR Try.tabOk mixOrd _ Try.func23 rfl rfl ?_) | (apply Exists.intro; refine And.intro (key) ?_) | refine Or.inl (Or.inr (And.intro (mk_l03MakeF) ?_)) | refine Or.inr (And.intro (mk_l03MakeF) ?_) | (refine And.intro (fun h => ?_) (fun h => ?_) <;> (try simp only [cnt1, ints_length] at h) <;> first | (exfalso; omega) | skip) | refine And.intro (show slotsOk _ = true by decide +kernel) ?_ | refine And.intro vOb ?_ | (apply Exists.intro; refine And.intro vObt ?_) | (apply Exists.intro; refine And.intro vObx ?_) | refine And.intro vArT ?_ | refine Or.inl ?_) <;> conv => whnf) | fail
      all_goals first | rfl | (exfalso; simp_all; done) | (exfalso; omega) | (exfalso; simp only [cnt1, rows_length] at *; omega) | (exfalso; simp_all; omega)
theorem c_FnExactFirstExtension (m : Int) (t : List (List Int)) (_ : -9223372036854775808 ≤ m ∧ m ≤ 9223372036854775807) (g : (∀ k, k < t.length → (t.getD k []).length ≤ 9223372036854775807) ∧ t.length ≤ 9223372036854775807) : PureCall Try.prog 3 [.agg [dint m, .list false 1 (rows false t)]] (dbool true) := by
  have hT := szT_le (n := 1048576) (t := t) (by omega)
  refine pure_of_vcR Try.tabOk mixOrd Try.func3 rfl rfl ?_
  conv => whnf
  repeat' first | ((first | refine And.intro (Or.inl rfl) ?_ | (apply Exists.intro; refine And.intro (c_szPlane _ _ _ t _ (by omega) g.2 g.1) ?_) | (refine And.intro (fun h => ?_) (fun h => ?_) <;> (try simp only [cnt1, ints_length] at h) <;> first | (exfalso; omega) | skip) | refine And.intro (show slotsOk _ = true by decide +kernel) ?_ | refine And.intro vOb ?_ | (apply Exists.intro; refine And.intro vObt ?_) | (apply Exists.intro; refine And.intro vObx ?_) | refine And.intro vArT ?_ | refine Or.inl ?_) <;> conv => whnf) | fail
  have hA : ¬ szT 1048576 t < 0 := by assumption
  obtain ⟨hl, hr⟩ := szT_ok (by omega) hA
  have htot : totL t ≤ 1048576 := by unfold szT at hA; split at hA <;> omega
  have hex : ∃ v : Nat → Zm m, feCode m t = 0 → First (lowP (rd2 m t) t.length) t.length v := by
    by_cases hc : feCode m t = 0
    · obtain ⟨h1, h2⟩ := feCode_0 hc
      obtain ⟨hp, hL⟩ := lawB_md h1
      obtain ⟨hm, h3, h4, _⟩ := plB_md hp
      obtain ⟨v, hv⟩ := First.ex (n := t.length) hm.pos (lw_of h3 hL) ⟨h3, by omega⟩
      exact ⟨v, fun _ => hv⟩
    · exact ⟨fun _ => 0, fun h => absurd h hc⟩
  obtain ⟨v, hv⟩ := hex
  have e1 := c_specFirstExtension false true m t hl hr v hv
  have e3 := c_implFirstExtension false true m t hl hr v hv
  by_cases hc : feCode m t = 0
  · rw [feRes, if_pos hc] at e1 e3
    have hN : t.length ≤ 11 := by
      obtain ⟨h1, h2⟩ := feCode_0 hc
      obtain ⟨hp, hL⟩ := lawB_md h1
      obtain ⟨hm, h3, h4, _⟩ := plB_md hp
      exact h4
    generalize extP (rd2 m t) t.length v = f at e1 e3
    obtain ⟨N, hN2⟩ : ∃ N, t.length + 1 = N := ⟨_, rfl⟩
    rw [hN2] at e1 e3
    have hN3 : N ≤ 12 := by omega
    have hft := totL_Tb (n := N) f
    have hft2 : totL (Tb N f) ≤ 144 := Nat.le_trans hft (Nat.mul_le_mul hN3 hN3)
    repeat' first | ((first | refine And.intro (Or.inl rfl) ?_ | (apply Exists.intro; refine And.intro (c_toPlane _ _ _ _ hl hr) ?_) | (apply Exists.intro; refine And.intro (e1) ?_) | (apply Exists.intro; refine And.intro (e3) ?_) | (apply Exists.intro; refine And.intro (c_eqPlane _ _ _ _ _ _ _ _ vAr (lensOk_Tb vAr _)) ?_) | (apply Exists.intro; refine And.intro (c_eqPlane _ _ _ _ _ _ _ _ hl hr) ?_) | refine Or.inr (inl_ofR Try.tabOk mixOrd _ Try.func11 rfl rfl ?_) | refine Or.inr (inlMarkT rfl vAr vAr ⟨vAr, vAr⟩ ?_) | (apply Exists.intro; refine And.intro (c_heldPlane _ _ _ _ _ vAr ⟨vAr, vAr⟩) ?_) | (apply Exists.intro; refine And.intro (sub_rows vArS) ?_) | (refine And.intro (fun h => ?_) (fun h => ?_) <;> (try simp only [cnt1, ints_length] at h)) | refine And.intro (show slotsOk _ = true by decide +kernel) ?_ | refine And.intro vOb ?_ | (apply Exists.intro; refine And.intro vObt ?_) | (apply Exists.intro; refine And.intro vObx ?_) | refine And.intro vArT ?_ | refine And.intro (vArS) ?_ | refine Or.inl ?_) <;> conv => whnf) | fail
    all_goals (exfalso; first | omega | (simp_all; done) | (simp_all; omega))
  · rw [feRes, if_neg hc] at e1 e3
    repeat' first | ((first | refine And.intro (Or.inl rfl) ?_ | (apply Exists.intro; refine And.intro (c_toPlane _ _ _ _ hl hr) ?_) | (apply Exists.intro; refine And.intro (e1) ?_) | (apply Exists.intro; refine And.intro (e3) ?_) | (apply Exists.intro; refine And.intro (c_eqPlaneNil) ?_) | (apply Exists.intro; refine And.intro (c_eqPlane _ _ _ _ _ _ _ _ hl hr) ?_) | refine Or.inr (inl_ofR Try.tabOk mixOrd _ Try.func11 rfl rfl ?_) | refine Or.inr (inlMarkT rfl vAr vAr ⟨vAr, vAr⟩ ?_) | (apply Exists.intro; refine And.intro (c_markNilT _ vAr) ?_) | (apply Exists.intro; refine And.intro (c_heldPlaneNil _ vAr) ?_) | (apply Exists.intro; refine And.intro (sub_rows vArS) ?_) | (refine And.intro (fun h => ?_) (fun h => ?_) <;> (try simp only [cnt1, ints_length] at h)) | refine And.intro (show slotsOk _ = true by decide +kernel) ?_ | refine And.intro vOb ?_ | (apply Exists.intro; refine And.intro vObt ?_) | (apply Exists.intro; refine And.intro vObx ?_) | refine And.intro vArT ?_ | refine And.intro (vArS) ?_ | refine Or.inl ?_) <;> conv => whnf) | fail
    all_goals (exfalso; first | omega | (simp_all; done) | (simp_all; omega))
end Go.Proofs

