/- The law of the laws of parameters. -/
-- tables
-- rec
import Derived.Test.YtbaojihanfkofaaK106
import Derived.Test.YtbaojihanfkofaaKT
namespace Go.Proofs
open Go Go.Vm Go.Fg Go.Fg.PS
set_option maxRecDepth 100000
set_option maxHeartbeats 4000000
set_option linter.unusedSimpArgs false
set_option linter.unusedVariables false
theorem numsB_in {m : Int} {l : List Int} (h : numsB m l = true) {k : Nat} (hk : k < l.length) : 0 ≤ l.getD k 0 ∧ l.getD k 0 < m := by
  unfold numsB at h
  have h1 := List.all_eq_true.1 h (l.getD k 0) (by rw [List.getD_eq_getElem?_getD, List.getElem?_eq_getElem hk]; exact List.getElem_mem hk)
  simp only [inB, decide_eq_true_eq] at h1
  omega
def zplL : D := .agg [dint 0, .lit (.slice none 0 0)]
def lpCode (m : Int) (l : List Int) : Int := if codeN m l = 0 then (if 1 ≤ l.length ∧ l.length ≤ 9 then 0 else 2) else codeN m l
noncomputable def lpRes (m : Int) (l : List Int) : D := if lpCode m l = 0 then .tup [PlD m true true (l.length + 2) (lawK m l l.length), dint 0] else .tup [zplL, dint (lpCode m l)]
theorem lpCode_0 {m : Int} {l : List Int} (h : lpCode m l = 0) : codeN m l = 0 ∧ 1 ≤ l.length ∧ l.length ≤ 9 := by
  unfold lpCode at h
  split at h
  · split at h
    · exact ⟨by assumption, by omega⟩
    · omega
  · omega
theorem lpCode_1 {m : Int} {l : List Int} (h : lpCode m l ≠ 0) (h1 : codeN m l = 0) : lpCode m l = 2 ∧ ¬ (1 ≤ l.length ∧ l.length ≤ 9) := by
  unfold lpCode at h ⊢
  rw [if_pos h1] at h ⊢
  split at h
  · exact absurd rfl h
  · rename_i h2
    exact ⟨if_neg h2, h2⟩
theorem c_implLawOfParameters (o : Bool) (m : Int) (l : List Int) (hl : l.length ≤ 1048576) : PureCall Try.prog 15 [dint m, .list o 1 (ints l)] (lpRes m l) := by
  have hcode := c_modular o m l hl
  by_cases hc : lpCode m l = 0
  · obtain ⟨h1, h2, h3⟩ := lpCode_0 hc
    obtain ⟨hm, hn⟩ := codeN_0 h1
    rw [h1] at hcode
    rw [lpRes, if_pos hc]
    refine pure_of_vcR Try.tabOk mixOrd Try.func15 rfl rfl ?_
    conv => whnf
    repeat' first | ((first | refine And.intro (Or.inl rfl) ?_ | (apply Exists.intro; refine And.intro (hcode) ?_) | (apply Exists.intro; refine And.intro (c_impl_in _ _ _) ?_) | (apply Exists.intro; refine And.intro (c_lawOfParameters hm _ l h3 (fun k hk => numsB_in hn hk)) ?_) | (refine And.intro (fun h => ?_) (fun h => ?_) <;> (try simp only [cnt1, ints_length] at h) <;> first | (exfalso; omega) | skip) | refine And.intro (show slotsOk _ = true by decide +kernel) ?_ | refine And.intro vOb ?_ | (apply Exists.intro; refine And.intro vObt ?_) | (apply Exists.intro; refine And.intro vObx ?_) | refine And.intro vArT ?_ | refine Or.inl ?_) <;> conv => whnf) | fail
    all_goals first | rfl | (exfalso; simp_all [inB]; done) | (exfalso; simp_all [inB]; omega)
  · rw [lpRes, if_neg hc]
    by_cases h1 : codeN m l = 0
    · obtain ⟨e, h2⟩ := lpCode_1 hc h1
      rw [h1] at hcode
      rw [e]
      refine pure_of_vcR Try.tabOk mixOrd Try.func15 rfl rfl ?_
      conv => whnf
      repeat' first | ((first | refine And.intro (Or.inl rfl) ?_ | (apply Exists.intro; refine And.intro (hcode) ?_) | (apply Exists.intro; refine And.intro (c_impl_in _ _ _) ?_) | (refine And.intro (fun h => ?_) (fun h => ?_) <;> (try simp only [cnt1, ints_length] at h) <;> first | (exfalso; omega) | skip) | refine And.intro (show slotsOk _ = true by decide +kernel) ?_ | refine And.intro vOb ?_ | (apply Exists.intro; refine And.intro vObt ?_) | (apply Exists.intro; refine And.intro vObx ?_) | refine And.intro vArT ?_ | refine Or.inl ?_) <;> conv => whnf) | fail
      all_goals first | rfl | (exfalso; simp_all [inB]; done) | (exfalso; simp_all [inB]; omega)
    · rw [show lpCode m l = codeN m l from if_neg h1]
      refine pure_of_vcR Try.tabOk mixOrd Try.func15 rfl rfl ?_
      conv => whnf
      repeat' first | ((first | refine And.intro (Or.inl rfl) ?_ | (apply Exists.intro; refine And.intro (hcode) ?_) | (apply Exists.intro; refine And.intro (c_impl_in _ _ _) ?_) | (refine And.intro (fun h => ?_) (fun h => ?_) <;> (try simp only [cnt1, ints_length] at h) <;> first | (exfalso; omega) | skip) | refine And.intro (show slotsOk _ = true by decide +kernel) ?_ | refine And.intro vOb ?_ | (apply Exists.intro; refine And.intro vObt ?_) | (apply Exists.intro; refine And.intro vObx ?_) | refine And.intro vArT ?_ | refine Or.inl ?_) <;> conv => whnf) | fail
      all_goals first | rfl | (exfalso; omega) | (exfalso; simp_all; done)
theorem mk_l03MakeL : MakesAgg Try.prog 24 := fun m b n c => by
  refine pure_of_vcR Try.tabOk mixOrd Try.func24 rfl rfl ?_
  conv => whnf
  repeat' first | ((first | refine And.intro (Or.inl rfl) ?_ | (refine And.intro (fun h => ?_) (fun h => ?_) <;> (try simp only [cnt1, ints_length] at h)) | refine And.intro (show slotsOk _ = true by decide +kernel) ?_ | refine And.intro vOb ?_ | (apply Exists.intro; refine And.intro vObt ?_) | (apply Exists.intro; refine And.intro vObx ?_) | refine And.intro vArT ?_ | refine Or.inl ?_) <;> conv => whnf) | fail
theorem c_specLawOfParameters (o : Bool) (m : Int) (l : List Int) (hl : l.length ≤ 1048576) : PureCall Try.prog 13 [dint m, .list o 1 (ints l)] (lpRes m l) := by
  have hcode := c_l01Code o m l hl
  by_cases hc : lpCode m l = 0
  · obtain ⟨h1, h2, h3⟩ := lpCode_0 hc
    obtain ⟨hm, hn⟩ := codeN_0 h1
    rw [h1] at hcode
    rw [lpRes, if_pos hc]
    refine pure_of_vcR Try.tabOk mixOrd Try.func13 rfl rfl ?_
    conv => whnf
    repeat' first | ((first | refine And.intro (Or.inl rfl) ?_ | (apply Exists.intro; refine And.intro (hcode) ?_) | (apply Exists.intro; refine And.intro (c_l07Law hm _ l ⟨h2, h3⟩ (fun k hk => numsB_in hn hk)) ?_) | refine Or.inl (Or.inr (And.intro (mk_l03MakeL) ?_)) | refine Or.inr (And.intro (mk_l03MakeL) ?_) | (refine And.intro (fun h => ?_) (fun h => ?_) <;> (try simp only [cnt1, ints_length] at h) <;> first | (exfalso; omega) | skip) | refine And.intro (show slotsOk _ = true by decide +kernel) ?_ | refine And.intro vOb ?_ | (apply Exists.intro; refine And.intro vObt ?_) | (apply Exists.intro; refine And.intro vObx ?_) | refine And.intro vArT ?_ | refine Or.inl ?_) <;> conv => whnf) | fail
    all_goals first | rfl | (exfalso; omega) | (exfalso; simp_all; done) | (exfalso; simp_all; omega)
  · rw [lpRes, if_neg hc]
    by_cases h1 : codeN m l = 0
    · obtain ⟨e, h2⟩ := lpCode_1 hc h1
      rw [h1] at hcode
      rw [e]
      refine pure_of_vcR Try.tabOk mixOrd Try.func13 rfl rfl ?_
      conv => whnf
      repeat' first | ((first | refine And.intro (Or.inl rfl) ?_ | (apply Exists.intro; refine And.intro (hcode) ?_) | (refine And.intro (fun h => ?_) (fun h => ?_) <;> (try simp only [cnt1, ints_length] at h) <;> first | (exfalso; omega) | skip) | refine And.intro (show slotsOk _ = true by decide +kernel) ?_ | refine And.intro vOb ?_ | (apply Exists.intro; refine And.intro vObt ?_) | (apply Exists.intro; refine And.intro vObx ?_) | refine And.intro vArT ?_ | refine Or.inl ?_) <;> conv => whnf) | fail
      all_goals first | rfl | (exfalso; omega) | (exfalso; simp_all; done)
    · rw [show lpCode m l = codeN m l from if_neg h1]
      refine pure_of_vcR Try.tabOk mixOrd Try.func13 rfl rfl ?_
      conv => whnf
      repeat' first | ((first | refine And.intro (Or.inl rfl) ?_ | (apply Exists.intro; refine And.intro (hcode) ?_) | (refine And.intro (fun h => ?_) (fun h => ?_) <;> (try simp only [cnt1, ints_length] at h) <;> first | (exfalso; omega) | skip) | refine And.intro (show slotsOk _ = true by decide +kernel) ?_ | refine And.intro vOb ?_ | (apply Exists.intro; refine And.intro vObt ?_) | (apply Exists.intro; refine And.intro vObx ?_) | refine And.intro vArT ?_ | refine Or.inl ?_) <;> conv => whnf) | fail
      all_goals first | rfl | (exfalso; omega) | (exfalso; simp_all; done)
theorem c_FnExactLawOfParameters (m : Int) (l : List Int) (_ : -9223372036854775808 ≤ m ∧ m ≤ 9223372036854775807) (hl0 : l.length ≤ 9223372036854775807) : PureCall Try.prog 4 [dint m, .list false 1 (ints l)] (dbool true) := by
  by_cases hl : l.length ≤ 1048576
  · have e1 := c_specLawOfParameters false m l hl
    have e3 := c_implLawOfParameters false m l hl
    refine pure_of_vcR Try.tabOk mixOrd Try.func4 rfl rfl ?_
    conv => whnf
    by_cases hc : lpCode m l = 0
    · rw [lpRes, if_pos hc] at e1 e3
      obtain ⟨h1, h2, h3⟩ := lpCode_0 hc
      generalize lawK m l l.length = f at e1 e3
      obtain ⟨N, hN⟩ : ∃ N, l.length + 2 = N := ⟨_, rfl⟩
      rw [hN] at e1 e3
      have hN3 : N ≤ 12 := by omega
      have hft := totL_Tb (n := N) f
      have hft2 : totL (Tb N f) ≤ 144 := Nat.le_trans hft (Nat.mul_le_mul hN3 hN3)
      repeat' first | ((first | refine And.intro (Or.inl rfl) ?_ | (apply Exists.intro; refine And.intro (c_toInt64S _ _ hl) ?_) | (apply Exists.intro; refine And.intro (e1) ?_) | (apply Exists.intro; refine And.intro (e3) ?_) | (apply Exists.intro; refine And.intro (c_eqPlane _ _ _ _ _ _ _ _ vAr (lensOk_Tb vAr _)) ?_) | (apply Exists.intro; refine And.intro (c_eqInt64S _ _ _ _ hl) ?_) | refine Or.inr (inl_ofR Try.tabOk mixOrd _ Try.func11 rfl rfl ?_) | refine Or.inr (inlMarkT rfl vAr vAr ⟨vAr, vAr⟩ ?_) | refine Or.inr (inlMark rfl vAr ⟨vAr, vAr⟩ ?_) | (apply Exists.intro; refine And.intro (c_heldPlane _ _ _ _ _ vAr ⟨vAr, vAr⟩) ?_) | (apply Exists.intro; refine And.intro (sub_rows vArS) ?_) | (refine And.intro (fun h => ?_) (fun h => ?_) <;> (try simp only [cnt1, ints_length] at h) <;> first | (exfalso; omega) | skip) | refine And.intro (show slotsOk _ = true by decide +kernel) ?_ | refine And.intro vOb ?_ | (apply Exists.intro; refine And.intro vObt ?_) | (apply Exists.intro; refine And.intro vObx ?_) | refine And.intro vArT ?_ | refine And.intro (vArS) ?_ | refine Or.inl ?_) <;> conv => whnf) | fail
      all_goals (exfalso; first | omega | (simp_all; done) | (simp_all; omega))
    · rw [lpRes, if_neg hc] at e1 e3
      repeat' first | ((first | refine And.intro (Or.inl rfl) ?_ | (apply Exists.intro; refine And.intro (c_toInt64S _ _ hl) ?_) | (apply Exists.intro; refine And.intro (e1) ?_) | (apply Exists.intro; refine And.intro (e3) ?_) | (apply Exists.intro; refine And.intro (c_eqPlaneNil) ?_) | (apply Exists.intro; refine And.intro (c_eqInt64S _ _ _ _ hl) ?_) | refine Or.inr (inl_ofR Try.tabOk mixOrd _ Try.func11 rfl rfl ?_) | refine Or.inr (inlMarkT rfl vAr vAr ⟨vAr, vAr⟩ ?_) | refine Or.inr (inlMark rfl vAr ⟨vAr, vAr⟩ ?_) | (apply Exists.intro; refine And.intro (c_markNilT _ vAr) ?_) | (apply Exists.intro; refine And.intro (c_heldPlaneNil _ vAr) ?_) | (apply Exists.intro; refine And.intro (sub_rows vArS) ?_) | (refine And.intro (fun h => ?_) (fun h => ?_) <;> (try simp only [cnt1, ints_length] at h) <;> first | (exfalso; omega) | skip) | refine And.intro (show slotsOk _ = true by decide +kernel) ?_ | refine And.intro vOb ?_ | (apply Exists.intro; refine And.intro vObt ?_) | (apply Exists.intro; refine And.intro vObx ?_) | refine And.intro vArT ?_ | refine And.intro (vArS) ?_ | refine Or.inl ?_) <;> conv => whnf) | fail
      all_goals (exfalso; first | omega | (simp_all; done) | (simp_all; omega))
  · refine pure_of_vcR Try.tabOk mixOrd Try.func4 rfl rfl ?_
    conv => whnf
    repeat' first | ((first | refine And.intro (Or.inl rfl) ?_ | (refine And.intro (fun h => ?_) (fun h => ?_) <;> (try simp only [cnt1, ints_length] at h) <;> first | (exfalso; omega) | skip) | refine And.intro (show slotsOk _ = true by decide +kernel) ?_ | refine And.intro vOb ?_ | (apply Exists.intro; refine And.intro vObt ?_) | (apply Exists.intro; refine And.intro vObx ?_) | refine And.intro vArT ?_ | refine Or.inl ?_) <;> conv => whnf) | fail
end Go.Proofs

