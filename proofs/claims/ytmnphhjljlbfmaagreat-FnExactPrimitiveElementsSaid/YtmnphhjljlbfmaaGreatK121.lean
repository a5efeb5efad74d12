/- The laws of grouplike and of primitive elements. -/
-- tables
-- rec
import Derived.Test.YtmnphhjljlbfmaaGreatK120
namespace Go.Proofs
open Go Go.Vm Go.Fg Go.Fg.PS
set_option maxRecDepth 100000
set_option maxHeartbeats 4000000
set_option linter.unusedSimpArgs false
set_option linter.unusedVariables false
theorem subd_nilT : SubD (.lit (.slice none 0 0)) (.list false 1 (rows false [])) := SubD.nil _ _
theorem ext_lens {p : Nat} (hp : 0 < p) (good : List Int → Bool) (q : Nat) : ∀ u ∈ ext p good q [], u.length = q := fun u hu => by
  rw [ext_eq hp] at hu
  obtain ⟨h1, _⟩ := List.mem_filter.1 hu
  obtain ⟨N, _, rfl⟩ := List.mem_map.1 h1
  simp
theorem tot_lens {q : Nat} : ∀ {R : List (List Int)}, (∀ u ∈ R, u.length = q) → totL R = R.length * q
  | [], _ => by simp [totL]
  | u :: R, h => by
    simp only [totL, List.length_cons, Nat.succ_mul, tot_lens (fun v hv => h v (List.mem_cons_of_mem _ hv)), h u (List.mem_cons_self ..)]
    omega
theorem c_eqSSNil : PureCall Tryz.prog 13 [.lit (.slice none 0 0), .lit (.slice none 0 0)] (dbool true) := by
  refine (c_eqInt64SS false false false false [] [] (by simp) (fun i hi => by simp at hi)).mono rfl (fun i d d' h h' => ?_)
  match i, h, h' with
  | 0, h, h' => simp at h h'; subst h; subst h'; exact subd_nilT
  | 1, h, h' => simp at h h'; subst h; subst h'; exact subd_nilT
  | n + 2, h, h' => simp at h
theorem c_heldSSNil (k : Int) (hk : 0 ≤ k ∧ k ≤ 4611686018427387904) : PureCall Tryz.prog 16 [.lit (.slice none 0 0), dint k] (dint k) := by
  have := c_heldInt64SS false false k [] (by simp) (by simp [totL]; omega)
  rw [show k + ((totL [] : Nat) : Int) = k by simp [totL]] at this
  refine this.mono rfl (fun i d d' h h' => ?_)
  match i, h, h' with
  | 0, h, h' => simp at h h'; subst h; subst h'; exact subd_nilT
  | 1, h, h' => simp at h h'; subst h; subst h'; exact SubD.rfl _
  | n + 2, h, h' => simp at h
theorem c_FnExactGrouplikeElements (m : Int) (t : List (List Int)) (_ : -9223372036854775808 ≤ m ∧ m ≤ 9223372036854775807) (g : (∀ k, k < t.length → (t.getD k []).length ≤ 9223372036854775807) ∧ t.length ≤ 9223372036854775807) : PureCall Tryz.prog 5 [.agg [dint m, .list false 1 (rows false t)]] (dbool true) := by
  have hT := szT_le (n := 1048576) (t := t) (by omega)
  refine pure_of_vcR Tryz.tabOk mixOrd Tryz.func5 rfl rfl ?_
  conv => whnf
  repeat' first | ((first | refine And.intro (Or.inl rfl) ?_ | (apply Exists.intro; refine And.intro (c_szPlane _ _ _ t _ (by omega) g.2 g.1) ?_) | (refine And.intro (fun h => ?_) (fun h => ?_) <;> (try simp only [cnt1, ints_length] at h) <;> first | (exfalso; omega) | skip) | refine And.intro (show slotsOk _ = true by decide +kernel) ?_ | refine And.intro vOb ?_ | (apply Exists.intro; refine And.intro vObt ?_) | (apply Exists.intro; refine And.intro vObx ?_) | refine And.intro vArT ?_ | refine Or.inl ?_) <;> conv => whnf) | fail
  have hA : ¬ szT 1048576 t < 0 := by assumption
  obtain ⟨hl, hr⟩ := szT_ok (by omega) hA
  have htot : totL t ≤ 1048576 := by unfold szT at hA; split at hA <;> omega
  have e1 := c_specGrouplikeElements false true m t hl hr
  have e3 := c_implGrouplikeElements false true m t hl hr
  by_cases hc : kC m t = 0
  · rw [geRes, if_pos hc] at e1 e3
    have hb : m.toNat ^ rkT m t ≤ 117649 ∧ rkT m t ≤ 6 ∧ 0 < m.toNat := by
      obtain ⟨hk, hht, hq1, hq2⟩ := kC_0 hc
      obtain ⟨hp, hlw⟩ := lawB_pl (htC_0 hht).1
      obtain ⟨hm, h2, h3, _⟩ := plB_md hp
      obtain ⟨pp, rfl, hpp⟩ := primB_p (htC_0 hht).2
      have hq6 : rkT pp t ≤ 6 := by omega
      exact ⟨pow_bd hpp hq6, hq6, by omega⟩
    have hsn := ext_len hb.2.2 (goodG true (rkT m t) (rd2 m t)) (rkT m t) []
    have hln := ext_lens hb.2.2 (goodG true (rkT m t) (rd2 m t)) (rkT m t)
    have hst := tot_lens hln
    generalize ext m.toNat (goodG true (rkT m t) (rd2 m t)) (rkT m t) [] = W at *
    have hst2 : W.length * rkT m t ≤ 117649 * 6 := Nat.mul_le_mul (by omega) hb.2.1
    have hsl : lensOk W := fun i hi => by
      rw [List.getD_eq_getElem?_getD, List.getElem?_eq_getElem hi]
      have := hln _ (List.getElem_mem hi)
      simp only [Option.getD_some]; omega
    repeat' first | ((first | refine And.intro (Or.inl rfl) ?_ | (apply Exists.intro; refine And.intro (c_toPlane _ _ _ _ hl hr) ?_) | (apply Exists.intro; refine And.intro (e1) ?_) | (apply Exists.intro; refine And.intro (e3) ?_) | (apply Exists.intro; refine And.intro (c_eqInt64SS _ _ _ _ W W (by omega) hsl) ?_) | (apply Exists.intro; refine And.intro (c_eqPlane _ _ _ _ _ _ _ _ hl hr) ?_) | refine Or.inr (inl_ofR Tryz.tabOk mixOrd _ Tryz.func14 rfl rfl ?_) | refine Or.inr (inlMarkT rfl vAr vAr ⟨vAr, vAr⟩ ?_) | refine Or.inr (inlMark rfl vAr ⟨vAr, vAr⟩ ?_) | (apply Exists.intro; refine And.intro (c_heldInt64SS _ _ _ W (by omega) ⟨by omega, by omega⟩) ?_) | (apply Exists.intro; refine And.intro (sub_rows vArS) ?_) | (refine And.intro (fun h => ?_) (fun h => ?_) <;> (try simp only [cnt1, ints_length] at h)) | refine And.intro (show slotsOk _ = true by decide +kernel) ?_ | refine And.intro vOb ?_ | (apply Exists.intro; refine And.intro vObt ?_) | (apply Exists.intro; refine And.intro vObx ?_) | refine And.intro vArT ?_ | refine And.intro (vArS) ?_ | refine Or.inl ?_) <;> conv => whnf) | fail
    all_goals (exfalso; first | omega | (simp_all; done) | (simp_all; omega))
  · rw [geRes, if_neg hc] at e1 e3
    repeat' first | ((first | refine And.intro (Or.inl rfl) ?_ | (apply Exists.intro; refine And.intro (c_toPlane _ _ _ _ hl hr) ?_) | (apply Exists.intro; refine And.intro (e1) ?_) | (apply Exists.intro; refine And.intro (e3) ?_) | (apply Exists.intro; refine And.intro (c_eqSSNil) ?_) | (apply Exists.intro; refine And.intro (c_eqPlane _ _ _ _ _ _ _ _ hl hr) ?_) | refine Or.inr (inl_ofR Tryz.tabOk mixOrd _ Tryz.func14 rfl rfl ?_) | refine Or.inr (inlMarkT rfl vAr vAr ⟨vAr, vAr⟩ ?_) | refine Or.inr (inlMark rfl vAr ⟨vAr, vAr⟩ ?_) | (apply Exists.intro; refine And.intro (c_markNilT _ vAr) ?_) | (apply Exists.intro; refine And.intro (c_heldSSNil _ vAr) ?_) | (apply Exists.intro; refine And.intro (sub_rows vArS) ?_) | (refine And.intro (fun h => ?_) (fun h => ?_) <;> (try simp only [cnt1, ints_length] at h)) | refine And.intro (show slotsOk _ = true by decide +kernel) ?_ | refine And.intro vOb ?_ | (apply Exists.intro; refine And.intro vObt ?_) | (apply Exists.intro; refine And.intro vObx ?_) | refine And.intro vArT ?_ | refine And.intro (vArS) ?_ | refine Or.inl ?_) <;> conv => whnf) | fail
    all_goals (exfalso; first | omega | (simp_all; done) | (simp_all; omega))
theorem c_FnExactPrimitiveElements (m : Int) (t : List (List Int)) (_ : -9223372036854775808 ≤ m ∧ m ≤ 9223372036854775807) (g : (∀ k, k < t.length → (t.getD k []).length ≤ 9223372036854775807) ∧ t.length ≤ 9223372036854775807) : PureCall Tryz.prog 4 [.agg [dint m, .list false 1 (rows false t)]] (dbool true) := by
  have hT := szT_le (n := 1048576) (t := t) (by omega)
  refine pure_of_vcR Tryz.tabOk mixOrd Tryz.func4 rfl rfl ?_
  conv => whnf
  repeat' first | ((first | refine And.intro (Or.inl rfl) ?_ | (apply Exists.intro; refine And.intro (c_szPlane _ _ _ t _ (by omega) g.2 g.1) ?_) | (refine And.intro (fun h => ?_) (fun h => ?_) <;> (try simp only [cnt1, ints_length] at h) <;> first | (exfalso; omega) | skip) | refine And.intro (show slotsOk _ = true by decide +kernel) ?_ | refine And.intro vOb ?_ | (apply Exists.intro; refine And.intro vObt ?_) | (apply Exists.intro; refine And.intro vObx ?_) | refine And.intro vArT ?_ | refine Or.inl ?_) <;> conv => whnf) | fail
  have hA : ¬ szT 1048576 t < 0 := by assumption
  obtain ⟨hl, hr⟩ := szT_ok (by omega) hA
  have htot : totL t ≤ 1048576 := by unfold szT at hA; split at hA <;> omega
  have e1 := c_specPrimitiveElements false true m t hl hr
  have e3 := c_implPrimitiveElements false true m t hl hr
  by_cases hc : kC m t = 0
  · rw [geRes, if_pos hc] at e1 e3
    have hb : m.toNat ^ rkT m t ≤ 117649 ∧ rkT m t ≤ 6 ∧ 0 < m.toNat := by
      obtain ⟨hk, hht, hq1, hq2⟩ := kC_0 hc
      obtain ⟨hp, hlw⟩ := lawB_pl (htC_0 hht).1
      obtain ⟨hm, h2, h3, _⟩ := plB_md hp
      obtain ⟨pp, rfl, hpp⟩ := primB_p (htC_0 hht).2
      have hq6 : rkT pp t ≤ 6 := by omega
      exact ⟨pow_bd hpp hq6, hq6, by omega⟩
    have hsn := ext_len hb.2.2 (goodG false (rkT m t) (rd2 m t)) (rkT m t) []
    have hln := ext_lens hb.2.2 (goodG false (rkT m t) (rd2 m t)) (rkT m t)
    have hst := tot_lens hln
    generalize ext m.toNat (goodG false (rkT m t) (rd2 m t)) (rkT m t) [] = W at *
    have hst2 : W.length * rkT m t ≤ 117649 * 6 := Nat.mul_le_mul (by omega) hb.2.1
    have hsl : lensOk W := fun i hi => by
      rw [List.getD_eq_getElem?_getD, List.getElem?_eq_getElem hi]
      have := hln _ (List.getElem_mem hi)
      simp only [Option.getD_some]; omega
    repeat' first | ((first | refine And.intro (Or.inl rfl) ?_ | (apply Exists.intro; refine And.intro (c_toPlane _ _ _ _ hl hr) ?_) | (apply Exists.intro; refine And.intro (e1) ?_) | (apply Exists.intro; refine And.intro (e3) ?_) | (apply Exists.intro; refine And.intro (c_eqInt64SS _ _ _ _ W W (by omega) hsl) ?_) | (apply Exists.intro; refine And.intro (c_eqPlane _ _ _ _ _ _ _ _ hl hr) ?_) | refine Or.inr (inl_ofR Tryz.tabOk mixOrd _ Tryz.func14 rfl rfl ?_) | refine Or.inr (inlMarkT rfl vAr vAr ⟨vAr, vAr⟩ ?_) | refine Or.inr (inlMark rfl vAr ⟨vAr, vAr⟩ ?_) | (apply Exists.intro; refine And.intro (c_heldInt64SS _ _ _ W (by omega) ⟨by omega, by omega⟩) ?_) | (apply Exists.intro; refine And.intro (sub_rows vArS) ?_) | (refine And.intro (fun h => ?_) (fun h => ?_) <;> (try simp only [cnt1, ints_length] at h)) | refine And.intro (show slotsOk _ = true by decide +kernel) ?_ | refine And.intro vOb ?_ | (apply Exists.intro; refine And.intro vObt ?_) | (apply Exists.intro; refine And.intro vObx ?_) | refine And.intro vArT ?_ | refine And.intro (vArS) ?_ | refine Or.inl ?_) <;> conv => whnf) | fail
    all_goals (exfalso; first | omega | (simp_all; done) | (simp_all; omega))
  · rw [geRes, if_neg hc] at e1 e3
    repeat' first | ((first | refine And.intro (Or.inl rfl) ?_ | (apply Exists.intro; refine And.intro (c_toPlane _ _ _ _ hl hr) ?_) | (apply Exists.intro; refine And.intro (e1) ?_) | (apply Exists.intro; refine And.intro (e3) ?_) | (apply Exists.intro; refine And.intro (c_eqSSNil) ?_) | (apply Exists.intro; refine And.intro (c_eqPlane _ _ _ _ _ _ _ _ hl hr) ?_) | refine Or.inr (inl_ofR Tryz.tabOk mixOrd _ Tryz.func14 rfl rfl ?_) | refine Or.inr (inlMarkT rfl vAr vAr ⟨vAr, vAr⟩ ?_) | refine Or.inr (inlMark rfl vAr ⟨vAr, vAr⟩ ?_) | (apply Exists.intro; refine And.intro (c_markNilT _ vAr) ?_) | (apply Exists.intro; refine And.intro (c_heldSSNil _ vAr) ?_) | (apply Exists.intro; refine And.intro (sub_rows vArS) ?_) | (refine And.intro (fun h => ?_) (fun h => ?_) <;> (try simp only [cnt1, ints_length] at h)) | refine And.intro (show slotsOk _ = true by decide +kernel) ?_ | refine And.intro vOb ?_ | (apply Exists.intro; refine And.intro vObt ?_) | (apply Exists.intro; refine And.intro vObx ?_) | refine And.intro vArT ?_ | refine And.intro (vArS) ?_ | refine Or.inl ?_) <;> conv => whnf) | fail
    all_goals (exfalso; first | omega | (simp_all; done) | (simp_all; omega))
end Go.Proofs

