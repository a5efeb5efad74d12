/- The law of the factors of cocycles. -/
-- tables
-- rec
import Derived.Test.YtnonhialafcjmaaK23
import Derived.Test.YtnonhialafcjmaaK24
namespace Go.Proofs
open Go Go.Vm Go.Fg Go.Fg.PS
set_option maxRecDepth 100000
set_option maxHeartbeats 4000000
set_option linter.unusedSimpArgs false
set_option linter.unusedVariables false
theorem cocB_pl {m : Int} {t : List (List Int)} (h : cocB m t = true) : plB m t = true ∧ CocP (rd2 m t) (t.length - 1) := by
  simp only [cocB, tr, Bool.and_eq_true, decide_eq_true_eq] at h
  exact h
theorem c_specCocycleFactorN (o p : Bool) (m : Int) (t : List (List Int)) (hl : t.length ≤ 1048576) (hr : lensOk t) (hc : cocB m t = false) : PureCall Try.prog 19 [.agg [dint m, .list o 1 (rows p t)]] (.tup [dint 0, dint 1]) := by
  have h0 := c_l07Is o p m t hl hr
  rw [hc] at h0
  refine pure_of_vcR Try.tabOk mixOrd Try.func19 rfl rfl ?_
  conv => whnf
  repeat' first
    | (refine And.intro (Or.inl rfl) ?_; conv => whnf)
    | (refine Or.inl (Or.inl (Exists.intro _ (And.intro (h0) ?_))); conv => whnf)
    | (refine Or.inl (Exists.intro _ (And.intro (h0) ?_)); conv => whnf)
    | (apply Exists.intro; refine And.intro (h0) ?_; conv => whnf)
    | (refine And.intro (fun h => ?_) (fun h => ?_) <;> (try simp only [cnt1, ints_length] at h) <;> conv => whnf)
    | (refine And.intro (show slotsOk _ = true by decide +kernel) ?_; conv => whnf)
    | (refine And.intro vOb ?_; conv => whnf)
    | (apply Exists.intro; refine And.intro vObt ?_; conv => whnf)
    | (apply Exists.intro; refine And.intro vObx ?_; conv => whnf)
    | (refine And.intro vArT ?_; conv => whnf)
    | (refine Or.inl ?_; conv => whnf)
    | fail
  all_goals (exfalso; simp_all)
theorem c_implCocycleFactorN (o p : Bool) (m : Int) (t : List (List Int)) (hl : t.length ≤ 1048576) (hr : lensOk t) (hc : cocB m t = false) : PureCall Try.prog 20 [.agg [dint m, .list o 1 (rows p t)]] (.tup [dint 0, dint 1]) := by
  have h0 := c_implIsCocycle o p m t hl hr
  rw [hc] at h0
  refine pure_of_vcR Try.tabOk mixOrd Try.func20 rfl rfl ?_
  conv => whnf
  repeat' first
    | (refine And.intro (Or.inl rfl) ?_; conv => whnf)
    | (refine Or.inl (Or.inl (Exists.intro _ (And.intro (h0) ?_))); conv => whnf)
    | (refine Or.inl (Exists.intro _ (And.intro (h0) ?_)); conv => whnf)
    | (apply Exists.intro; refine And.intro (h0) ?_; conv => whnf)
    | (refine And.intro (fun h => ?_) (fun h => ?_) <;> (try simp only [cnt1, ints_length] at h) <;> conv => whnf)
    | (refine And.intro (show slotsOk _ = true by decide +kernel) ?_; conv => whnf)
    | (refine And.intro vOb ?_; conv => whnf)
    | (apply Exists.intro; refine And.intro vObt ?_; conv => whnf)
    | (apply Exists.intro; refine And.intro vObx ?_; conv => whnf)
    | (refine And.intro vArT ?_; conv => whnf)
    | (refine Or.inl ?_; conv => whnf)
    | fail
  all_goals (exfalso; simp_all)
theorem c_specCocycleFactorY (o p : Bool) (m : Int) (t : List (List Int)) (hl : t.length ≤ 1048576) (hr : lensOk t) (hc : cocB m t = true) (k : Nat) (hk : k < m.toNat) (hf : FacP (rd2 m t) (t.length - 1) k) (hmin : ∀ j, j < k → ¬ FacP (rd2 m t) (t.length - 1) j) : PureCall Try.prog 19 [.agg [dint m, .list o 1 (rows p t)]] (.tup [dint k, dint 0]) := by
  obtain ⟨hp, h2⟩ := cocB_pl hc
  obtain ⟨hm, h3, h4, _⟩ := plB_md hp
  have h5 := h2.1
  have h0 := c_l07Is o p m t hl hr
  rw [hc] at h0
  have key := c_l07Factor hm o p t.length (by omega) (rd2 m t) k hk hf hmin
  simp only [TbD, plB_T hp] at key
  refine pure_of_vcR Try.tabOk mixOrd Try.func19 rfl rfl ?_
  conv => whnf
  repeat' first
    | (refine And.intro (Or.inl rfl) ?_; conv => whnf)
    | (refine Or.inl (Or.inl (Exists.intro _ (And.intro (h0) ?_))); conv => whnf)
    | (refine Or.inl (Exists.intro _ (And.intro (h0) ?_)); conv => whnf)
    | (apply Exists.intro; refine And.intro (h0) ?_; conv => whnf)
    | (refine Or.inl (Or.inl (Exists.intro _ (And.intro (key) ?_))); conv => whnf)
    | (refine Or.inl (Exists.intro _ (And.intro (key) ?_)); conv => whnf)
    | (apply Exists.intro; refine And.intro (key) ?_; conv => whnf)
    | (refine And.intro (fun h => ?_) (fun h => ?_) <;> (try simp only [cnt1, ints_length] at h) <;> conv => whnf)
    | (refine And.intro (show slotsOk _ = true by decide +kernel) ?_; conv => whnf)
    | (refine And.intro vOb ?_; conv => whnf)
    | (apply Exists.intro; refine And.intro vObt ?_; conv => whnf)
    | (apply Exists.intro; refine And.intro vObx ?_; conv => whnf)
    | (refine And.intro vArT ?_; conv => whnf)
    | (refine Or.inl ?_; conv => whnf)
    | fail
  all_goals (exfalso; simp_all)
theorem c_implCocycleFactorY (o p : Bool) (m : Int) (t : List (List Int)) (hl : t.length ≤ 1048576) (hr : lensOk t) (hc : cocB m t = true) (k : Nat) (hk : k < m.toNat) (hf : FacP (rd2 m t) (t.length - 1) k) (hmin : ∀ j, j < k → ¬ FacP (rd2 m t) (t.length - 1) j) : PureCall Try.prog 20 [.agg [dint m, .list o 1 (rows p t)]] (.tup [dint k, dint 0]) := by
  obtain ⟨hp, h2⟩ := cocB_pl hc
  obtain ⟨hm, h3, h4, _⟩ := plB_md hp
  have h5 := h2.1
  have h0 := c_implIsCocycle o p m t hl hr
  rw [hc] at h0
  have key1 := c_top o p t.length ⟨h3, h4⟩ (rd2 m t)
  simp only [PlD, plB_T hp] at key1
  have key := c_factorOf hm false t.length (by omega) (rd2 m t) k hk hf hmin
  refine pure_of_vcR Try.tabOk mixOrd Try.func20 rfl rfl ?_
  conv => whnf
  repeat' first
    | (refine And.intro (Or.inl rfl) ?_; conv => whnf)
    | (refine Or.inl (Or.inl (Exists.intro _ (And.intro (h0) ?_))); conv => whnf)
    | (refine Or.inl (Exists.intro _ (And.intro (h0) ?_)); conv => whnf)
    | (apply Exists.intro; refine And.intro (h0) ?_; conv => whnf)
    | (refine Or.inl (Or.inl (Exists.intro _ (And.intro (key1) ?_))); conv => whnf)
    | (refine Or.inl (Exists.intro _ (And.intro (key1) ?_)); conv => whnf)
    | (apply Exists.intro; refine And.intro (key1) ?_; conv => whnf)
    | (refine Or.inl (Or.inl (Exists.intro _ (And.intro (key) ?_))); conv => whnf)
    | (refine Or.inl (Exists.intro _ (And.intro (key) ?_)); conv => whnf)
    | (apply Exists.intro; refine And.intro (key) ?_; conv => whnf)
    | (refine And.intro (fun h => ?_) (fun h => ?_) <;> (try simp only [cnt1, ints_length] at h) <;> conv => whnf)
    | (refine And.intro (show slotsOk _ = true by decide +kernel) ?_; conv => whnf)
    | (refine And.intro vOb ?_; conv => whnf)
    | (apply Exists.intro; refine And.intro vObt ?_; conv => whnf)
    | (apply Exists.intro; refine And.intro vObx ?_; conv => whnf)
    | (refine And.intro vArT ?_; conv => whnf)
    | (refine Or.inl ?_; conv => whnf)
    | fail
  all_goals (exfalso; simp_all)
theorem c_FnExactCocycleFactor (m : Int) (t : List (List Int)) (_ : -9223372036854775808 ≤ m ∧ m ≤ 9223372036854775807) (g : (∀ k, k < t.length → (t.getD k []).length ≤ 9223372036854775807) ∧ t.length ≤ 9223372036854775807) : PureCall Try.prog 4 [.agg [dint m, .list false 1 (rows false t)]] (dbool true) := by
  refine pure_of_vcR Try.tabOk mixOrd Try.func4 rfl rfl ?_
  conv => whnf
  repeat' first
    | (refine And.intro (Or.inl rfl) ?_; conv => whnf)
    | (refine Or.inl (Or.inl (Exists.intro _ (And.intro (c_szPlane _ _ _ t _ (by omega) g.2 g.1) ?_))); conv => whnf)
    | (refine Or.inl (Exists.intro _ (And.intro (c_szPlane _ _ _ t _ (by omega) g.2 g.1) ?_)); conv => whnf)
    | (apply Exists.intro; refine And.intro (c_szPlane _ _ _ t _ (by omega) g.2 g.1) ?_; conv => whnf)
    | (refine And.intro (fun h => ?_) (fun h => ?_) <;> (try simp only [cnt1, ints_length] at h) <;> conv => whnf)
    | (refine And.intro (show slotsOk _ = true by decide +kernel) ?_; conv => whnf)
    | (refine And.intro vOb ?_; conv => whnf)
    | (apply Exists.intro; refine And.intro vObt ?_; conv => whnf)
    | (apply Exists.intro; refine And.intro vObx ?_; conv => whnf)
    | (refine And.intro vArT ?_; conv => whnf)
    | (refine Or.inl ?_; conv => whnf)
    | fail
  obtain ⟨hl, hr⟩ := szT_ok (by omega) h
  cases hc : cocB m t with
  | true =>
    obtain ⟨hp, h2⟩ := cocB_pl hc
    obtain ⟨hm, h3, h4, _⟩ := plB_md hp
    obtain ⟨k, hk, hf, hmin⟩ := fac_ex hm ⟨h2.1, by omega⟩ h2
    have hm2 := hm.2
    repeat' first
      | (refine And.intro (Or.inl rfl) ?_; conv => whnf)
      | (refine Or.inl (Or.inl (Exists.intro _ (And.intro (c_toPlane _ _ _ _ hl hr) ?_))); conv => whnf)
      | (refine Or.inl (Exists.intro _ (And.intro (c_toPlane _ _ _ _ hl hr) ?_)); conv => whnf)
      | (apply Exists.intro; refine And.intro (c_toPlane _ _ _ _ hl hr) ?_; conv => whnf)
      | (refine Or.inl (Or.inl (Exists.intro _ (And.intro (c_specCocycleFactorY _ _ _ _ hl hr hc k hk hf hmin) ?_))); conv => whnf)
      | (refine Or.inl (Exists.intro _ (And.intro (c_specCocycleFactorY _ _ _ _ hl hr hc k hk hf hmin) ?_)); conv => whnf)
      | (apply Exists.intro; refine And.intro (c_specCocycleFactorY _ _ _ _ hl hr hc k hk hf hmin) ?_; conv => whnf)
      | (refine Or.inl (Or.inl (Exists.intro _ (And.intro (c_implCocycleFactorY _ _ _ _ hl hr hc k hk hf hmin) ?_))); conv => whnf)
      | (refine Or.inl (Exists.intro _ (And.intro (c_implCocycleFactorY _ _ _ _ hl hr hc k hk hf hmin) ?_)); conv => whnf)
      | (apply Exists.intro; refine And.intro (c_implCocycleFactorY _ _ _ _ hl hr hc k hk hf hmin) ?_; conv => whnf)
      | (refine Or.inl (Or.inl (Exists.intro _ (And.intro (c_eqPlane _ _ _ _ _ _ _ _ hl hr) ?_))); conv => whnf)
      | (refine Or.inl (Exists.intro _ (And.intro (c_eqPlane _ _ _ _ _ _ _ _ hl hr) ?_)); conv => whnf)
      | (apply Exists.intro; refine And.intro (c_eqPlane _ _ _ _ _ _ _ _ hl hr) ?_; conv => whnf)
      | (refine And.intro (fun h => ?_) (fun h => ?_) <;> (try simp only [cnt1, ints_length] at h) <;> conv => whnf)
      | (refine And.intro (show slotsOk _ = true by decide +kernel) ?_; conv => whnf)
      | (refine And.intro vOb ?_; conv => whnf)
      | (apply Exists.intro; refine And.intro vObt ?_; conv => whnf)
      | (apply Exists.intro; refine And.intro vObx ?_; conv => whnf)
      | (refine And.intro vArT ?_; conv => whnf)
      | (refine Or.inl ?_; conv => whnf)
      | fail
    all_goals (exfalso; simp_all)
  | false =>
    repeat' first
      | (refine And.intro (Or.inl rfl) ?_; conv => whnf)
      | (refine Or.inl (Or.inl (Exists.intro _ (And.intro (c_toPlane _ _ _ _ hl hr) ?_))); conv => whnf)
      | (refine Or.inl (Exists.intro _ (And.intro (c_toPlane _ _ _ _ hl hr) ?_)); conv => whnf)
      | (apply Exists.intro; refine And.intro (c_toPlane _ _ _ _ hl hr) ?_; conv => whnf)
      | (refine Or.inl (Or.inl (Exists.intro _ (And.intro (c_specCocycleFactorN _ _ _ _ hl hr hc) ?_))); conv => whnf)
      | (refine Or.inl (Exists.intro _ (And.intro (c_specCocycleFactorN _ _ _ _ hl hr hc) ?_)); conv => whnf)
      | (apply Exists.intro; refine And.intro (c_specCocycleFactorN _ _ _ _ hl hr hc) ?_; conv => whnf)
      | (refine Or.inl (Or.inl (Exists.intro _ (And.intro (c_implCocycleFactorN _ _ _ _ hl hr hc) ?_))); conv => whnf)
      | (refine Or.inl (Exists.intro _ (And.intro (c_implCocycleFactorN _ _ _ _ hl hr hc) ?_)); conv => whnf)
      | (apply Exists.intro; refine And.intro (c_implCocycleFactorN _ _ _ _ hl hr hc) ?_; conv => whnf)
      | (refine Or.inl (Or.inl (Exists.intro _ (And.intro (c_eqPlane _ _ _ _ _ _ _ _ hl hr) ?_))); conv => whnf)
      | (refine Or.inl (Exists.intro _ (And.intro (c_eqPlane _ _ _ _ _ _ _ _ hl hr) ?_)); conv => whnf)
      | (apply Exists.intro; refine And.intro (c_eqPlane _ _ _ _ _ _ _ _ hl hr) ?_; conv => whnf)
      | (refine And.intro (fun h => ?_) (fun h => ?_) <;> (try simp only [cnt1, ints_length] at h) <;> conv => whnf)
      | (refine And.intro (show slotsOk _ = true by decide +kernel) ?_; conv => whnf)
      | (refine And.intro vOb ?_; conv => whnf)
      | (apply Exists.intro; refine And.intro vObt ?_; conv => whnf)
      | (apply Exists.intro; refine And.intro vObx ?_; conv => whnf)
      | (refine And.intro vArT ?_; conv => whnf)
      | (refine Or.inl ?_; conv => whnf)
      | fail
    all_goals (exfalso; simp_all)
end Go.Proofs

