/- The law of cocycles. -/
-- tables
-- rec
import Derived.Test.YtnonhialafcjmaaK20
namespace Go.Proofs
open Go Go.Vm Go.Fg Go.Fg.PS
set_option maxRecDepth 100000
set_option maxHeartbeats 4000000
set_option linter.unusedSimpArgs false
set_option linter.unusedVariables false
/-- Is it a cocycle? -/
noncomputable def cocB (m : Int) (t : List (List Int)) : Bool := plB m t && tr (CocP (rd2 m t) (t.length - 1))
theorem cocB_no {m : Int} {t : List (List Int)} (h : plB m t = false) : cocB m t = false := by simp [cocB, h]
theorem cocB_yes {m : Int} {t : List (List Int)} (h : plB m t = true) : cocB m t = tr (CocP (rd2 m t) (t.length - 1)) := by simp [cocB, h]
theorem c_l07Is (o p : Bool) (m : Int) (t : List (List Int)) (hl : t.length ≤ 1048576) (hr : lensOk t) : PureCall Try.prog 57 [.agg [dint m, .list o 1 (rows p t)]] (dbool (cocB m t)) := by
  cases hp : plB m t with
  | true =>
    obtain ⟨hm, h2, h3, _⟩ := plB_md hp
    have key := c_l07IsL hm o p t.length ⟨h2, h3⟩ (rd2 m t) (by rw [plB_T hp]; exact hp)
    simp only [PlD, plB_T hp] at key
    rw [cocB_yes hp]
    exact key
  | false =>
    have hli := c_l03Is o p m t hl hr
    rw [hp] at hli
    rw [cocB_no hp]
    refine pure_of_vcR Try.tabOk mixOrd Try.func57 rfl rfl ?_
    conv => whnf
    repeat' first
      | (refine And.intro (Or.inl rfl) ?_; conv => whnf)
      | (refine Or.inl (Or.inl (Exists.intro _ (And.intro (hli) ?_))); conv => whnf)
      | (refine Or.inl (Exists.intro _ (And.intro (hli) ?_)); conv => whnf)
      | (apply Exists.intro; refine And.intro (hli) ?_; conv => whnf)
      | (refine And.intro (fun h => ?_) (fun h => ?_) <;> (try simp only [cnt1, ints_length] at h) <;> conv => whnf)
      | (refine And.intro (show slotsOk _ = true by decide +kernel) ?_; conv => whnf)
      | (refine And.intro vOb ?_; conv => whnf)
      | (apply Exists.intro; refine And.intro vObt ?_; conv => whnf)
      | (apply Exists.intro; refine And.intro vObx ?_; conv => whnf)
      | (refine And.intro vArT ?_; conv => whnf)
      | (refine Or.inl ?_; conv => whnf)
      | fail
    all_goals (exfalso; simp_all)
theorem c_specIsCocycle (o p : Bool) (m : Int) (t : List (List Int)) (hl : t.length ≤ 1048576) (hr : lensOk t) : PureCall Try.prog 15 [.agg [dint m, .list o 1 (rows p t)]] (dbool (cocB m t)) := by
  refine pure_of_vcR Try.tabOk mixOrd Try.func15 rfl rfl ?_
  conv => whnf
  repeat' first
    | (refine And.intro (Or.inl rfl) ?_; conv => whnf)
    | (refine Or.inl (Or.inl (Exists.intro _ (And.intro (c_l07Is _ _ _ _ hl hr) ?_))); conv => whnf)
    | (refine Or.inl (Exists.intro _ (And.intro (c_l07Is _ _ _ _ hl hr) ?_)); conv => whnf)
    | (apply Exists.intro; refine And.intro (c_l07Is _ _ _ _ hl hr) ?_; conv => whnf)
    | (refine And.intro (fun h => ?_) (fun h => ?_) <;> (try simp only [cnt1, ints_length] at h) <;> conv => whnf)
    | (refine And.intro (show slotsOk _ = true by decide +kernel) ?_; conv => whnf)
    | (refine And.intro vOb ?_; conv => whnf)
    | (apply Exists.intro; refine And.intro vObt ?_; conv => whnf)
    | (apply Exists.intro; refine And.intro vObx ?_; conv => whnf)
    | (refine And.intro vArT ?_; conv => whnf)
    | (refine Or.inl ?_; conv => whnf)
    | fail
  all_goals rw [h]
theorem c_implIsCocycle (o p : Bool) (m : Int) (t : List (List Int)) (hl : t.length ≤ 1048576) (hr : lensOk t) : PureCall Try.prog 17 [.agg [dint m, .list o 1 (rows p t)]] (dbool (cocB m t)) := by
  cases hp : plB m t with
  | true =>
    obtain ⟨hm, h2, h3, _⟩ := plB_md hp
    have key := c_implIsCocycleL hm o p t.length ⟨h2, h3⟩ (rd2 m t) (by rw [plB_T hp]; exact hp)
    simp only [PlD, plB_T hp] at key
    rw [cocB_yes hp]
    exact key
  | false =>
    have hli := c_IsPlane o p m t hl hr
    rw [hp] at hli
    rw [cocB_no hp]
    refine pure_of_vcR Try.tabOk mixOrd Try.func17 rfl rfl ?_
    conv => whnf
    repeat' first
      | (refine And.intro (Or.inl rfl) ?_; conv => whnf)
      | (refine Or.inl (Or.inl (Exists.intro _ (And.intro (hli) ?_))); conv => whnf)
      | (refine Or.inl (Exists.intro _ (And.intro (hli) ?_)); conv => whnf)
      | (apply Exists.intro; refine And.intro (hli) ?_; conv => whnf)
      | (refine And.intro (fun h => ?_) (fun h => ?_) <;> (try simp only [cnt1, ints_length] at h) <;> conv => whnf)
      | (refine And.intro (show slotsOk _ = true by decide +kernel) ?_; conv => whnf)
      | (refine And.intro vOb ?_; conv => whnf)
      | (apply Exists.intro; refine And.intro vObt ?_; conv => whnf)
      | (apply Exists.intro; refine And.intro vObx ?_; conv => whnf)
      | (refine And.intro vArT ?_; conv => whnf)
      | (refine Or.inl ?_; conv => whnf)
      | fail
    all_goals (exfalso; simp_all)
theorem c_FnExactIsCocycle (m : Int) (t : List (List Int)) (_ : -9223372036854775808 ≤ m ∧ m ≤ 9223372036854775807) (g : (∀ k, k < t.length → (t.getD k []).length ≤ 9223372036854775807) ∧ t.length ≤ 9223372036854775807) : PureCall Try.prog 3 [.agg [dint m, .list false 1 (rows false t)]] (dbool true) := by
  refine pure_of_vcR Try.tabOk mixOrd Try.func3 rfl rfl ?_
  conv => whnf
  repeat' first
    | (refine And.intro (Or.inl rfl) ?_; conv => whnf)
    | (refine Or.inl (Or.inl (Exists.intro _ (And.intro (c_szPlane _ _ _ t _ (by omega) g.2 g.1) ?_))); conv => whnf)
    | (refine Or.inl (Exists.intro _ (And.intro (c_szPlane _ _ _ t _ (by omega) g.2 g.1) ?_)); conv => whnf)
    | (apply Exists.intro; refine And.intro (c_szPlane _ _ _ t _ (by omega) g.2 g.1) ?_; conv => whnf)
    | (refine And.intro (fun h => ?_) (fun h => ?_) <;> (try simp only [cnt1, ints_length] at h) <;> conv => whnf)
    | (refine And.intro (show slotsOk _ = true by decide +kernel) ?_; conv => whnf)
    | (refine And.intro vOb ?_; conv => whnf)
    | (apply Exists.intro; refine And.intro vObt ?_; conv => whnf)
    | (apply Exists.intro; refine And.intro vObx ?_; conv => whnf)
    | (refine And.intro vArT ?_; conv => whnf)
    | (refine Or.inl ?_; conv => whnf)
    | fail
  obtain ⟨hl, hr⟩ := szT_ok (by omega) h
  repeat' first
    | (refine And.intro (Or.inl rfl) ?_; conv => whnf)
    | (refine Or.inl (Or.inl (Exists.intro _ (And.intro (c_toPlane _ _ _ _ hl hr) ?_))); conv => whnf)
    | (refine Or.inl (Exists.intro _ (And.intro (c_toPlane _ _ _ _ hl hr) ?_)); conv => whnf)
    | (apply Exists.intro; refine And.intro (c_toPlane _ _ _ _ hl hr) ?_; conv => whnf)
    | (refine Or.inl (Or.inl (Exists.intro _ (And.intro (c_specIsCocycle _ _ _ _ hl hr) ?_))); conv => whnf)
    | (refine Or.inl (Exists.intro _ (And.intro (c_specIsCocycle _ _ _ _ hl hr) ?_)); conv => whnf)
    | (apply Exists.intro; refine And.intro (c_specIsCocycle _ _ _ _ hl hr) ?_; conv => whnf)
    | (refine Or.inl (Or.inl (Exists.intro _ (And.intro (c_implIsCocycle _ _ _ _ hl hr) ?_))); conv => whnf)
    | (refine Or.inl (Exists.intro _ (And.intro (c_implIsCocycle _ _ _ _ hl hr) ?_)); conv => whnf)
    | (apply Exists.intro; refine And.intro (c_implIsCocycle _ _ _ _ hl hr) ?_; conv => whnf)
    | (refine Or.inl (Or.inl (Exists.intro _ (And.intro (c_eqPlane _ _ _ _ _ _ _ _ hl hr) ?_))); conv => whnf)
    | (refine Or.inl (Exists.intro _ (And.intro (c_eqPlane _ _ _ _ _ _ _ _ hl hr) ?_)); conv => whnf)
    | (apply Exists.intro; refine And.intro (c_eqPlane _ _ _ _ _ _ _ _ hl hr) ?_; conv => whnf)
    | (refine And.intro (fun h => ?_) (fun h => ?_) <;> (try simp only [cnt1, ints_length] at h) <;> conv => whnf)
    | (refine And.intro (show slotsOk _ = true by decide +kernel) ?_; conv => whnf)
    | (refine And.intro vOb ?_; conv => whnf)
    | (apply Exists.intro; refine And.intro vObt ?_; conv => whnf)
    | (apply Exists.intro; refine And.intro vObx ?_; conv => whnf)
    | (refine And.intro vArT ?_; conv => whnf)
    | (refine Or.inl ?_; conv => whnf)
    | fail
  all_goals (exfalso; simp_all)
end Go.Proofs

