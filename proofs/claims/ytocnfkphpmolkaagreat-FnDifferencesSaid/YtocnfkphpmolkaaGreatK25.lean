/- The law of cocycles. -/
import Derived.Test.YtocnfkphpmolkaaGreatK20
import Derived.Test.YtocnfkphpmolkaaGreatK23

-- tables
-- rec
namespace Go.Proofs
open Go Go.Vm Go.Fg Go.Fg.PS
set_option maxRecDepth 100000
set_option maxHeartbeats 4000000
set_option linter.unusedSimpArgs false
set_option linter.unusedVariables false
noncomputable def cocB (m : Int) (t : List (List Int)) : Bool := plB m t && tr (CocP (rd2 m t) (t.length - 1))
theorem cocB_no {m : Int} {t : List (List Int)} (h : plB m t = false) : cocB m t = false := by simp [cocB, h]
theorem cocB_yes {m : Int} {t : List (List Int)} (h : plB m t = true) : cocB m t = tr (CocP (rd2 m t) (t.length - 1)) := by simp [cocB, h]
theorem c_implIsCocycle (o p : Bool) (m : Int) (t : List (List Int)) (hl : t.length ≤ 1048576) (hr : lensOk t) : PureCall Tryz.prog 51 [.agg [dint m, .list o 1 (rows p t)]] (dbool (cocB m t)) := by
  cases hp : plB m t with
  | true =>
    obtain ⟨hm, h2, h3, _⟩ := plB_md hp
    have key := c_implIsCocycleL hm o p t.length ⟨h2, h3⟩ (rd2 m t) (by rw [plB_T hp]; exact hp)
    simp only [PlD, plB_T hp] at key
    rw [cocB_yes hp]
    exact key
  | false =>
    have hli := c_IsPlane o p m t hl hr
    rw [hp] at hli
    rw [cocB_no hp]
    refine pure_of_vcR Tryz.tabOk mixOrd Tryz.func51 rfl rfl ?_
    conv => whnf
    repeat' first | ((first | refine And.intro (Or.inl rfl) ?_ | (apply Exists.intro; refine And.intro (hli) ?_) | (refine And.intro (fun h => ?_) (fun h => ?_) <;> (try simp only [cnt1, ints_length] at h)) | refine And.intro (show slotsOk _ = true by decide +kernel) ?_ | refine And.intro vOb ?_ | (apply Exists.intro; refine And.intro vObt ?_) | (apply Exists.intro; refine And.intro vObx ?_) | refine And.intro vArT ?_ | refine Alt.fst ?_ | refine Or.inl ?_) <;> conv => whnf) | fail
    all_goals (exfalso; simp_all)
end Go.Proofs



-- tables
-- rec
namespace Go.Proofs
open Go Go.Vm Go.Fg Go.Fg.PS
set_option maxRecDepth 100000
set_option maxHeartbeats 4000000
set_option linter.unusedSimpArgs false
set_option linter.unusedVariables false
theorem cocB_pl {m : Int} {t : List (List Int)} (h : cocB m t = true) : plB m t = true ∧ CocP (rd2 m t) (t.length - 1) := by
  simp only [cocB, tr, Bool.and_eq_true, decide_eq_true_eq] at h
  exact h
theorem c_implCocycleFactorY (o p : Bool) (m : Int) (t : List (List Int)) (hl : t.length ≤ 1048576) (hr : lensOk t) (hc : cocB m t = true) (k : Nat) (hk : k < m.toNat) (hf : FacP (rd2 m t) (t.length - 1) k) (hmin : ∀ j, j < k → ¬ FacP (rd2 m t) (t.length - 1) j) : PureCall Tryz.prog 39 [.agg [dint m, .list o 1 (rows p t)]] (.tup [dint k, dint 0]) := by
  obtain ⟨hp, h2⟩ := cocB_pl hc
  obtain ⟨hm, h3, h4, _⟩ := plB_md hp
  have h5 := h2.1
  have h0 := c_implIsCocycle o p m t hl hr
  rw [hc] at h0
  have key1 := c_top o p t.length ⟨h3, h4⟩ (rd2 m t)
  simp only [PlD, plB_T hp] at key1
  have key := c_factorOf hm false t.length (by omega) (rd2 m t) k hk hf hmin
  refine pure_of_vcR Tryz.tabOk mixOrd Tryz.func39 rfl rfl ?_
  conv => whnf
  repeat' first | ((first | refine And.intro (Or.inl rfl) ?_ | (apply Exists.intro; refine And.intro (h0) ?_) | (apply Exists.intro; refine And.intro (key1) ?_) | (apply Exists.intro; refine And.intro (key) ?_) | (refine And.intro (fun h => ?_) (fun h => ?_) <;> (try simp only [cnt1, ints_length] at h)) | refine And.intro (show slotsOk _ = true by decide +kernel) ?_ | refine And.intro vOb ?_ | (apply Exists.intro; refine And.intro vObt ?_) | (apply Exists.intro; refine And.intro vObx ?_) | refine And.intro vArT ?_ | refine Alt.fst ?_ | refine Or.inl ?_) <;> conv => whnf) | fail
  all_goals (exfalso; simp_all)
end Go.Proofs


