/- The law of reduced dual algebras. -/
-- tables
-- rec
import Derived.Test.YtmnphhjljlbfmaaGreatK122
import Derived.Test.YtmnphhjljlbfmaaGreatK123
namespace Go.Proofs
open Go Go.Vm Go.Fg Go.Fg.PS
set_option maxRecDepth 100000
set_option maxHeartbeats 4000000
set_option linter.unusedSimpArgs false
set_option linter.unusedVariables false
theorem c_specIsDualReduced (o p : Bool) (m : Int) (t : List (List Int)) (hl : t.length ≤ 1048576) (hr : lensOk t) :
    PureCall Tryz.prog 7 [.agg [dint m, .list o 1 (rows p t)]] (idRes m t) := by
  have key := c_l17Code o p m t hl hr
  by_cases h4 : kC m t = 0
  · obtain ⟨hk, hht, hq1, hq2⟩ := kC_0 h4
    obtain ⟨hb, hpr⟩ := htC_0 hht
    obtain ⟨hp, hlw⟩ := lawB_pl hb
    obtain ⟨hm, h2, h3, _⟩ := plB_md hp
    rw [h4, if_pos rfl] at key
    have hge : 2 ≤ rkT m t := rkT_ge2 hk hht
    obtain ⟨pp, rfl, hpp⟩ := primB_p hpr
    have hyes : D.tup [dbool (decide ((ext pp (goodD (rkT pp t) (rd2 pp t)) (rkT pp t) []).length = 1)), dint 0] = idRes pp t := by rw [idRes, if_pos h4]; rfl
    have ks := c_specIsDualReducedP pp (rkT pp t) t.length (by omega) hm ⟨hge, by omega, by omega⟩ o p (rd2 pp t) (by simpa only [PlD, plB_T hp] using key)
    simp only [PlD, plB_T hp] at ks
    rw [← hyes]
    exact ks
  · rw [if_neg h4] at key
    refine pure_of_vcR Tryz.tabOk mixOrd Tryz.func7 rfl rfl ?_
    conv => whnf
    repeat' first | ((first | refine And.intro (Or.inl rfl) ?_ | (apply Exists.intro; refine And.intro (key) ?_) | (refine And.intro (fun h => ?_) (fun h => ?_) <;> (try simp only [cnt1, ints_length] at h) <;> first | (exfalso; omega) | skip) | refine And.intro (show slotsOk _ = true by decide +kernel) ?_ | refine And.intro vOb ?_ | (apply Exists.intro; refine And.intro vObt ?_) | (apply Exists.intro; refine And.intro vObx ?_) | refine And.intro vArT ?_ | refine Or.inl ?_) <;> conv => whnf) | fail
    rw [idRes, if_neg h4]
theorem c_FnExactIsDualReduced (m : Int) (t : List (List Int)) (_ : -9223372036854775808 ≤ m ∧ m ≤ 9223372036854775807) (g : (∀ k, k < t.length → (t.getD k []).length ≤ 9223372036854775807) ∧ t.length ≤ 9223372036854775807) : PureCall Tryz.prog 3 [.agg [dint m, .list false 1 (rows false t)]] (dbool true) := by
  have hT := szT_le (n := 1048576) (t := t) (by omega)
  refine pure_of_vcR Tryz.tabOk mixOrd Tryz.func3 rfl rfl ?_
  conv => whnf
  repeat' first | ((first | refine And.intro (Or.inl rfl) ?_ | (apply Exists.intro; refine And.intro (c_szPlane _ _ _ t _ (by omega) g.2 g.1) ?_) | (refine And.intro (fun h => ?_) (fun h => ?_) <;> (try simp only [cnt1, ints_length] at h) <;> first | (exfalso; omega) | skip) | refine And.intro (show slotsOk _ = true by decide +kernel) ?_ | refine And.intro vOb ?_ | (apply Exists.intro; refine And.intro vObt ?_) | (apply Exists.intro; refine And.intro vObx ?_) | refine And.intro vArT ?_ | refine Or.inl ?_) <;> conv => whnf) | fail
  have hA : ¬ szT 1048576 t < 0 := by assumption
  obtain ⟨hl, hr⟩ := szT_ok (by omega) hA
  have e1 := c_specIsDualReduced false true m t hl hr
  have e3 := c_implIsDualReduced false true m t hl hr
  by_cases hc : kC m t = 0
  · rw [idRes, if_pos hc] at e1 e3
    generalize decide ((ext m.toNat (goodD (rkT m t) (rd2 m t)) (rkT m t) []).length = 1) = B at *
    repeat' first | ((first | refine And.intro (Or.inl rfl) ?_ | (apply Exists.intro; refine And.intro (c_toPlane _ _ _ _ hl hr) ?_) | (apply Exists.intro; refine And.intro (e1) ?_) | (apply Exists.intro; refine And.intro (e3) ?_) | (apply Exists.intro; refine And.intro (c_eqPlane _ _ _ _ _ _ _ _ hl hr) ?_) | (refine And.intro (fun h => ?_) (fun h => ?_) <;> (try simp only [cnt1, ints_length] at h)) | refine And.intro (show slotsOk _ = true by decide +kernel) ?_ | refine And.intro vOb ?_ | (apply Exists.intro; refine And.intro vObt ?_) | (apply Exists.intro; refine And.intro vObx ?_) | refine And.intro vArT ?_ | refine Or.inl ?_) <;> conv => whnf) | fail
    all_goals (exfalso; first | omega | (simp_all; done) | (simp_all; omega))
  · rw [idRes, if_neg hc] at e1 e3
    repeat' first | ((first | refine And.intro (Or.inl rfl) ?_ | (apply Exists.intro; refine And.intro (c_toPlane _ _ _ _ hl hr) ?_) | (apply Exists.intro; refine And.intro (e1) ?_) | (apply Exists.intro; refine And.intro (e3) ?_) | (apply Exists.intro; refine And.intro (c_eqPlane _ _ _ _ _ _ _ _ hl hr) ?_) | (refine And.intro (fun h => ?_) (fun h => ?_) <;> (try simp only [cnt1, ints_length] at h)) | refine And.intro (show slotsOk _ = true by decide +kernel) ?_ | refine And.intro vOb ?_ | (apply Exists.intro; refine And.intro vObt ?_) | (apply Exists.intro; refine And.intro vObx ?_) | refine And.intro vArT ?_ | refine Or.inl ?_) <;> conv => whnf) | fail
    all_goals (exfalso; first | omega | (simp_all; done) | (simp_all; omega))
end Go.Proofs

