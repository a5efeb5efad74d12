/- Laws: IsLaw for all planes. -/
-- tables
-- rec
import Derived.Test.YtocnfkphpmolkaaGreatK29
namespace Go.Proofs
open Go Go.Vm Go.Fg Go.Fg.PS
set_option maxRecDepth 100000
set_option maxHeartbeats 4000000
set_option linter.unusedSimpArgs false
set_option linter.unusedVariables false
noncomputable def lawB (m : Int) (t : List (List Int)) : Bool := plB m t && trL (LawP (rd2 m t) t.length)
theorem lawB_no {m : Int} {t : List (List Int)} (h : plB m t = false) : lawB m t = false := by simp [lawB, h]
theorem lawB_yes {m : Int} {t : List (List Int)} (h : plB m t = true) : lawB m t = trL (LawP (rd2 m t) t.length) := by simp [lawB, h]
theorem c_l04Is (o p : Bool) (m : Int) (t : List (List Int)) (hl : t.length ≤ 1048576) (hr : lensOk t) : PureCall Tryz.prog 123 [.agg [dint m, .list o 1 (rows p t)]] (dbool (lawB m t)) := by
  cases hp : plB m t with
  | true =>
    obtain ⟨hm, h2, h3, _⟩ := plB_md hp
    have key := c_l04IsL hm o p t.length ⟨h2, h3⟩ (rd2 m t) (by rw [plB_T hp]; exact hp)
    simp only [PlD, plB_T hp] at key
    rw [lawB_yes hp]
    exact key
  | false =>
    have hli := c_l03Is o p m t hl hr
    rw [hp] at hli
    rw [lawB_no hp]
    refine pure_of_vcR Tryz.tabOk mixOrd Tryz.func123 rfl rfl ?_
    conv => whnf
    repeat' first | ((first | refine And.intro (Or.inl rfl) ?_ | (apply Exists.intro; refine And.intro (hli) ?_) | (refine And.intro (fun h => ?_) (fun h => ?_) <;> (try simp only [cnt1, ints_length] at h)) | refine And.intro (show slotsOk _ = true by decide +kernel) ?_ | refine And.intro vOb ?_ | (apply Exists.intro; refine And.intro vObt ?_) | (apply Exists.intro; refine And.intro vObx ?_) | refine And.intro vArT ?_ | refine Alt.fst ?_ | refine Or.inl ?_) <;> conv => whnf) | fail
    all_goals (exfalso; simp_all)
theorem c_IsLaw (o p : Bool) (m : Int) (t : List (List Int)) (hl : t.length ≤ 1048576) (hr : lensOk t) : PureCall Tryz.prog 13 [.agg [dint m, .list o 1 (rows p t)]] (dbool (lawB m t)) := by
  cases hp : plB m t with
  | true =>
    obtain ⟨hm, h2, h3, _⟩ := plB_md hp
    have key := c_implIsLawL hm o p t.length ⟨h2, h3⟩ (rd2 m t) (by rw [plB_T hp]; exact hp)
    simp only [PlD, plB_T hp] at key
    rw [lawB_yes hp]
    exact key
  | false =>
    have hli := c_IsPlane o p m t hl hr
    rw [hp] at hli
    rw [lawB_no hp]
    refine pure_of_vcR Tryz.tabOk mixOrd Tryz.func13 rfl rfl ?_
    conv => whnf
    repeat' first | ((first | refine And.intro (Or.inl rfl) ?_ | (apply Exists.intro; refine And.intro (hli) ?_) | (refine And.intro (fun h => ?_) (fun h => ?_) <;> (try simp only [cnt1, ints_length] at h)) | refine And.intro (show slotsOk _ = true by decide +kernel) ?_ | refine And.intro vOb ?_ | (apply Exists.intro; refine And.intro vObt ?_) | (apply Exists.intro; refine And.intro vObx ?_) | refine And.intro vArT ?_ | refine Alt.fst ?_ | refine Or.inl ?_) <;> conv => whnf) | fail
    all_goals (exfalso; simp_all)
end Go.Proofs

