/- Witt vectors: what is one; desks: the law of IsDesk. -/
-- tables
-- rec
import Derived.Test.YtmnphhjljlbfmaaGreatK30
namespace Go.Proofs
open Go Go.Vm Go.Fg Go.Fg.PS
set_option maxRecDepth 100000
set_option maxHeartbeats 4000000
set_option linter.unusedSimpArgs false
set_option linter.unusedVariables false
def primB (p : Int) : Bool := decide (p = 2) || (decide (p = 3) || (decide (p = 5) || decide (p = 7)))
theorem szT_le {n : Int} {t : List (List Int)} (hn : 0 ≤ n) : szT n t ≤ n := by
  unfold szT; split <;> omega
theorem c_isTypicalPrime (p : Int) : PureCall Tryz.prog 78 [dint p] (dbool (primB p)) := by
  refine pure_of_vcR Tryz.tabOk mixOrd Tryz.func78 rfl rfl ?_
  conv => whnf
  repeat' first | ((first | refine And.intro (Or.inl rfl) ?_ | (refine And.intro (fun h => ?_) (fun h => ?_) <;> (try simp only [cnt1, ints_length] at h)) | refine And.intro (show slotsOk _ = true by decide +kernel) ?_ | refine And.intro vOb ?_ | (apply Exists.intro; refine And.intro vObt ?_) | (apply Exists.intro; refine And.intro vObx ?_) | refine And.intro vArT ?_ | refine Or.inl ?_) <;> conv => whnf) | fail
  all_goals (refine dbool_congr ?_; first | rfl | (simp_all [primB]; done) | (simp_all [primB]; omega) | (simp_all [primB]; intros; omega))
end Go.Proofs

