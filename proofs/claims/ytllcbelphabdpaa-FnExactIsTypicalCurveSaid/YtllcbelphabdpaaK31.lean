/- Witt vectors: what is one; desks: the law of IsDesk. -/
-- tables
-- rec
import Derived.Test.YtllcbelphabdpaaK30
namespace Go.Proofs
open Go Go.Vm Go.Fg Go.Fg.PS
set_option maxRecDepth 100000
set_option maxHeartbeats 4000000
set_option linter.unusedSimpArgs false
set_option linter.unusedVariables false
def primB (p : Int) : Bool := decide (p = 2) || (decide (p = 3) || (decide (p = 5) || decide (p = 7)))
theorem szT_le {n : Int} {t : List (List Int)} (hn : 0 ≤ n) : szT n t ≤ n := by
  unfold szT; split <;> omega
theorem c_isTypicalPrime (p : Int) : PureCall Try.prog 180 [dint p] (dbool (primB p)) := by
  refine pure_of_vcR Try.tabOk mixOrd Try.func180 rfl rfl ?_
  conv => whnf
  repeat' first
    | (refine And.intro (Or.inl rfl) ?_; conv => whnf)
    | (refine And.intro (fun h => ?_) (fun h => ?_) <;> (try simp only [cnt1, ints_length] at h) <;> conv => whnf)
    | (refine And.intro (show slotsOk _ = true by decide +kernel) ?_; conv => whnf)
    | (refine And.intro vOb ?_; conv => whnf)
    | (apply Exists.intro; refine And.intro vObt ?_; conv => whnf)
    | (apply Exists.intro; refine And.intro vObx ?_; conv => whnf)
    | (refine And.intro vArT ?_; conv => whnf)
    | (refine Or.inl ?_; conv => whnf)
    | fail
  all_goals (refine dbool_congr ?_; first | rfl | (simp_all [primB]; done) | (simp_all [primB]; omega) | (simp_all [primB]; intros; omega))
end Go.Proofs

