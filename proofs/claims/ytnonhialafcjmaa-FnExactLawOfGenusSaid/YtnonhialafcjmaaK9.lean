/- Logarithms of genera, values on hypersurfaces. -/
import Derived.Test.YtnonhialafcjmaaK8
namespace Go.Proofs
open Go Go.Vm Go.Fg Go.Fg.PS
set_option maxRecDepth 100000
set_option maxHeartbeats 4000000
set_option linter.unusedSimpArgs false
set_option linter.unusedVariables false
variable {m : Int}

def logG (a : PS (Zm m)) : PS (Zm m) := rev (invN m ((expG a).c 1).val) (expG a)
theorem c_l19Logarithm (o : Bool) (m : Int) (l : List Int) (hc : charB m l = true) : PureCall Try.prog 88 [.agg [dint m, .list o 1 (ints l)]] (LD true (l.length + 1) (logG (rd m l))) := by
  have hs := charB_ser hc
  have hlen := serB_len hs
  have key := c_l19Exponential (serB_md hs) o l.length (by omega) (rd m l)
  rw [serD_of hs] at key
  refine pure_of_vc Try.tabOk mixOrd Try.func88 rfl rfl ?_
  conv => whnf
  repeat' first
    | (refine And.intro (Or.inl rfl) ?_; conv => whnf)
    | (refine Or.inl (Or.inl (Exists.intro _ (And.intro (key) ?_))); conv => whnf)
    | (refine Or.inl (Exists.intro _ (And.intro (key) ?_)); conv => whnf)
    | (apply Exists.intro; refine And.intro (key) ?_; conv => whnf)
    | (refine Or.inl (Or.inl (Exists.intro _ (And.intro (c_l02Degree _ _ _ (by omega)) ?_))); conv => whnf)
    | (refine Or.inl (Exists.intro _ (And.intro (c_l02Degree _ _ _ (by omega)) ?_)); conv => whnf)
    | (apply Exists.intro; refine And.intro (c_l02Degree _ _ _ (by omega)) ?_; conv => whnf)
    | (refine Or.inl (Or.inl (Exists.intro _ (And.intro (c_l02ReverseU (serB_md hs) _ (l.length + 1) (l.length + 1) vAr vAr vAr vAr (expG (rd m l))) ?_))); conv => whnf)
    | (refine Or.inl (Exists.intro _ (And.intro (c_l02ReverseU (serB_md hs) _ (l.length + 1) (l.length + 1) vAr vAr vAr vAr (expG (rd m l))) ?_)); conv => whnf)
    | (apply Exists.intro; refine And.intro (c_l02ReverseU (serB_md hs) _ (l.length + 1) (l.length + 1) vAr vAr vAr vAr (expG (rd m l))) ?_; conv => whnf)
    | (refine And.intro (fun h => ?_) (fun h => ?_) <;> (try simp only [cnt1, ints_length] at h) <;> conv => whnf)
    | (refine And.intro (show slotsOk _ = true by decide +kernel) ?_; conv => whnf)
    | (refine And.intro vOb ?_; conv => whnf)
    | fail
    | (apply Exists.intro; refine And.intro vObx ?_; conv => whnf)
    | fail
    | (refine Or.inl ?_; conv => whnf)
    | fail
  rfl
end Go.Proofs

