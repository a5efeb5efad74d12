/- Genera: contracts of the functions on values on projective spaces. -/
import Derived.Test.YtnonhialafcjmaaK2
import Derived.Test.YtnonhialafcjmaaK3
namespace Go.Proofs
open Go Go.Vm Go.Fg Go.Fg.PS
set_option maxRecDepth 100000
set_option maxHeartbeats 4000000
set_option linter.unusedSimpArgs false
set_option linter.unusedVariables false

def charB (m : Int) (l : List Int) : Bool := serB m l && decide (l.getD 0 0 = 1)
theorem charB_ser {m : Int} {l : List Int} (h : charB m l = true) : serB m l = true := by
  simp only [charB, Bool.and_eq_true] at h; exact h.1
theorem serB_md {m : Int} {l : List Int} (h : serB m l = true) : Md m := by
  simp only [serB, Bool.and_eq_true, inB, decide_eq_true_eq] at h; exact h.1.1
theorem serB_len {m : Int} {l : List Int} (h : serB m l = true) : 2 ≤ l.length ∧ l.length ≤ 11 := by
  simp only [serB, Bool.and_eq_true, inB, decide_eq_true_eq] at h; omega
theorem serB_L {m : Int} {l : List Int} (h : serB m l = true) : l = L l.length (rd m l) := by
  simp only [serB, Bool.and_eq_true] at h; exact (L_rd (numsB_iff.1 h.2)).symm
theorem serD_of {m : Int} {l : List Int} {o : Bool} (h : serB m l = true) : SerD m o l.length (rd m l) = .agg [dint m, .list o 1 (ints l)] := by
  unfold SerD; rw [← serB_L h]
theorem charB_0 {m : Int} {l : List Int} (h : charB m l = true) : (rd m l).c 0 = 1 := by
  simp only [charB, Bool.and_eq_true, decide_eq_true_eq] at h
  rw [rd_c, h.2]; rfl
def dimCode (m : Int) (l : List Int) (b : Bool) : Int := if charB m l then (if b then 0 else 2) else 1
theorem dimCode_0 {m : Int} {l : List Int} {b : Bool} (h : dimCode m l b = 0) : charB m l = true ∧ b = true := by
  unfold dimCode at h; split at h
  · split at h
    · exact ⟨by assumption, by assumption⟩
    · omega
  · omega

end Go.Proofs

