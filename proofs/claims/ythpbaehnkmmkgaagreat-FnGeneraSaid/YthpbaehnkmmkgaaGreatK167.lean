/- Genera: helpers for the law. -/
-- tables
-- rec
import Derived.Test.YthpbaehnkmmkgaaGreatK164
import Derived.Test.YthpbaehnkmmkgaaGreatK6
namespace Go.Proofs
open Go Go.Vm Go.Fg Go.Fg.PS
set_option maxRecDepth 100000
set_option maxHeartbeats 4000000
set_option linter.unusedSimpArgs false
set_option linter.unusedVariables false
variable {m : Int}
theorem codeG_0 {m : Int} {l : List Int} (h : codeG m l = 0) : Md m ∧ (2 ≤ l.length ∧ l.length ≤ 10) ∧ (rd m l).c 0 = 1 ∧ unitsB m l.length = true ∧ Nums m l := by
  unfold codeG at h
  split at h
  · rename_i h1
    obtain ⟨h2, h3⟩ := codeN_0 h1
    split at h
    · rename_i h4
      split at h
      · rename_i h5
        simp only [Bool.and_eq_true, decide_eq_true_eq, inB] at h4
        exact ⟨h2, by omega, by rw [rd_c, h4.2]; rfl, h5, numsB_iff.1 h3⟩
      · omega
    · omega
  · omega
theorem codeN_LL (hm : Md m) (n : Nat) (a : PS (Zm m)) : codeN m (L n a) = 0 := by
  have h : numsB m (L n a) = true := numsB_iff.2 (fun x hx => by
    obtain ⟨i, hi, rfl⟩ := List.getElem_of_mem hx
    have h2 : i < n := by simpa using hi
    have : (L n a)[i] = (a.c i).val := by simp [L]
    rw [this]; exact Zm.val_range hm.pos _)
  unfold codeN
  simp [h, inB, hm.1, hm.2]
theorem c_specIsCharacteristic (o : Bool) (m : Int) (l : List Int) (hl : l.length ≤ 1048576) : PureCall Tryz.prog 19 [.agg [dint m, .list o 1 (ints l)]] (dbool (serB m l && decide (l.getD 0 0 = 1))) := by
  refine pure_of_vcR Tryz.tabOk mixOrd Tryz.func19 rfl rfl ?_
  conv => whnf
  repeat' first | ((first | refine z0 ?_ | (apply zI; refine zP (c_l19Is _ _ _ hl) ?_) | (refine And.intro (fun h => ?_) (fun h => ?_) <;> (try simp only [cnt1, ints_length] at h)) | refine zS ?_ | refine zV ?_ | (apply zI; refine zP vObt ?_) | (apply zI; refine zP vObx ?_) | refine zA ?_ | refine Alt.fst ?_ | refine Or.inl ?_) <;> conv => whnf) | fail
  all_goals rw [show (serB m l && decide (l.getD 0 0 = 1)) = _ from h]
theorem charB_L (hm : Md m) {n : Nat} (hn : 2 ≤ n ∧ n ≤ 11) {a : PS (Zm m)} (h0 : a.c 0 = 1) : charB m (L n a) = true := by
  have := hm.1
  unfold charB
  rw [serB_LX hm hn a, L_getD _ (by omega), h0, Zm.val_one (by omega)]
  simp
theorem c_implProjGenY (o : Bool) (hm : Md m) (n : Nat) (hn : 2 ≤ n ∧ n ≤ 11) (a : PS (Zm m)) (h0 : a.c 0 = 1) : PureCall Tryz.prog 15 [SerD m o n a] (.tup [.list true 1 (ints (L n (projS a))), dint 0]) := by
  have key := c_implProjectiveGenera o m (L n a) (by simp; omega) (charB_L hm hn h0)
  rw [L_length, L_congr (ag_proj (rd_L n a))] at key
  exact key
end Go.Proofs

