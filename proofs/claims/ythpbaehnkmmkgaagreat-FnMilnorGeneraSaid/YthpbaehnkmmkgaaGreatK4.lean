/- Genera: contracts of the functions on values on projective spaces. -/
import Derived.Test.YthpbaehnkmmkgaaGreatK2
import Derived.Test.YthpbaehnkmmkgaaGreatK3
namespace Go.Proofs
open Go Go.Vm Go.Fg Go.Fg.PS
set_option maxRecDepth 100000
set_option maxHeartbeats 4000000
set_option linter.unusedSimpArgs false
set_option linter.unusedVariables false

def charB (m : Int) (l : List Int) : Bool := serB m l && decide (l.getD 0 0 = 1)
theorem charB_ser {m : Int} {l : List Int} (h : charB m l = true) : serB m l = true := by
  simp only [charB, Bool.and_eq_true] at h; exact h.1
theorem serB_md {m : Int} {l : List Int} (h : serB m l = true) : Md m := by
  simp only [serB, Bool.and_eq_true, inB, decide_eq_true_eq] at h; exact h.1.1
theorem serB_len {m : Int} {l : List Int} (h : serB m l = true) : 2 ≤ l.length ∧ l.length ≤ 11 := by
  simp only [serB, Bool.and_eq_true, inB, decide_eq_true_eq] at h; omega
theorem serB_L {m : Int} {l : List Int} (h : serB m l = true) : l = L l.length (rd m l) := by
  simp only [serB, Bool.and_eq_true] at h; exact (L_rd (numsB_iff.1 h.2)).symm
theorem serD_of {m : Int} {l : List Int} {o : Bool} (h : serB m l = true) : SerD m o l.length (rd m l) = .agg [dint m, .list o 1 (ints l)] := by
  unfold SerD; rw [← serB_L h]
theorem charB_0 {m : Int} {l : List Int} (h : charB m l = true) : (rd m l).c 0 = 1 := by
  simp only [charB, Bool.and_eq_true, decide_eq_true_eq] at h
  rw [rd_c, h.2]; rfl
def dimCode (m : Int) (l : List Int) (b : Bool) : Int := if charB m l then (if b then 0 else 2) else 1
theorem dimCode_0 {m : Int} {l : List Int} {b : Bool} (h : dimCode m l b = 0) : charB m l = true ∧ b = true := by
  unfold dimCode at h; split at h
  · split at h
    · exact ⟨by assumption, by assumption⟩
    · omega
  · omega

theorem c_isDimension (o : Bool) (m : Int) (l : List Int) (hl : l.length ≤ 1048576) (n : Int) : PureCall Tryz.prog 182 [.agg [dint m, .list o 1 (ints l)], dint n] (dbool (inB n 0 (l.length - 1))) := by
  refine pure_of_vc Tryz.tabOk mixOrd Tryz.func182 rfl rfl ?_
  conv => whnf
  repeat' first | ((first | refine z0 ?_ | (apply zI; refine zP (c_degree _ _ _ hl) ?_) | (apply zI; refine zP (c_impl_in _ _ _) ?_) | (refine And.intro (fun h => ?_) (fun h => ?_) <;> (try simp only [cnt1, ints_length] at h)) | refine zS ?_ | refine zV ?_ | (apply zI; refine zP vObx ?_) | refine Alt.fst ?_ | refine Or.inl ?_) <;> conv => whnf) | fail
  all_goals (refine dbool_congr ?_; first | rfl | (simp_all []; done) | (simp_all []; omega) | (simp_all []; intros; omega))
theorem c_generic2 (g : Nat) (ds1 ds2 : List D) (b : Bool) (hg : PureCall Tryz.prog g [.cptr ds1 0, .cptr ds2 0] (dbool b)) (o : Bool) (m : Int) (l : List Int) (hl : l.length ≤ 1048576) :
    PureCall Tryz.prog 180 [.agg [dint m, .list o 1 (ints l)], .fn (.func g) [] [.cptr ds1 0, .cptr ds2 0]] (dint (dimCode m l b)) := by
  refine pure_of_vc Tryz.tabOk mixOrd Tryz.func180 rfl rfl ?_
  conv => whnf
  repeat' first | ((first | refine z0 ?_ | (apply zI; refine zP (c_IsCharacteristic _ _ _ hl) ?_) | (apply zI; refine zP (hg) ?_) | (refine And.intro (fun h => ?_) (fun h => ?_) <;> (try simp only [cnt1, ints_length] at h)) | refine zS ?_ | refine zV ?_ | (apply zI; refine zP vObx ?_) | refine Alt.fst ?_ | refine Or.inl ?_) <;> conv => whnf) | fail
  all_goals (refine congrArg dint ?_; simp_all [dimCode, charB])
theorem c_generic3 (g : Nat) (ds1 ds2 ds3 : List D) (b : Bool) (hg : PureCall Tryz.prog g [.cptr ds1 0, .cptr ds2 0, .cptr ds3 0] (dbool b)) (o : Bool) (m : Int) (l : List Int) (hl : l.length ≤ 1048576) :
    PureCall Tryz.prog 180 [.agg [dint m, .list o 1 (ints l)], .fn (.func g) [] [.cptr ds1 0, .cptr ds2 0, .cptr ds3 0]] (dint (dimCode m l b)) := by
  refine pure_of_vc Tryz.tabOk mixOrd Tryz.func180 rfl rfl ?_
  conv => whnf
  repeat' first | ((first | refine z0 ?_ | (apply zI; refine zP (c_IsCharacteristic _ _ _ hl) ?_) | (apply zI; refine zP (hg) ?_) | (refine And.intro (fun h => ?_) (fun h => ?_) <;> (try simp only [cnt1, ints_length] at h)) | refine zS ?_ | refine zV ?_ | (apply zI; refine zP vObx ?_) | refine Alt.fst ?_ | refine Or.inl ?_) <;> conv => whnf) | fail
  all_goals (refine congrArg dint ?_; simp_all [dimCode, charB])
theorem c_l19Code (o : Bool) (m : Int) (l : List Int) (hl : l.length ≤ 1048576) (n : Int) : PureCall Tryz.prog 187 [.agg [dint m, .list o 1 (ints l)], dint n] (dint (dimCode m l (inB n 0 (l.length - 1)))) := by
  refine pure_of_vc Tryz.tabOk mixOrd Tryz.func187 rfl rfl ?_
  conv => whnf
  repeat' first | ((first | refine z0 ?_ | (apply zI; refine zP (c_l19Is _ _ _ hl) ?_) | (apply zI; refine zP (c_l02Degree _ _ _ hl) ?_) | (apply zI; refine zP (c_l01In _ _ _) ?_) | (refine And.intro (fun h => ?_) (fun h => ?_) <;> (try simp only [cnt1, ints_length] at h)) | refine zS ?_ | refine zV ?_ | (apply zI; refine zP vObx ?_) | refine Alt.fst ?_ | refine Or.inl ?_) <;> conv => whnf) | fail
  all_goals (refine congrArg dint ?_; simp_all [dimCode, charB])
theorem c_projective {m : Int} (hm : Md m) (o : Bool) (n : Nat) (hn : 1 ≤ n ∧ n ≤ 100) (a : PS (Zm m)) (k : Nat) (hk : k < n) : PureCall Tryz.prog 159 [SerD m o n a, dint k] (dint ((pw a (k + 1)).c k).val) := by
  refine pure_of_vc Tryz.tabOk mixOrd Tryz.func159 rfl rfl ?_
  conv => whnf
  refine And.intro vOb ?_
  conv => whnf
  have e : (k : Int) + 1 = ((k + 1 : Nat) : Int) := by omega
  rw [e]
  repeat' first | ((first | refine z0 ?_ | (apply zI; refine zP (c_power hm _ n hn _ (k + 1) (by omega)) ?_) | (refine And.intro (fun h => ?_) (fun h => ?_) <;> (try simp only [cnt1, ints_length] at h)) | refine zS ?_ | refine zV ?_ | (apply zI; refine zP vObx ?_) | refine Alt.fst ?_ | refine Or.inl ?_) <;> conv => whnf) | fail
theorem c_l19Projective {m : Int} (hm : Md m) (o : Bool) (n : Nat) (hn : 1 ≤ n ∧ n ≤ 100) (a : PS (Zm m)) (k : Nat) (hk : k < n) : PureCall Tryz.prog 204 [SerD m o n a, dint k] (dint ((pw a (k + 1)).c k).val) := by
  refine pure_of_vc Tryz.tabOk mixOrd Tryz.func204 rfl rfl ?_
  conv => whnf
  repeat' first | ((first | refine z0 ?_ | (apply zI; refine zP (c_l02Power' hm _ (k + 1) n (by omega) (by omega) (by omega) (by omega) _ (k + 1) (by omega) (by omega)) ?_) | (refine And.intro (fun h => ?_) (fun h => ?_) <;> (try simp only [cnt1, ints_length] at h)) | refine zS ?_ | refine zV ?_ | (apply zI; refine zP vObx ?_) | refine Alt.fst ?_ | refine Or.inl ?_) <;> conv => whnf) | fail
theorem c_specProjectiveGenus (o : Bool) (m : Int) (l : List Int) (hl : l.length ≤ 1048576) (n : Int) : PureCall Tryz.prog 45 [.agg [dint m, .list o 1 (ints l)], dint n]
    (.tup [dint (if dimCode m l (inB n 0 (l.length - 1)) = 0 then ((pw (rd m l) (n.toNat + 1)).c n.toNat).val else 0), dint (dimCode m l (inB n 0 (l.length - 1)))]) := by
  refine pure_of_vc Tryz.tabOk mixOrd Tryz.func45 rfl rfl ?_
  conv => whnf
  repeat' first | ((first | refine z0 ?_ | (apply zI; refine zP (c_l19Code _ _ _ hl _) ?_) | (refine And.intro (fun h => ?_) (fun h => ?_) <;> (try simp only [cnt1, ints_length] at h)) | refine zS ?_ | refine zV ?_ | (apply zI; refine zP vObx ?_) | refine Alt.fst ?_ | refine Or.inl ?_) <;> conv => whnf) | fail
  · rw [if_neg h]
  · have h0 := Classical.not_not.1 h
    obtain ⟨hc, hb⟩ := dimCode_0 h0
    have hs := charB_ser hc
    have hlen := serB_len hs
    simp only [inB, decide_eq_true_eq] at hb
    have key := c_l19Projective (serB_md hs) o l.length (by omega) (rd m l) n.toNat (by omega)
    rw [serD_of hs, show ((n.toNat : Nat) : Int) = n by omega] at key
    repeat' first | ((first | refine z0 ?_ | (apply zI; refine zP (key) ?_) | (refine And.intro (fun h => ?_) (fun h => ?_) <;> (try simp only [cnt1, ints_length] at h)) | refine zS ?_ | refine zV ?_ | (apply zI; refine zP vObx ?_) | refine Alt.fst ?_ | refine Or.inl ?_) <;> conv => whnf) | fail
    rw [h0, if_pos rfl]
theorem c_implProjectiveGenus1 (o : Bool) (m : Int) (l : List Int) (hl : l.length ≤ 1048576) (n : Int) : PureCall Tryz.prog 193 [.cptr [dint m, .list o 1 (ints l)] 0, .cptr [dint n] 0] (dbool (inB n 0 (l.length - 1))) := by
  refine pure_of_vc Tryz.tabOk mixOrd Tryz.func193 rfl rfl ?_
  conv => whnf
  repeat' first | ((first | refine z0 ?_ | (apply zI; refine zP (c_isDimension _ _ _ hl _) ?_) | (refine And.intro (fun h => ?_) (fun h => ?_) <;> (try simp only [cnt1, ints_length] at h)) | refine zS ?_ | refine zV ?_ | (apply zI; refine zP vObx ?_) | refine Alt.fst ?_ | refine Or.inl ?_) <;> conv => whnf) | fail
  all_goals (refine dbool_congr ?_; first | rfl | (simp_all []; done) | (simp_all []; omega) | (simp_all []; intros; omega))
theorem c_implProjectiveGenus (o : Bool) (m : Int) (l : List Int) (hl : l.length ≤ 1048576) (n : Int) : PureCall Tryz.prog 29 [.agg [dint m, .list o 1 (ints l)], dint n]
    (.tup [dint (if dimCode m l (inB n 0 (l.length - 1)) = 0 then ((pw (rd m l) (n.toNat + 1)).c n.toNat).val else 0), dint (dimCode m l (inB n 0 (l.length - 1)))]) := by
  refine pure_of_vc Tryz.tabOk mixOrd Tryz.func29 rfl rfl ?_
  conv => whnf
  repeat' first | ((first | refine z0 ?_ | (apply zI; refine zP (c_generic2 _ _ _ _ (c_implProjectiveGenus1 _ _ _ hl _) _ _ _ hl) ?_) | (refine And.intro (fun h => ?_) (fun h => ?_) <;> (try simp only [cnt1, ints_length] at h)) | refine zS ?_ | refine zV ?_ | (apply zI; refine zP vObx ?_) | refine Alt.fst ?_ | refine Or.inl ?_) <;> conv => whnf) | fail
  · rw [if_neg h]
  · have h0 := Classical.not_not.1 h
    obtain ⟨hc, hb⟩ := dimCode_0 h0
    have hs := charB_ser hc
    have hlen := serB_len hs
    simp only [inB, decide_eq_true_eq] at hb
    have key := c_projective (serB_md hs) o l.length (by omega) (rd m l) n.toNat (by omega)
    rw [serD_of hs, show ((n.toNat : Nat) : Int) = n by omega] at key
    repeat' first | ((first | refine z0 ?_ | (apply zI; refine zP (key) ?_) | (refine And.intro (fun h => ?_) (fun h => ?_) <;> (try simp only [cnt1, ints_length] at h)) | refine zS ?_ | refine zV ?_ | (apply zI; refine zP vObx ?_) | refine Alt.fst ?_ | refine Or.inl ?_) <;> conv => whnf) | fail
    rw [h0, if_pos rfl]
end Go.Proofs

