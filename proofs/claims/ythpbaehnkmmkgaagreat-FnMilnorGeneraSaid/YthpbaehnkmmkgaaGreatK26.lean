/- The law of the laws of genera. -/
-- tables
-- rec
import Derived.Test.YthpbaehnkmmkgaaGreatK22
import Derived.Test.YthpbaehnkmmkgaaGreatK9
import Derived.Test.YthpbaehnkmmkgaaGreatKT
namespace Go.Proofs
open Go Go.Vm Go.Fg Go.Fg.PS
set_option maxRecDepth 100000
set_option maxHeartbeats 4000000
set_option linter.unusedSimpArgs false
set_option linter.unusedVariables false
variable {m : Int}
def lawG (n : Nat) (a : PS (Zm m)) : PS (PS (Zm m)) := comp2N (rev (invN m (a.c 1).val) a) (axX a + axY a) 0 n
theorem c_lawOf (hm : Md m) (o : Bool) (n : Nat) (hn : 2 ≤ n ∧ n ≤ 50) (a : PS (Zm m)) : PureCall Tryz.prog 212 [SerD m o n a] (PlD m true true n (lawG n a)) := by
  refine pure_of_vcR Tryz.tabOk mixOrd Tryz.func212 rfl rfl ?_
  conv => whnf
  repeat' first | ((first | refine z0 ?_ | (apply zI; refine zP (c_reverseU hm _ n vAr a) ?_) | (apply zI; refine zP (c_onAxis0 hm _ n vAr _) ?_) | (apply zI; refine zP (c_onAxis1 hm _ n vAr _) ?_) | (apply zI; refine zP (c_plusP hm _ _ _ _ n vAr _ _) ?_) | (apply zI; refine zP (c_of hm _ _ _ n vAr _ _) ?_) | (refine And.intro (fun h => ?_) (fun h => ?_) <;> (try simp only [cnt1, ints_length] at h)) | refine zS ?_ | refine zV ?_ | (apply zI; refine zP vObt ?_) | (apply zI; refine zP vObx ?_) | refine zA ?_ | refine Alt.fst ?_ | refine Or.inl ?_) <;> conv => whnf) | fail
  rfl
theorem c_l05Law (hm : Md m) (o : Bool) (n : Nat) (hn : 2 ≤ n ∧ n ≤ 50) (a : PS (Zm m)) (ha : a.c 0 = 0) : PureCall Tryz.prog 225 [dint m, LD o n a] (TbD true true n (lawG n a)) := by
  refine pure_of_vcR Tryz.tabOk mixOrd Tryz.func225 rfl rfl ?_
  conv => whnf
  repeat' first | ((first | refine z0 ?_ | (apply zI; refine zP (c_l02ReverseU hm _ n n vAr vAr vAr vAr a) ?_) | (apply zI; refine zP (c_l05Sum hm _ n vAr a ha) ?_) | (apply zI; refine zP (c_l03After hm _ _ _ n vAr n vAr _ _) ?_) | (refine And.intro (fun h => ?_) (fun h => ?_) <;> (try simp only [cnt1, ints_length] at h)) | refine zS ?_ | refine zV ?_ | (apply zI; refine zP vObt ?_) | (apply zI; refine zP vObx ?_) | refine zA ?_ | refine Alt.fst ?_ | refine Or.inl ?_) <;> conv => whnf) | fail
  rfl
def zplD' : D := .agg [dint 0, .lit (.slice none 0 0)]
def plRes' (m : Int) (n : Nat) (a : PS (PS (Zm m))) (code : Int) : D := if code = 0 then .tup [PlD m true true n a, dint 0] else .tup [zplD', dint code]
theorem c_implLawOfGenus (o : Bool) (m : Int) (l : List Int) (hl : l.length ≤ 1048576) : PureCall Tryz.prog 38 [.agg [dint m, .list o 1 (ints l)]] (plRes' m (l.length + 1) (lawG (l.length + 1) (logG (rd m l))) (shortCode m l)) := by
  refine pure_of_vcR Tryz.tabOk mixOrd Tryz.func38 rfl rfl ?_
  conv => whnf
  repeat' first | ((first | refine z0 ?_ | (apply zI; refine zP (c_lawful _ _ _ hl) ?_) | (refine And.intro (fun h => ?_) (fun h => ?_) <;> (try simp only [cnt1, ints_length] at h)) | refine zS ?_ | refine zV ?_ | (apply zI; refine zP vObt ?_) | (apply zI; refine zP vObx ?_) | refine zA ?_ | refine Alt.fst ?_ | refine Or.inl ?_) <;> conv => whnf) | fail
  · rw [plRes', if_neg h]; rfl
  · have h0 := Classical.not_not.1 h
    obtain ⟨hc, hb⟩ := shortCode_0 h0
    have hs := charB_ser hc
    have hlen := serB_len hs
    have key := c_exponentialOf (serB_md hs) o l.length (by omega) (rd m l)
    rw [serD_of hs] at key
    repeat' first | ((first | refine z0 ?_ | (apply zI; refine zP (key) ?_) | (apply zI; refine zP (c_reverseU (serB_md hs) _ (l.length + 1) (by omega) (expG (rd m l))) ?_) | (apply zI; refine zP (c_lawOf (serB_md hs) _ (l.length + 1) (by omega) _) ?_) | (refine And.intro (fun h => ?_) (fun h => ?_) <;> (try simp only [cnt1, ints_length] at h)) | refine zS ?_ | refine zV ?_ | (apply zI; refine zP vObt ?_) | (apply zI; refine zP vObx ?_) | refine zA ?_ | refine Alt.fst ?_ | refine Or.inl ?_) <;> conv => whnf) | fail
    rw [plRes', if_pos h0]; rfl
theorem logG_0 (a : PS (Zm m)) : (logG a).c 0 = 0 := by
  unfold logG
  rfl
theorem mk_l03Make'' : MakesAgg Tryz.prog 224 := fun m b n c => by
  refine pure_of_vcR Tryz.tabOk mixOrd Tryz.func224 rfl rfl ?_
  conv => whnf
  repeat' first | ((first | refine z0 ?_ | (refine And.intro (fun h => ?_) (fun h => ?_) <;> (try simp only [cnt1, ints_length] at h)) | refine zS ?_ | refine zV ?_ | (apply zI; refine zP vObt ?_) | (apply zI; refine zP vObx ?_) | refine zA ?_ | refine Alt.fst ?_ | refine Or.inl ?_) <;> conv => whnf) | fail
theorem c_specLawOfGenus (o : Bool) (m : Int) (l : List Int) (hl : l.length ≤ 1048576) : PureCall Tryz.prog 47 [.agg [dint m, .list o 1 (ints l)]] (plRes' m (l.length + 1) (lawG (l.length + 1) (logG (rd m l))) (shortCode m l)) := by
  refine pure_of_vcR Tryz.tabOk mixOrd Tryz.func47 rfl rfl ?_
  conv => whnf
  repeat' first | ((first | refine z0 ?_ | (apply zI; refine zP (c_l19Short _ _ _ hl) ?_) | (refine And.intro (fun h => ?_) (fun h => ?_) <;> (try simp only [cnt1, ints_length] at h)) | refine zS ?_ | refine zV ?_ | (apply zI; refine zP vObt ?_) | (apply zI; refine zP vObx ?_) | refine zA ?_ | refine Alt.fst ?_ | refine Or.inl ?_) <;> conv => whnf) | fail
  · rw [plRes', if_neg h]; rfl
  · have h0 := Classical.not_not.1 h
    obtain ⟨hc, hb⟩ := shortCode_0 h0
    have hs := charB_ser hc
    have hlen := serB_len hs
    repeat' first | ((first | refine z0 ?_ | (apply zI; refine zP (c_l19Logarithm _ _ _ hc) ?_) | (apply zI; refine zP (c_l05Law (serB_md hs) _ (l.length + 1) (by omega) _ (logG_0 _)) ?_) | refine Or.inl (Or.inr (And.intro (mk_l03Make'') ?_)) | refine Or.inr (And.intro (mk_l03Make'') ?_) | (refine And.intro (fun h => ?_) (fun h => ?_) <;> (try simp only [cnt1, ints_length] at h)) | refine zS ?_ | refine zV ?_ | (apply zI; refine zP vObt ?_) | (apply zI; refine zP vObx ?_) | refine zA ?_ | refine Alt.fst ?_ | refine Or.inl ?_) <;> conv => whnf) | fail
    rw [plRes', if_pos h0]
end Go.Proofs

