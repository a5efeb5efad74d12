/- The law of the laws of genera. -/
-- tables
-- rec
import Derived.Test.YtnonhialafcjmaaK22
import Derived.Test.YtnonhialafcjmaaK9
import Derived.Test.YtnonhialafcjmaaKT
namespace Go.Proofs
open Go Go.Vm Go.Fg Go.Fg.PS
set_option maxRecDepth 100000
set_option maxHeartbeats 4000000
set_option linter.unusedSimpArgs false
set_option linter.unusedVariables false
variable {m : Int}
/-- The law of a curve. -/
def lawG (n : Nat) (a : PS (Zm m)) : PS (PS (Zm m)) := comp2N (rev (invN m (a.c 1).val) a) (axX a + axY a) 0 n
theorem c_lawOf (hm : Md m) (o : Bool) (n : Nat) (hn : 2 ≤ n ∧ n ≤ 50) (a : PS (Zm m)) : PureCall Try.prog 90 [SerD m o n a] (PlD m true true n (lawG n a)) := by
  refine pure_of_vcR Try.tabOk mixOrd Try.func90 rfl rfl ?_
  conv => whnf
  repeat' first
    | (refine And.intro (Or.inl rfl) ?_; conv => whnf)
    | (refine Or.inl (Or.inl (Exists.intro _ (And.intro (c_reverseU hm _ n vAr a) ?_))); conv => whnf)
    | (refine Or.inl (Exists.intro _ (And.intro (c_reverseU hm _ n vAr a) ?_)); conv => whnf)
    | (apply Exists.intro; refine And.intro (c_reverseU hm _ n vAr a) ?_; conv => whnf)
    | (refine Or.inl (Or.inl (Exists.intro _ (And.intro (c_onAxis0 hm _ n vAr _) ?_))); conv => whnf)
    | (refine Or.inl (Exists.intro _ (And.intro (c_onAxis0 hm _ n vAr _) ?_)); conv => whnf)
    | (apply Exists.intro; refine And.intro (c_onAxis0 hm _ n vAr _) ?_; conv => whnf)
    | (refine Or.inl (Or.inl (Exists.intro _ (And.intro (c_onAxis1 hm _ n vAr _) ?_))); conv => whnf)
    | (refine Or.inl (Exists.intro _ (And.intro (c_onAxis1 hm _ n vAr _) ?_)); conv => whnf)
    | (apply Exists.intro; refine And.intro (c_onAxis1 hm _ n vAr _) ?_; conv => whnf)
    | (refine Or.inl (Or.inl (Exists.intro _ (And.intro (c_plusP hm _ _ _ _ n vAr _ _) ?_))); conv => whnf)
    | (refine Or.inl (Exists.intro _ (And.intro (c_plusP hm _ _ _ _ n vAr _ _) ?_)); conv => whnf)
    | (apply Exists.intro; refine And.intro (c_plusP hm _ _ _ _ n vAr _ _) ?_; conv => whnf)
    | (refine Or.inl (Or.inl (Exists.intro _ (And.intro (c_of hm _ _ _ n vAr _ _) ?_))); conv => whnf)
    | (refine Or.inl (Exists.intro _ (And.intro (c_of hm _ _ _ n vAr _ _) ?_)); conv => whnf)
    | (apply Exists.intro; refine And.intro (c_of hm _ _ _ n vAr _ _) ?_; conv => whnf)
    | (refine And.intro (fun h => ?_) (fun h => ?_) <;> (try simp only [cnt1, ints_length] at h) <;> conv => whnf)
    | (refine And.intro (show slotsOk _ = true by decide +kernel) ?_; conv => whnf)
    | (refine And.intro vOb ?_; conv => whnf)
    | (apply Exists.intro; refine And.intro vObt ?_; conv => whnf)
    | (apply Exists.intro; refine And.intro vObx ?_; conv => whnf)
    | (refine And.intro vArT ?_; conv => whnf)
    | (refine Or.inl ?_; conv => whnf)
    | fail
  rfl
theorem c_l05Law (hm : Md m) (o : Bool) (n : Nat) (hn : 2 ≤ n ∧ n ≤ 50) (a : PS (Zm m)) (ha : a.c 0 = 0) : PureCall Try.prog 87 [dint m, LD o n a] (TbD true true n (lawG n a)) := by
  refine pure_of_vcR Try.tabOk mixOrd Try.func87 rfl rfl ?_
  conv => whnf
  repeat' first
    | (refine And.intro (Or.inl rfl) ?_; conv => whnf)
    | (refine Or.inl (Or.inl (Exists.intro _ (And.intro (c_l02ReverseU hm _ n n vAr vAr vAr vAr a) ?_))); conv => whnf)
    | (refine Or.inl (Exists.intro _ (And.intro (c_l02ReverseU hm _ n n vAr vAr vAr vAr a) ?_)); conv => whnf)
    | (apply Exists.intro; refine And.intro (c_l02ReverseU hm _ n n vAr vAr vAr vAr a) ?_; conv => whnf)
    | (refine Or.inl (Or.inl (Exists.intro _ (And.intro (c_l05Sum hm _ n vAr a ha) ?_))); conv => whnf)
    | (refine Or.inl (Exists.intro _ (And.intro (c_l05Sum hm _ n vAr a ha) ?_)); conv => whnf)
    | (apply Exists.intro; refine And.intro (c_l05Sum hm _ n vAr a ha) ?_; conv => whnf)
    | (refine Or.inl (Or.inl (Exists.intro _ (And.intro (c_l03After hm _ _ _ n vAr n vAr _ _) ?_))); conv => whnf)
    | (refine Or.inl (Exists.intro _ (And.intro (c_l03After hm _ _ _ n vAr n vAr _ _) ?_)); conv => whnf)
    | (apply Exists.intro; refine And.intro (c_l03After hm _ _ _ n vAr n vAr _ _) ?_; conv => whnf)
    | (refine And.intro (fun h => ?_) (fun h => ?_) <;> (try simp only [cnt1, ints_length] at h) <;> conv => whnf)
    | (refine And.intro (show slotsOk _ = true by decide +kernel) ?_; conv => whnf)
    | (refine And.intro vOb ?_; conv => whnf)
    | (apply Exists.intro; refine And.intro vObt ?_; conv => whnf)
    | (apply Exists.intro; refine And.intro vObx ?_; conv => whnf)
    | (refine And.intro vArT ?_; conv => whnf)
    | (refine Or.inl ?_; conv => whnf)
    | fail
  rfl
def zplD' : D := .agg [dint 0, .lit (.slice none 0 0)]
def plRes' (m : Int) (n : Nat) (a : PS (PS (Zm m))) (code : Int) : D := if code = 0 then .tup [PlD m true true n a, dint 0] else .tup [zplD', dint code]
theorem c_implLawOfGenus (o : Bool) (m : Int) (l : List Int) (hl : l.length ≤ 1048576) : PureCall Try.prog 29 [.agg [dint m, .list o 1 (ints l)]] (plRes' m (l.length + 1) (lawG (l.length + 1) (logG (rd m l))) (shortCode m l)) := by
  refine pure_of_vcR Try.tabOk mixOrd Try.func29 rfl rfl ?_
  conv => whnf
  repeat' first
    | (refine And.intro (Or.inl rfl) ?_; conv => whnf)
    | (refine Or.inl (Or.inl (Exists.intro _ (And.intro (c_lawful _ _ _ hl) ?_))); conv => whnf)
    | (refine Or.inl (Exists.intro _ (And.intro (c_lawful _ _ _ hl) ?_)); conv => whnf)
    | (apply Exists.intro; refine And.intro (c_lawful _ _ _ hl) ?_; conv => whnf)
    | (refine And.intro (fun h => ?_) (fun h => ?_) <;> (try simp only [cnt1, ints_length] at h) <;> conv => whnf)
    | (refine And.intro (show slotsOk _ = true by decide +kernel) ?_; conv => whnf)
    | (refine And.intro vOb ?_; conv => whnf)
    | (apply Exists.intro; refine And.intro vObt ?_; conv => whnf)
    | (apply Exists.intro; refine And.intro vObx ?_; conv => whnf)
    | (refine And.intro vArT ?_; conv => whnf)
    | (refine Or.inl ?_; conv => whnf)
    | fail
  · rw [plRes', if_neg h]; rfl
  · have h0 := Classical.not_not.1 h
    obtain ⟨hc, hb⟩ := shortCode_0 h0
    have hs := charB_ser hc
    have hlen := serB_len hs
    have key := c_exponentialOf (serB_md hs) o l.length (by omega) (rd m l)
    rw [serD_of hs] at key
    repeat' first
      | (refine And.intro (Or.inl rfl) ?_; conv => whnf)
      | (refine Or.inl (Or.inl (Exists.intro _ (And.intro (key) ?_))); conv => whnf)
      | (refine Or.inl (Exists.intro _ (And.intro (key) ?_)); conv => whnf)
      | (apply Exists.intro; refine And.intro (key) ?_; conv => whnf)
      | (refine Or.inl (Or.inl (Exists.intro _ (And.intro (c_reverseU (serB_md hs) _ (l.length + 1) (by omega) (expG (rd m l))) ?_))); conv => whnf)
      | (refine Or.inl (Exists.intro _ (And.intro (c_reverseU (serB_md hs) _ (l.length + 1) (by omega) (expG (rd m l))) ?_)); conv => whnf)
      | (apply Exists.intro; refine And.intro (c_reverseU (serB_md hs) _ (l.length + 1) (by omega) (expG (rd m l))) ?_; conv => whnf)
      | (refine Or.inl (Or.inl (Exists.intro _ (And.intro (c_lawOf (serB_md hs) _ (l.length + 1) (by omega) _) ?_))); conv => whnf)
      | (refine Or.inl (Exists.intro _ (And.intro (c_lawOf (serB_md hs) _ (l.length + 1) (by omega) _) ?_)); conv => whnf)
      | (apply Exists.intro; refine And.intro (c_lawOf (serB_md hs) _ (l.length + 1) (by omega) _) ?_; conv => whnf)
      | (refine And.intro (fun h => ?_) (fun h => ?_) <;> (try simp only [cnt1, ints_length] at h) <;> conv => whnf)
      | (refine And.intro (show slotsOk _ = true by decide +kernel) ?_; conv => whnf)
      | (refine And.intro vOb ?_; conv => whnf)
      | (apply Exists.intro; refine And.intro vObt ?_; conv => whnf)
      | (apply Exists.intro; refine And.intro vObx ?_; conv => whnf)
      | (refine And.intro vArT ?_; conv => whnf)
      | (refine Or.inl ?_; conv => whnf)
      | fail
    rw [plRes', if_pos h0]; rfl
theorem logG_0 (a : PS (Zm m)) : (logG a).c 0 = 0 := by
  unfold logG
  rfl
theorem mk_l03Make'' : MakesAgg Try.prog 86 := fun m b n c => by
  refine pure_of_vcR Try.tabOk mixOrd Try.func86 rfl rfl ?_
  conv => whnf
  repeat' first
    | (refine And.intro (Or.inl rfl) ?_; conv => whnf)
    | (refine And.intro (fun h => ?_) (fun h => ?_) <;> (try simp only [cnt1, ints_length] at h) <;> conv => whnf)
    | (refine And.intro (show slotsOk _ = true by decide +kernel) ?_; conv => whnf)
    | (refine And.intro vOb ?_; conv => whnf)
    | (apply Exists.intro; refine And.intro vObt ?_; conv => whnf)
    | (apply Exists.intro; refine And.intro vObx ?_; conv => whnf)
    | (refine And.intro vArT ?_; conv => whnf)
    | (refine Or.inl ?_; conv => whnf)
    | fail
theorem c_specLawOfGenus (o : Bool) (m : Int) (l : List Int) (hl : l.length ≤ 1048576) : PureCall Try.prog 27 [.agg [dint m, .list o 1 (ints l)]] (plRes' m (l.length + 1) (lawG (l.length + 1) (logG (rd m l))) (shortCode m l)) := by
  refine pure_of_vcR Try.tabOk mixOrd Try.func27 rfl rfl ?_
  conv => whnf
  repeat' first
    | (refine And.intro (Or.inl rfl) ?_; conv => whnf)
    | (refine Or.inl (Or.inl (Exists.intro _ (And.intro (c_l19Short _ _ _ hl) ?_))); conv => whnf)
    | (refine Or.inl (Exists.intro _ (And.intro (c_l19Short _ _ _ hl) ?_)); conv => whnf)
    | (apply Exists.intro; refine And.intro (c_l19Short _ _ _ hl) ?_; conv => whnf)
    | (refine And.intro (fun h => ?_) (fun h => ?_) <;> (try simp only [cnt1, ints_length] at h) <;> conv => whnf)
    | (refine And.intro (show slotsOk _ = true by decide +kernel) ?_; conv => whnf)
    | (refine And.intro vOb ?_; conv => whnf)
    | (apply Exists.intro; refine And.intro vObt ?_; conv => whnf)
    | (apply Exists.intro; refine And.intro vObx ?_; conv => whnf)
    | (refine And.intro vArT ?_; conv => whnf)
    | (refine Or.inl ?_; conv => whnf)
    | fail
  · rw [plRes', if_neg h]; rfl
  · have h0 := Classical.not_not.1 h
    obtain ⟨hc, hb⟩ := shortCode_0 h0
    have hs := charB_ser hc
    have hlen := serB_len hs
    repeat' first
      | (refine And.intro (Or.inl rfl) ?_; conv => whnf)
      | (refine Or.inl (Or.inl (Exists.intro _ (And.intro (c_l19Logarithm _ _ _ hc) ?_))); conv => whnf)
      | (refine Or.inl (Exists.intro _ (And.intro (c_l19Logarithm _ _ _ hc) ?_)); conv => whnf)
      | (apply Exists.intro; refine And.intro (c_l19Logarithm _ _ _ hc) ?_; conv => whnf)
      | (refine Or.inl (Or.inl (Exists.intro _ (And.intro (c_l05Law (serB_md hs) _ (l.length + 1) (by omega) _ (logG_0 _)) ?_))); conv => whnf)
      | (refine Or.inl (Exists.intro _ (And.intro (c_l05Law (serB_md hs) _ (l.length + 1) (by omega) _ (logG_0 _)) ?_)); conv => whnf)
      | (apply Exists.intro; refine And.intro (c_l05Law (serB_md hs) _ (l.length + 1) (by omega) _ (logG_0 _)) ?_; conv => whnf)
      | (refine Or.inl (Or.inr (And.intro (mk_l03Make'') ?_)); conv => whnf)
      | (refine Or.inr (And.intro (mk_l03Make'') ?_); conv => whnf)
      | (refine And.intro (fun h => ?_) (fun h => ?_) <;> (try simp only [cnt1, ints_length] at h) <;> conv => whnf)
      | (refine And.intro (show slotsOk _ = true by decide +kernel) ?_; conv => whnf)
      | (refine And.intro vOb ?_; conv => whnf)
      | (apply Exists.intro; refine And.intro vObt ?_; conv => whnf)
      | (apply Exists.intro; refine And.intro vObx ?_; conv => whnf)
      | (refine And.intro vArT ?_; conv => whnf)
      | (refine Or.inl ?_; conv => whnf)
      | fail
    rw [plRes', if_pos h0]
theorem c_FnExactLawOfGenus (m : Int) (l : List Int) (_ : -9223372036854775808 ≤ m ∧ m ≤ 9223372036854775807) (hl : l.length ≤ 9223372036854775807) : PureCall Try.prog 6 [.agg [dint m, .list false 1 (ints l)]] (dbool true) := by
  refine pure_of_vcR Try.tabOk mixOrd Try.func6 rfl rfl ?_
  conv => whnf
  repeat' first
    | (refine And.intro (Or.inl rfl) ?_; conv => whnf)
    | (refine Or.inl (Or.inl (Exists.intro _ (And.intro (c_szSeries _ _ l _ (by omega) hl) ?_))); conv => whnf)
    | (refine Or.inl (Exists.intro _ (And.intro (c_szSeries _ _ l _ (by omega) hl) ?_)); conv => whnf)
    | (apply Exists.intro; refine And.intro (c_szSeries _ _ l _ (by omega) hl) ?_; conv => whnf)
    | (refine And.intro (fun h => ?_) (fun h => ?_) <;> (try simp only [cnt1, ints_length] at h) <;> conv => whnf)
    | (refine And.intro (show slotsOk _ = true by decide +kernel) ?_; conv => whnf)
    | (refine And.intro vOb ?_; conv => whnf)
    | (apply Exists.intro; refine And.intro vObt ?_; conv => whnf)
    | (apply Exists.intro; refine And.intro vObx ?_; conv => whnf)
    | (refine And.intro vArT ?_; conv => whnf)
    | (refine Or.inl ?_; conv => whnf)
    | fail
  have hl' : l.length ≤ 1048576 := by split at h <;> omega
  have e1 := c_specLawOfGenus false m l hl'
  have e3 := c_implLawOfGenus false m l hl'
  by_cases hc : shortCode m l = 0
  · have hlen := serB_len (charB_ser (shortCode_0 hc).1)
    rw [plRes', if_pos hc] at e1 e3
    generalize lawG (l.length + 1) (logG (rd m l)) = f at e1 e3
    obtain ⟨N, hN⟩ : ∃ N, l.length + 1 = N := ⟨_, rfl⟩
    rw [hN] at e1 e3
    have hN2 : N ≤ 12 := by omega
    have htot := totL_Tb (n := N) f
    have htot2 : totL (Tb N f) ≤ 144 := Nat.le_trans htot (Nat.mul_le_mul hN2 hN2)
    repeat' first
      | (refine And.intro (Or.inl rfl) ?_; conv => whnf)
      | (refine Or.inl (Or.inl (Exists.intro _ (And.intro (c_toSeries _ _ _ hl') ?_))); conv => whnf)
      | (refine Or.inl (Exists.intro _ (And.intro (c_toSeries _ _ _ hl') ?_)); conv => whnf)
      | (apply Exists.intro; refine And.intro (c_toSeries _ _ _ hl') ?_; conv => whnf)
      | (refine Or.inl (Or.inl (Exists.intro _ (And.intro (e1) ?_))); conv => whnf)
      | (refine Or.inl (Exists.intro _ (And.intro (e1) ?_)); conv => whnf)
      | (apply Exists.intro; refine And.intro (e1) ?_; conv => whnf)
      | (refine Or.inl (Or.inl (Exists.intro _ (And.intro (e3) ?_))); conv => whnf)
      | (refine Or.inl (Exists.intro _ (And.intro (e3) ?_)); conv => whnf)
      | (apply Exists.intro; refine And.intro (e3) ?_; conv => whnf)
      | (refine Or.inl (Or.inl (Exists.intro _ (And.intro (c_eqPlane _ _ _ _ _ _ _ _ vAr (lensOk_Tb vAr _)) ?_))); conv => whnf)
      | (refine Or.inl (Exists.intro _ (And.intro (c_eqPlane _ _ _ _ _ _ _ _ vAr (lensOk_Tb vAr _)) ?_)); conv => whnf)
      | (apply Exists.intro; refine And.intro (c_eqPlane _ _ _ _ _ _ _ _ vAr (lensOk_Tb vAr _)) ?_; conv => whnf)
      | (refine Or.inl (Or.inl (Exists.intro _ (And.intro (c_eqSeries _ _ _ _ _ _ hl') ?_))); conv => whnf)
      | (refine Or.inl (Exists.intro _ (And.intro (c_eqSeries _ _ _ _ _ _ hl') ?_)); conv => whnf)
      | (apply Exists.intro; refine And.intro (c_eqSeries _ _ _ _ _ _ hl') ?_; conv => whnf)
      | (refine Or.inr (inl_ofR Try.tabOk mixOrd _ Try.func31 rfl rfl ?_); conv => whnf)
      | (refine Or.inr (inlMark rfl vAr ⟨vAr, vAr⟩ ?_); conv => whnf)
      | (refine Or.inr (inl_ofR Try.tabOk mixOrd _ Try.func32 rfl rfl ?_); conv => whnf)
      | (refine Or.inr (inlMarkT rfl vAr vAr ⟨vAr, vAr⟩ ?_); conv => whnf)
      | (refine Or.inl (Or.inl (Exists.intro _ (And.intro (c_heldPlane _ _ _ _ _ vAr ⟨vAr, vAr⟩) ?_))); conv => whnf)
      | (refine Or.inl (Exists.intro _ (And.intro (c_heldPlane _ _ _ _ _ vAr ⟨vAr, vAr⟩) ?_)); conv => whnf)
      | (apply Exists.intro; refine And.intro (c_heldPlane _ _ _ _ _ vAr ⟨vAr, vAr⟩) ?_; conv => whnf)
      | (refine Or.inl (Or.inl (Exists.intro _ (And.intro (sub_rows vArS) ?_))); conv => whnf)
      | (refine Or.inl (Exists.intro _ (And.intro (sub_rows vArS) ?_)); conv => whnf)
      | (apply Exists.intro; refine And.intro (sub_rows vArS) ?_; conv => whnf)
      | (refine And.intro (fun h => ?_) (fun h => ?_) <;> (try simp only [cnt1, ints_length] at h) <;> conv => whnf)
      | (refine And.intro (show slotsOk _ = true by decide +kernel) ?_; conv => whnf)
      | (refine And.intro vOb ?_; conv => whnf)
      | (apply Exists.intro; refine And.intro vObt ?_; conv => whnf)
      | (apply Exists.intro; refine And.intro vObx ?_; conv => whnf)
      | (refine And.intro vArT ?_; conv => whnf)
      | (refine And.intro (vArS) ?_; conv => whnf)
      | (refine Or.inl ?_; conv => whnf)
      | fail
    all_goals (exfalso; first | omega | (simp_all; done) | (simp_all; omega))
  · rw [plRes', if_neg hc] at e1 e3
    repeat' first
      | (refine And.intro (Or.inl rfl) ?_; conv => whnf)
      | (refine Or.inl (Or.inl (Exists.intro _ (And.intro (c_toSeries _ _ _ hl') ?_))); conv => whnf)
      | (refine Or.inl (Exists.intro _ (And.intro (c_toSeries _ _ _ hl') ?_)); conv => whnf)
      | (apply Exists.intro; refine And.intro (c_toSeries _ _ _ hl') ?_; conv => whnf)
      | (refine Or.inl (Or.inl (Exists.intro _ (And.intro (e1) ?_))); conv => whnf)
      | (refine Or.inl (Exists.intro _ (And.intro (e1) ?_)); conv => whnf)
      | (apply Exists.intro; refine And.intro (e1) ?_; conv => whnf)
      | (refine Or.inl (Or.inl (Exists.intro _ (And.intro (e3) ?_))); conv => whnf)
      | (refine Or.inl (Exists.intro _ (And.intro (e3) ?_)); conv => whnf)
      | (apply Exists.intro; refine And.intro (e3) ?_; conv => whnf)
      | (refine Or.inl (Or.inl (Exists.intro _ (And.intro (c_eqPlaneNil) ?_))); conv => whnf)
      | (refine Or.inl (Exists.intro _ (And.intro (c_eqPlaneNil) ?_)); conv => whnf)
      | (apply Exists.intro; refine And.intro (c_eqPlaneNil) ?_; conv => whnf)
      | (refine Or.inl (Or.inl (Exists.intro _ (And.intro (c_eqSeries _ _ _ _ _ _ hl') ?_))); conv => whnf)
      | (refine Or.inl (Exists.intro _ (And.intro (c_eqSeries _ _ _ _ _ _ hl') ?_)); conv => whnf)
      | (apply Exists.intro; refine And.intro (c_eqSeries _ _ _ _ _ _ hl') ?_; conv => whnf)
      | (refine Or.inr (inl_ofR Try.tabOk mixOrd _ Try.func31 rfl rfl ?_); conv => whnf)
      | (refine Or.inr (inlMark rfl vAr ⟨vAr, vAr⟩ ?_); conv => whnf)
      | (refine Or.inr (inl_ofR Try.tabOk mixOrd _ Try.func32 rfl rfl ?_); conv => whnf)
      | (refine Or.inl (Or.inl (Exists.intro _ (And.intro (c_markNilT _ vAr) ?_))); conv => whnf)
      | (refine Or.inl (Exists.intro _ (And.intro (c_markNilT _ vAr) ?_)); conv => whnf)
      | (apply Exists.intro; refine And.intro (c_markNilT _ vAr) ?_; conv => whnf)
      | (refine Or.inl (Or.inl (Exists.intro _ (And.intro (c_heldPlaneNil _ vAr) ?_))); conv => whnf)
      | (refine Or.inl (Exists.intro _ (And.intro (c_heldPlaneNil _ vAr) ?_)); conv => whnf)
      | (apply Exists.intro; refine And.intro (c_heldPlaneNil _ vAr) ?_; conv => whnf)
      | (refine And.intro (fun h => ?_) (fun h => ?_) <;> (try simp only [cnt1, ints_length] at h) <;> conv => whnf)
      | (refine And.intro (show slotsOk _ = true by decide +kernel) ?_; conv => whnf)
      | (refine And.intro vOb ?_; conv => whnf)
      | (apply Exists.intro; refine And.intro vObt ?_; conv => whnf)
      | (apply Exists.intro; refine And.intro vObx ?_; conv => whnf)
      | (refine And.intro vArT ?_; conv => whnf)
      | (refine Or.inl ?_; conv => whnf)
      | fail
    all_goals (exfalso; first | omega | (simp_all; done) | (simp_all; omega))
end Go.Proofs

