/- The new desk. -/
-- tables
import Derived.Test.YtbpiacnadjfkhaaK13
import Derived.Test.YtbpiacnadjfkhaaKT
namespace Go.Proofs
open Go Go.Vm Go.Fg Go.Fg.PS
set_option maxRecDepth 100000
set_option maxHeartbeats 4000000
set_option linter.unusedSimpArgs false
set_option linter.unusedVariables false
variable {m : Int}
theorem c_scaledP1 (hm : Md m) (o p : Bool) (n : Nat) (hn : 1 ≤ n ∧ n ≤ 100) (f : PS (PS (Zm m))) (c : Int) (i j : Nat) (h : i + j < n) : PureCall Try.prog 181 [dint i, dint j, .cptr [dint m, .list o 1 (rows p (Tb n f))] 0, .cptr [dint c] 0] (dint (Zm.mk m c * (f.c i).c j).val) := by
  have hm1 := hm.1
  have hm2 := hm.2
  refine pure_of_vc Try.tabOk mixOrd Try.func181 rfl rfl ?_
  conv => whnf
  repeat' first
    | (refine And.intro (Or.inl rfl) ?_; conv => whnf)
    | (refine Or.inl (Or.inl (Exists.intro _ (And.intro (c_mod _ _ hm.pos (by omega)) ?_))); conv => whnf)
    | (refine Or.inl (Exists.intro _ (And.intro (c_mod _ _ hm.pos (by omega)) ?_)); conv => whnf)
    | (apply Exists.intro; refine And.intro (c_mod _ _ hm.pos (by omega)) ?_; conv => whnf)
    | (refine Or.inl (Or.inl (Exists.intro _ (And.intro (c_mul hm (Zm.mk m c) _) ?_))); conv => whnf)
    | (refine Or.inl (Exists.intro _ (And.intro (c_mul hm (Zm.mk m c) _) ?_)); conv => whnf)
    | (apply Exists.intro; refine And.intro (c_mul hm (Zm.mk m c) _) ?_; conv => whnf)
    | (refine And.intro (fun h => ?_) (fun h => ?_) <;> (try simp only [cnt1, ints_length] at h) <;> conv => whnf)
    | (refine And.intro (show slotsOk _ = true by decide +kernel) ?_; conv => whnf)
    | (refine And.intro vOb ?_; conv => whnf)
    | (apply Exists.intro; refine And.intro vObt ?_; conv => whnf)
    | (apply Exists.intro; refine And.intro vObx ?_; conv => whnf)
    | (refine And.intro vArT ?_; conv => whnf)
    | (refine Or.inl ?_; conv => whnf)
    | fail
  all_goals rfl
theorem c_scaledP (hm : Md m) (o p : Bool) (n : Nat) (hn : 1 ≤ n ∧ n ≤ 100) (f : PS (PS (Zm m))) (c : Int) : PureCall Try.prog 165 [PlD m o p n f, dint c] (PlD m true true n (PS.C (PS.C (Zm.mk m c)) * f)) := by
  have hm1 := hm.1
  have hm2 := hm.2
  refine pure_of_vc Try.tabOk mixOrd Try.func165 rfl rfl ?_
  conv => whnf
  repeat' first
    | (refine And.intro (Or.inl rfl) ?_; conv => whnf)
    | (refine Or.inl (Or.inl (Exists.intro _ (And.intro (c_mapped2 hm _ _ _ n hn (fun i j => (Zm.mk m c * (f.c i).c j).val) (fun i j h => c_scaledP1 hm _ _ n hn f c i j h) _ _ f) ?_))); conv => whnf)
    | (refine Or.inl (Exists.intro _ (And.intro (c_mapped2 hm _ _ _ n hn (fun i j => (Zm.mk m c * (f.c i).c j).val) (fun i j h => c_scaledP1 hm _ _ n hn f c i j h) _ _ f) ?_)); conv => whnf)
    | (apply Exists.intro; refine And.intro (c_mapped2 hm _ _ _ n hn (fun i j => (Zm.mk m c * (f.c i).c j).val) (fun i j h => c_scaledP1 hm _ _ n hn f c i j h) _ _ f) ?_; conv => whnf)
    | (refine And.intro (fun h => ?_) (fun h => ?_) <;> (try simp only [cnt1, ints_length] at h) <;> conv => whnf)
    | (refine And.intro (show slotsOk _ = true by decide +kernel) ?_; conv => whnf)
    | (refine And.intro vOb ?_; conv => whnf)
    | (apply Exists.intro; refine And.intro vObt ?_; conv => whnf)
    | (apply Exists.intro; refine And.intro vObx ?_; conv => whnf)
    | (refine And.intro vArT ?_; conv => whnf)
    | (refine Or.inl ?_; conv => whnf)
    | fail
  refine plD_congr (Tb_congr (fun i j hij => ?_))
  rw [pl_c, Zm.mk_val, C_mul, C_mul]
theorem c_standard1 (x m : Int) (h1 : inR .i64 (m - 1)) : PureCall Try.prog 180 [dint x, .cptr [dint m] 0] (dbool (inB x 0 (m - 1))) := by
  refine pure_of_vc Try.tabOk mixOrd Try.func180 rfl rfl ?_
  conv => whnf
  repeat' first
    | (refine And.intro (Or.inl rfl) ?_; conv => whnf)
    | (refine Or.inl (Or.inl (Exists.intro _ (And.intro (c_isNumber _ _ h1) ?_))); conv => whnf)
    | (refine Or.inl (Exists.intro _ (And.intro (c_isNumber _ _ h1) ?_)); conv => whnf)
    | (apply Exists.intro; refine And.intro (c_isNumber _ _ h1) ?_; conv => whnf)
    | (refine And.intro (fun h => ?_) (fun h => ?_) <;> (try simp only [cnt1, ints_length] at h) <;> conv => whnf)
    | (refine And.intro (show slotsOk _ = true by decide +kernel) ?_; conv => whnf)
    | (refine And.intro vOb ?_; conv => whnf)
    | (apply Exists.intro; refine And.intro vObt ?_; conv => whnf)
    | (apply Exists.intro; refine And.intro vObx ?_; conv => whnf)
    | (refine And.intro vArT ?_; conv => whnf)
    | (refine Or.inl ?_; conv => whnf)
    | fail
  all_goals (refine dbool_congr ?_; first | rfl | (simp_all []; done) | (simp_all []; omega) | (simp_all []; intros; omega))
def stdCode (m d : Int) (l : List Int) : Int := if inB m 2 10000 && inB d 1 10 && numsB m l then 0 else 2
theorem c_standard (o : Bool) (m d : Int) (l : List Int) (hl : l.length ≤ 1048576) : PureCall Try.prog 164 [dint m, dint d, .list o 1 (ints l)] (dint (stdCode m d l)) := by
  refine pure_of_vc Try.tabOk mixOrd Try.func164 rfl rfl ?_
  conv => whnf
  repeat' first
    | (refine And.intro (Or.inl rfl) ?_; conv => whnf)
    | (refine Or.inl (Or.inl (Exists.intro _ (And.intro (c_IsModulus _) ?_))); conv => whnf)
    | (refine Or.inl (Exists.intro _ (And.intro (c_IsModulus _) ?_)); conv => whnf)
    | (apply Exists.intro; refine And.intro (c_IsModulus _) ?_; conv => whnf)
    | (refine Or.inl (Or.inl (Exists.intro _ (And.intro (c_impl_in _ _ _) ?_))); conv => whnf)
    | (refine Or.inl (Exists.intro _ (And.intro (c_impl_in _ _ _) ?_)); conv => whnf)
    | (apply Exists.intro; refine And.intro (c_impl_in _ _ _) ?_; conv => whnf)
    | (refine Or.inl (Or.inl (Exists.intro _ (And.intro (c_allA 180 [dint m] (fun a => inB a 0 (m - 1)) (fun a => c_standard1 a m (h1of (by assumption))) _ l hl) ?_))); conv => whnf)
    | (refine Or.inl (Exists.intro _ (And.intro (c_allA 180 [dint m] (fun a => inB a 0 (m - 1)) (fun a => c_standard1 a m (h1of (by assumption))) _ l hl) ?_)); conv => whnf)
    | (apply Exists.intro; refine And.intro (c_allA 180 [dint m] (fun a => inB a 0 (m - 1)) (fun a => c_standard1 a m (h1of (by assumption))) _ l hl) ?_; conv => whnf)
    | (refine And.intro (fun h => ?_) (fun h => ?_) <;> (try simp only [cnt1, ints_length] at h) <;> conv => whnf)
    | (refine And.intro (show slotsOk _ = true by decide +kernel) ?_; conv => whnf)
    | (refine And.intro vOb ?_; conv => whnf)
    | (apply Exists.intro; refine And.intro vObt ?_; conv => whnf)
    | (apply Exists.intro; refine And.intro vObx ?_; conv => whnf)
    | (refine And.intro vArT ?_; conv => whnf)
    | (refine Or.inl ?_; conv => whnf)
    | fail
  all_goals (refine congrArg dint ?_; simp_all [stdCode, numsB])
theorem c_MultiplicativeLaw : PureCall Try.prog 113 [dint 2, dint 4, dint 1] (.tup [PlD 2 true true 5 (xy 2 + PS.C (PS.C (Zm.mk 2 1)) * (axX PS.X * axY PS.X)), dint 0]) := by
  have hm : Md 2 := ⟨by omega, by omega⟩
  have hst := c_standard false 2 4 [1] (by simp)
  rw [show stdCode 2 4 [1] = 0 by decide] at hst
  refine pure_of_vc Try.tabOk mixOrd Try.func113 rfl rfl ?_
  conv => whnf
  repeat' first
    | (refine And.intro (Or.inl rfl) ?_; conv => whnf)
    | (refine Or.inl (Or.inl (Exists.intro _ (And.intro (hst) ?_))); conv => whnf)
    | (refine Or.inl (Exists.intro _ (And.intro (hst) ?_)); conv => whnf)
    | (apply Exists.intro; refine And.intro (hst) ?_; conv => whnf)
    | (refine Or.inl (Or.inl (Exists.intro _ (And.intro (c_variables hm 5 vAr vAr) ?_))); conv => whnf)
    | (refine Or.inl (Exists.intro _ (And.intro (c_variables hm 5 vAr vAr) ?_)); conv => whnf)
    | (apply Exists.intro; refine And.intro (c_variables hm 5 vAr vAr) ?_; conv => whnf)
    | (refine Or.inl (Or.inl (Exists.intro _ (And.intro (c_plusP hm _ _ _ _ 5 vAr _ _) ?_))); conv => whnf)
    | (refine Or.inl (Exists.intro _ (And.intro (c_plusP hm _ _ _ _ 5 vAr _ _) ?_)); conv => whnf)
    | (apply Exists.intro; refine And.intro (c_plusP hm _ _ _ _ 5 vAr _ _) ?_; conv => whnf)
    | (refine Or.inl (Or.inl (Exists.intro _ (And.intro (c_timesP hm _ _ _ _ 5 vAr _ _) ?_))); conv => whnf)
    | (refine Or.inl (Exists.intro _ (And.intro (c_timesP hm _ _ _ _ 5 vAr _ _) ?_)); conv => whnf)
    | (apply Exists.intro; refine And.intro (c_timesP hm _ _ _ _ 5 vAr _ _) ?_; conv => whnf)
    | (refine Or.inl (Or.inl (Exists.intro _ (And.intro (c_scaledP hm _ _ 5 vAr _ _) ?_))); conv => whnf)
    | (refine Or.inl (Exists.intro _ (And.intro (c_scaledP hm _ _ 5 vAr _ _) ?_)); conv => whnf)
    | (apply Exists.intro; refine And.intro (c_scaledP hm _ _ 5 vAr _ _) ?_; conv => whnf)
    | (refine And.intro (fun h => ?_) (fun h => ?_) <;> (try simp only [cnt1, ints_length] at h) <;> conv => whnf)
    | (refine And.intro (show slotsOk _ = true by decide +kernel) ?_; conv => whnf)
    | (refine And.intro vOb ?_; conv => whnf)
    | (apply Exists.intro; refine And.intro vObt ?_; conv => whnf)
    | (apply Exists.intro; refine And.intro vObx ?_; conv => whnf)
    | (refine And.intro vArT ?_; conv => whnf)
    | (refine Or.inl ?_; conv => whnf)
    | fail
  exfalso; omega
theorem c_l08Multiplicative : PureCall Try.prog 163 [dint 2, dint 4, dint 1] (TbD true true 5 (xy 2 + PS.C (PS.C (Zm.mk 2 1)) * (axX PS.X * axY PS.X))) := by
  have hm : Md 2 := ⟨by omega, by omega⟩
  refine pure_of_vc Try.tabOk mixOrd Try.func163 rfl rfl ?_
  conv => whnf
  repeat' first
    | (refine And.intro (Or.inl rfl) ?_; conv => whnf)
    | (refine Or.inl (Or.inl (Exists.intro _ (And.intro (c_l03Zero (m := 2) 5 vAr vAr) ?_))); conv => whnf)
    | (refine Or.inl (Exists.intro _ (And.intro (c_l03Zero (m := 2) 5 vAr vAr) ?_)); conv => whnf)
    | (apply Exists.intro; refine And.intro (c_l03Zero (m := 2) 5 vAr vAr) ?_; conv => whnf)
    | (refine And.intro (fun h => ?_) (fun h => ?_) <;> (try simp only [cnt1, ints_length] at h) <;> conv => whnf)
    | (refine And.intro (show slotsOk _ = true by decide +kernel) ?_; conv => whnf)
    | (refine And.intro vOb ?_; conv => whnf)
    | (apply Exists.intro; refine And.intro vObt ?_; conv => whnf)
    | (apply Exists.intro; refine And.intro vObx ?_; conv => whnf)
    | (refine And.intro vArT ?_; conv => whnf)
    | (refine Or.inl ?_; conv => whnf)
    | fail
  rw [show setT (Tb 5 (0 : PS (PS (Zm 2)))) 1 0 1 = Tb 5 (upd2 0 1 0 1) from setT_eq 1 (Zm.val_one (by omega)).symm (by omega) Ag2.rfl]
  repeat' first
    | (refine And.intro (Or.inl rfl) ?_; conv => whnf)
    | (refine And.intro (fun h => ?_) (fun h => ?_) <;> (try simp only [cnt1, ints_length] at h) <;> conv => whnf)
    | (refine And.intro (show slotsOk _ = true by decide +kernel) ?_; conv => whnf)
    | (refine And.intro vOb ?_; conv => whnf)
    | (apply Exists.intro; refine And.intro vObt ?_; conv => whnf)
    | (apply Exists.intro; refine And.intro vObx ?_; conv => whnf)
    | (refine And.intro vArT ?_; conv => whnf)
    | (refine Or.inl ?_; conv => whnf)
    | fail
  · rw [show setT (Tb 5 (upd2 (0 : PS (PS (Zm 2))) 1 0 1)) 0 1 1 = Tb 5 (upd2 (upd2 0 1 0 1) 0 1 1) from setT_eq 1 (Zm.val_one (by omega)).symm (by omega) Ag2.rfl]
    repeat' first
      | (refine And.intro (Or.inl rfl) ?_; conv => whnf)
      | (refine And.intro (fun h => ?_) (fun h => ?_) <;> (try simp only [cnt1, ints_length] at h) <;> conv => whnf)
      | (refine And.intro (show slotsOk _ = true by decide +kernel) ?_; conv => whnf)
      | (refine And.intro vOb ?_; conv => whnf)
      | (apply Exists.intro; refine And.intro vObt ?_; conv => whnf)
      | (apply Exists.intro; refine And.intro vObx ?_; conv => whnf)
      | (refine And.intro vArT ?_; conv => whnf)
      | (refine Or.inl ?_; conv => whnf)
      | fail
    exact tbD_congr (by decide +kernel)
  · exfalso; omega
theorem mk_l02Make' : MakesAgg Try.prog 82 := fun m b n c => by
  refine pure_of_vc Try.tabOk mixOrd Try.func82 rfl rfl ?_
  conv => whnf
  repeat' first
    | (refine And.intro (Or.inl rfl) ?_; conv => whnf)
    | (refine And.intro (fun h => ?_) (fun h => ?_) <;> (try simp only [cnt1, ints_length] at h) <;> conv => whnf)
    | (refine And.intro (show slotsOk _ = true by decide +kernel) ?_; conv => whnf)
    | (refine And.intro vOb ?_; conv => whnf)
    | (apply Exists.intro; refine And.intro vObt ?_; conv => whnf)
    | (apply Exists.intro; refine And.intro vObx ?_; conv => whnf)
    | (refine And.intro vArT ?_; conv => whnf)
    | (refine Or.inl ?_; conv => whnf)
    | fail
theorem mk_l03Make' : MakesAgg Try.prog 58 := fun m b n c => by
  refine pure_of_vc Try.tabOk mixOrd Try.func58 rfl rfl ?_
  conv => whnf
  repeat' first
    | (refine And.intro (Or.inl rfl) ?_; conv => whnf)
    | (refine And.intro (fun h => ?_) (fun h => ?_) <;> (try simp only [cnt1, ints_length] at h) <;> conv => whnf)
    | (refine And.intro (show slotsOk _ = true by decide +kernel) ?_; conv => whnf)
    | (refine And.intro vOb ?_; conv => whnf)
    | (apply Exists.intro; refine And.intro vObt ?_; conv => whnf)
    | (apply Exists.intro; refine And.intro vObx ?_; conv => whnf)
    | (refine And.intro vArT ?_; conv => whnf)
    | (refine Or.inl ?_; conv => whnf)
    | fail
abbrev newF : PS (PS (Zm 2)) := xy 2 + PS.C (PS.C (Zm.mk 2 1)) * (axX PS.X * axY PS.X)
abbrev DeskD (o p o1 o2 : Bool) (m m1 p2 m2 : Int) (t : List (List Int)) (l l2 : List Int) : D := .agg [dint m, .list o 1 (rows p t), dint m1, .list o1 1 (ints l), dint p2, dint m2, .list o2 1 (ints l2)]
theorem c_representative : PureCall Try.prog 115 [dint 2, dint 2, dint 3, dint 1] (.agg [dint 2, dint 2, .list true 1 (ints [1, 0, 0])]) := by
  refine pure_of_vc Try.tabOk mixOrd Try.func115 rfl rfl ?_
  conv => whnf
  repeat' first
    | (refine And.intro (Or.inl rfl) ?_; conv => whnf)
    | (refine And.intro (fun h => ?_) (fun h => ?_) <;> (try simp only [cnt1, ints_length] at h) <;> conv => whnf)
    | (refine And.intro (show slotsOk _ = true by decide +kernel) ?_; conv => whnf)
    | (refine And.intro vOb ?_; conv => whnf)
    | (apply Exists.intro; refine And.intro vObt ?_; conv => whnf)
    | (apply Exists.intro; refine And.intro vObx ?_; conv => whnf)
    | (refine And.intro vArT ?_; conv => whnf)
    | (refine Or.inl ?_; conv => whnf)
    | fail
  rfl
theorem c_l20New : PureCall Try.prog 112 [] (DeskD true true true true 2 2 2 2 (Tb 5 newF) [0, 1, 0, 0, 0] [1, 0, 0]) := by
  refine pure_of_vc Try.tabOk mixOrd Try.func112 rfl rfl ?_
  conv => whnf
  repeat' first
    | (refine And.intro (Or.inl rfl) ?_; conv => whnf)
    | (refine Or.inl (Or.inl (Exists.intro _ (And.intro (c_l08Multiplicative) ?_))); conv => whnf)
    | (refine Or.inl (Exists.intro _ (And.intro (c_l08Multiplicative) ?_)); conv => whnf)
    | (apply Exists.intro; refine And.intro (c_l08Multiplicative) ?_; conv => whnf)
    | (refine Or.inl (Or.inr (And.intro (mk_l02Make') ?_)); conv => whnf)
    | (refine Or.inr (And.intro (mk_l02Make') ?_); conv => whnf)
    | (refine Or.inl (Or.inr (And.intro (mk_l03Make') ?_)); conv => whnf)
    | (refine Or.inr (And.intro (mk_l03Make') ?_); conv => whnf)
    | (refine And.intro (fun h => ?_) (fun h => ?_) <;> (try simp only [cnt1, ints_length] at h) <;> conv => whnf)
    | (refine And.intro (show slotsOk _ = true by decide +kernel) ?_; conv => whnf)
    | (refine And.intro vOb ?_; conv => whnf)
    | (apply Exists.intro; refine And.intro vObt ?_; conv => whnf)
    | (apply Exists.intro; refine And.intro vObx ?_; conv => whnf)
    | (refine And.intro vArT ?_; conv => whnf)
    | (refine And.intro (ints_plain [0, 1, 0, 0, 0]) ?_; conv => whnf)
    | (refine And.intro (ints_plain [1, 0, 0]) ?_; conv => whnf)
    | (refine Or.inl ?_; conv => whnf)
    | fail
  rfl
theorem c_implNewDesk : PureCall Try.prog 46 [] (DeskD true true true true 2 2 2 2 (Tb 5 newF) [0, 1, 0, 0, 0] [1, 0, 0]) := by
  have hm : Md 2 := ⟨by omega, by omega⟩
  refine pure_of_vc Try.tabOk mixOrd Try.func46 rfl rfl ?_
  conv => whnf
  repeat' first
    | (refine And.intro (Or.inl rfl) ?_; conv => whnf)
    | (refine Or.inl (Or.inl (Exists.intro _ (And.intro (c_MultiplicativeLaw) ?_))); conv => whnf)
    | (refine Or.inl (Exists.intro _ (And.intro (c_MultiplicativeLaw) ?_)); conv => whnf)
    | (apply Exists.intro; refine And.intro (c_MultiplicativeLaw) ?_; conv => whnf)
    | (refine Or.inl (Or.inl (Exists.intro _ (And.intro (c_variable 5 vAr vAr hm) ?_))); conv => whnf)
    | (refine Or.inl (Exists.intro _ (And.intro (c_variable 5 vAr vAr hm) ?_)); conv => whnf)
    | (apply Exists.intro; refine And.intro (c_variable 5 vAr vAr hm) ?_; conv => whnf)
    | (refine Or.inl (Or.inl (Exists.intro _ (And.intro (c_representative) ?_))); conv => whnf)
    | (refine Or.inl (Exists.intro _ (And.intro (c_representative) ?_)); conv => whnf)
    | (apply Exists.intro; refine And.intro (c_representative) ?_; conv => whnf)
    | (refine And.intro (fun h => ?_) (fun h => ?_) <;> (try simp only [cnt1, ints_length] at h) <;> conv => whnf)
    | (refine And.intro (show slotsOk _ = true by decide +kernel) ?_; conv => whnf)
    | (refine And.intro vOb ?_; conv => whnf)
    | (apply Exists.intro; refine And.intro vObt ?_; conv => whnf)
    | (apply Exists.intro; refine And.intro vObx ?_; conv => whnf)
    | (refine And.intro vArT ?_; conv => whnf)
    | (refine Or.inl ?_; conv => whnf)
    | fail
  rw [show L 5 (PS.X : PS (Zm 2)) = [0, 1, 0, 0, 0] by decide +kernel]
theorem c_eqWitt (o o' : Bool) (p m p' m' : Int) (l l' : List Int) (hl : l.length ≤ 1048576) : PureCall Try.prog 116 [.agg [dint p, dint m, .list o 1 (ints l)], .agg [dint p', dint m', .list o' 1 (ints l')]] (dbool (decide (p = p') && (decide (m = m') && decide (l = l')))) := by
  refine pure_of_vc Try.tabOk mixOrd Try.func116 rfl rfl ?_
  conv => whnf
  repeat' first
    | (refine And.intro (Or.inl rfl) ?_; conv => whnf)
    | (refine Or.inl (Or.inl (Exists.intro _ (And.intro (c_eqInt64S _ _ l l' hl) ?_))); conv => whnf)
    | (refine Or.inl (Exists.intro _ (And.intro (c_eqInt64S _ _ l l' hl) ?_)); conv => whnf)
    | (apply Exists.intro; refine And.intro (c_eqInt64S _ _ l l' hl) ?_; conv => whnf)
    | (refine And.intro (fun h => ?_) (fun h => ?_) <;> (try simp only [cnt1, ints_length] at h) <;> conv => whnf)
    | (refine And.intro (show slotsOk _ = true by decide +kernel) ?_; conv => whnf)
    | (refine And.intro vOb ?_; conv => whnf)
    | (apply Exists.intro; refine And.intro vObt ?_; conv => whnf)
    | (apply Exists.intro; refine And.intro vObx ?_; conv => whnf)
    | (refine And.intro vArT ?_; conv => whnf)
    | (refine Or.inl ?_; conv => whnf)
    | fail
  all_goals (refine dbool_congr ?_; first | rfl | (simp_all []; done) | (simp_all []; omega) | (simp_all []; intros; omega))
theorem c_eqDesk (o p o1 o2 o' p' o1' o2' : Bool) (m m1 p2 m2 m' m1' p2' m2' : Int) (t t' : List (List Int)) (l l2 l' l2' : List Int) (h1 : t.length ≤ 1048576) (h2 : lensOk t) (h3 : l.length ≤ 1048576) (h4 : l2.length ≤ 1048576) :
    PureCall Try.prog 47 [DeskD o p o1 o2 m m1 p2 m2 t l l2, DeskD o' p' o1' o2' m' m1' p2' m2' t' l' l2'] (dbool ((decide (m = m') && decide (t = t')) && ((decide (m1 = m1') && decide (l = l')) && (decide (p2 = p2') && (decide (m2 = m2') && decide (l2 = l2')))))) := by
  refine pure_of_vc Try.tabOk mixOrd Try.func47 rfl rfl ?_
  conv => whnf
  repeat' first
    | (refine And.intro (Or.inl rfl) ?_; conv => whnf)
    | (refine Or.inl (Or.inl (Exists.intro _ (And.intro (c_eqPlane _ _ _ _ _ _ _ _ h1 h2) ?_))); conv => whnf)
    | (refine Or.inl (Exists.intro _ (And.intro (c_eqPlane _ _ _ _ _ _ _ _ h1 h2) ?_)); conv => whnf)
    | (apply Exists.intro; refine And.intro (c_eqPlane _ _ _ _ _ _ _ _ h1 h2) ?_; conv => whnf)
    | (refine Or.inl (Or.inl (Exists.intro _ (And.intro (c_eqSeries _ _ _ _ _ _ h3) ?_))); conv => whnf)
    | (refine Or.inl (Exists.intro _ (And.intro (c_eqSeries _ _ _ _ _ _ h3) ?_)); conv => whnf)
    | (apply Exists.intro; refine And.intro (c_eqSeries _ _ _ _ _ _ h3) ?_; conv => whnf)
    | (refine Or.inl (Or.inl (Exists.intro _ (And.intro (c_eqWitt _ _ _ _ _ _ _ _ h4) ?_))); conv => whnf)
    | (refine Or.inl (Exists.intro _ (And.intro (c_eqWitt _ _ _ _ _ _ _ _ h4) ?_)); conv => whnf)
    | (apply Exists.intro; refine And.intro (c_eqWitt _ _ _ _ _ _ _ _ h4) ?_; conv => whnf)
    | (refine And.intro (fun h => ?_) (fun h => ?_) <;> (try simp only [cnt1, ints_length] at h) <;> conv => whnf)
    | (refine And.intro (show slotsOk _ = true by decide +kernel) ?_; conv => whnf)
    | (refine And.intro vOb ?_; conv => whnf)
    | (apply Exists.intro; refine And.intro vObt ?_; conv => whnf)
    | (apply Exists.intro; refine And.intro vObx ?_; conv => whnf)
    | (refine And.intro vArT ?_; conv => whnf)
    | (refine Or.inl ?_; conv => whnf)
    | fail
  all_goals (refine dbool_congr ?_; first | rfl | (simp_all []; done) | (simp_all []; omega) | (simp_all []; intros; omega))
theorem c_specNewDesk : PureCall Try.prog 45 [] (DeskD true true true true 2 2 2 2 (Tb 5 newF) [0, 1, 0, 0, 0] [1, 0, 0]) := by
  refine pure_of_vc Try.tabOk mixOrd Try.func45 rfl rfl ?_
  conv => whnf
  repeat' first
    | (refine And.intro (Or.inl rfl) ?_; conv => whnf)
    | (refine Or.inl (Or.inl (Exists.intro _ (And.intro (c_l20New) ?_))); conv => whnf)
    | (refine Or.inl (Exists.intro _ (And.intro (c_l20New) ?_)); conv => whnf)
    | (apply Exists.intro; refine And.intro (c_l20New) ?_; conv => whnf)
    | (refine And.intro (fun h => ?_) (fun h => ?_) <;> (try simp only [cnt1, ints_length] at h) <;> conv => whnf)
    | (refine And.intro (show slotsOk _ = true by decide +kernel) ?_; conv => whnf)
    | (refine And.intro vOb ?_; conv => whnf)
    | (apply Exists.intro; refine And.intro vObt ?_; conv => whnf)
    | (apply Exists.intro; refine And.intro vObx ?_; conv => whnf)
    | (refine And.intro vArT ?_; conv => whnf)
    | (refine Or.inl ?_; conv => whnf)
    | fail
theorem c_heldSeries' (o : Bool) (m k : Int) (n : Nat) (hk : 0 ≤ k ∧ k + n ≤ 4611686018427387904) : PureCall Try.prog 36 [.agg [dint m, .list o 1 (ints (marks k n))], dint k] (dint (k + n)) := by
  refine pure_of_vc Try.tabOk mixOrd Try.func36 rfl rfl ?_
  conv => whnf
  repeat' first
    | (refine And.intro (Or.inl rfl) ?_; conv => whnf)
    | (refine Or.inl (Or.inl (Exists.intro _ (And.intro (c_heldInt64S _ _ _ hk) ?_))); conv => whnf)
    | (refine Or.inl (Exists.intro _ (And.intro (c_heldInt64S _ _ _ hk) ?_)); conv => whnf)
    | (apply Exists.intro; refine And.intro (c_heldInt64S _ _ _ hk) ?_; conv => whnf)
    | (refine And.intro (fun h => ?_) (fun h => ?_) <;> (try simp only [cnt1, ints_length] at h) <;> conv => whnf)
    | (refine And.intro (show slotsOk _ = true by decide +kernel) ?_; conv => whnf)
    | (refine And.intro vOb ?_; conv => whnf)
    | (apply Exists.intro; refine And.intro vObt ?_; conv => whnf)
    | (apply Exists.intro; refine And.intro vObx ?_; conv => whnf)
    | (refine And.intro vArT ?_; conv => whnf)
    | (refine Or.inl ?_; conv => whnf)
    | fail
  exfalso; omega
theorem c_heldWitt (o : Bool) (p m k : Int) (n : Nat) (hk : 0 ≤ k ∧ k + n ≤ 4611686018427387904) : PureCall Try.prog 118 [.agg [dint p, dint m, .list o 1 (ints (marks k n))], dint k] (dint (k + n)) := by
  refine pure_of_vc Try.tabOk mixOrd Try.func118 rfl rfl ?_
  conv => whnf
  repeat' first
    | (refine And.intro (Or.inl rfl) ?_; conv => whnf)
    | (refine Or.inl (Or.inl (Exists.intro _ (And.intro (c_heldInt64S _ _ _ hk) ?_))); conv => whnf)
    | (refine Or.inl (Exists.intro _ (And.intro (c_heldInt64S _ _ _ hk) ?_)); conv => whnf)
    | (apply Exists.intro; refine And.intro (c_heldInt64S _ _ _ hk) ?_; conv => whnf)
    | (refine And.intro (fun h => ?_) (fun h => ?_) <;> (try simp only [cnt1, ints_length] at h) <;> conv => whnf)
    | (refine And.intro (show slotsOk _ = true by decide +kernel) ?_; conv => whnf)
    | (refine And.intro vOb ?_; conv => whnf)
    | (apply Exists.intro; refine And.intro vObt ?_; conv => whnf)
    | (apply Exists.intro; refine And.intro vObx ?_; conv => whnf)
    | (refine And.intro vArT ?_; conv => whnf)
    | (refine Or.inl ?_; conv => whnf)
    | fail
  exfalso; omega
theorem c_heldDesk (o p o1 o2 : Bool) (m m1 p2 m2 k : Int) (t : List (List Int)) (n1 n2 : Nat) (h1 : t.length ≤ 1048576) (hk : 0 ≤ k ∧ k + totL t + n1 + n2 ≤ 4611686018427387904) :
    PureCall Try.prog 49 [DeskD o p o1 o2 m m1 p2 m2 (marksT k t) (marks (k + totL t) n1) (marks (k + totL t + n1) n2), dint k] (dint (k + totL t + n1 + n2)) := by
  refine pure_of_vc Try.tabOk mixOrd Try.func49 rfl rfl ?_
  conv => whnf
  repeat' first
    | (refine And.intro (Or.inl rfl) ?_; conv => whnf)
    | (refine Or.inl (Or.inl (Exists.intro _ (And.intro (c_heldPlane _ _ _ _ _ h1 (by omega)) ?_))); conv => whnf)
    | (refine Or.inl (Exists.intro _ (And.intro (c_heldPlane _ _ _ _ _ h1 (by omega)) ?_)); conv => whnf)
    | (apply Exists.intro; refine And.intro (c_heldPlane _ _ _ _ _ h1 (by omega)) ?_; conv => whnf)
    | (refine Or.inl (Or.inl (Exists.intro _ (And.intro (c_heldSeries' _ _ _ _ (by omega)) ?_))); conv => whnf)
    | (refine Or.inl (Exists.intro _ (And.intro (c_heldSeries' _ _ _ _ (by omega)) ?_)); conv => whnf)
    | (apply Exists.intro; refine And.intro (c_heldSeries' _ _ _ _ (by omega)) ?_; conv => whnf)
    | (refine Or.inl (Or.inl (Exists.intro _ (And.intro (c_heldWitt _ _ _ _ _ (by omega)) ?_))); conv => whnf)
    | (refine Or.inl (Exists.intro _ (And.intro (c_heldWitt _ _ _ _ _ (by omega)) ?_)); conv => whnf)
    | (apply Exists.intro; refine And.intro (c_heldWitt _ _ _ _ _ (by omega)) ?_; conv => whnf)
    | (refine And.intro (fun h => ?_) (fun h => ?_) <;> (try simp only [cnt1, ints_length] at h) <;> conv => whnf)
    | (refine And.intro (show slotsOk _ = true by decide +kernel) ?_; conv => whnf)
    | (refine And.intro vOb ?_; conv => whnf)
    | (apply Exists.intro; refine And.intro vObt ?_; conv => whnf)
    | (apply Exists.intro; refine And.intro vObx ?_; conv => whnf)
    | (refine And.intro vArT ?_; conv => whnf)
    | (refine Or.inl ?_; conv => whnf)
    | fail
  all_goals (exfalso; omega)
theorem c_FnExactNewDesk : PureCall Try.prog 11 [] (dbool true) := by
  have e1 := c_specNewDesk
  have e3 := c_implNewDesk
  have hT1 := lensOk_Tb (n := 5) (by omega) newF
  have hT2 := totL_Tb (n := 5) newF
  have hT3 : (Tb 5 newF).length = 5 := Tb_length _ _
  generalize Tb 5 newF = T at e1 e3 hT1 hT2 hT3
  refine pure_of_vc Try.tabOk mixOrd Try.func11 rfl rfl ?_
  conv => whnf
  repeat' first
    | (refine And.intro (Or.inl rfl) ?_; conv => whnf)
    | (refine Or.inl (Or.inl (Exists.intro _ (And.intro (e1) ?_))); conv => whnf)
    | (refine Or.inl (Exists.intro _ (And.intro (e1) ?_)); conv => whnf)
    | (apply Exists.intro; refine And.intro (e1) ?_; conv => whnf)
    | (refine Or.inl (Or.inl (Exists.intro _ (And.intro (e3) ?_))); conv => whnf)
    | (refine Or.inl (Exists.intro _ (And.intro (e3) ?_)); conv => whnf)
    | (apply Exists.intro; refine And.intro (e3) ?_; conv => whnf)
    | (refine Or.inl (Or.inl (Exists.intro _ (And.intro (c_eqDesk _ _ _ _ _ _ _ _ _ _ _ _ _ _ _ _ _ _ _ _ _ _ vAr hT1 (by simp) (by simp)) ?_))); conv => whnf)
    | (refine Or.inl (Exists.intro _ (And.intro (c_eqDesk _ _ _ _ _ _ _ _ _ _ _ _ _ _ _ _ _ _ _ _ _ _ vAr hT1 (by simp) (by simp)) ?_)); conv => whnf)
    | (apply Exists.intro; refine And.intro (c_eqDesk _ _ _ _ _ _ _ _ _ _ _ _ _ _ _ _ _ _ _ _ _ _ vAr hT1 (by simp) (by simp)) ?_; conv => whnf)
    | (refine Or.inr (inl_of Try.tabOk mixOrd _ Try.func48 rfl rfl ?_); conv => whnf)
    | (refine Or.inr (inl_of Try.tabOk mixOrd _ Try.func18 rfl rfl ?_); conv => whnf)
    | (refine Or.inr (inl_of Try.tabOk mixOrd _ Try.func31 rfl rfl ?_); conv => whnf)
    | (refine Or.inr (inl_of Try.tabOk mixOrd _ Try.func117 rfl rfl ?_); conv => whnf)
    | (refine Or.inr (inlMarkT rfl vAr vAr ⟨vAr, vAr⟩ ?_); conv => whnf)
    | (refine Or.inr (inlMark rfl vAr ⟨vAr, vAr⟩ ?_); conv => whnf)
    | (refine Or.inl (Or.inl (Exists.intro _ (And.intro (c_heldDesk _ _ _ _ _ _ _ _ _ _ _ _ vAr (by simp; omega)) ?_))); conv => whnf)
    | (refine Or.inl (Exists.intro _ (And.intro (c_heldDesk _ _ _ _ _ _ _ _ _ _ _ _ vAr (by simp; omega)) ?_)); conv => whnf)
    | (apply Exists.intro; refine And.intro (c_heldDesk _ _ _ _ _ _ _ _ _ _ _ _ vAr (by simp; omega)) ?_; conv => whnf)
    | (refine Or.inl (Or.inl (Exists.intro _ (And.intro (sub_rows vArS) ?_))); conv => whnf)
    | (refine Or.inl (Exists.intro _ (And.intro (sub_rows vArS) ?_)); conv => whnf)
    | (apply Exists.intro; refine And.intro (sub_rows vArS) ?_; conv => whnf)
    | (refine And.intro (fun h => ?_) (fun h => ?_) <;> (try simp only [cnt1, ints_length] at h) <;> conv => whnf)
    | (refine And.intro (show slotsOk _ = true by decide +kernel) ?_; conv => whnf)
    | (refine And.intro vOb ?_; conv => whnf)
    | (apply Exists.intro; refine And.intro vObt ?_; conv => whnf)
    | (apply Exists.intro; refine And.intro vObx ?_; conv => whnf)
    | (refine And.intro vArT ?_; conv => whnf)
    | (refine And.intro (vArS) ?_; conv => whnf)
    | (refine Or.inl ?_; conv => whnf)
    | fail
  all_goals (exfalso; first | omega | (simp_all; done) | (simp_all; omega))
end Go.Proofs

