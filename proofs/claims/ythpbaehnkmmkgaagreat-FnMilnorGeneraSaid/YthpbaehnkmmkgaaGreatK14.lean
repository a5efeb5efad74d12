/- Values on Milnor's hypersurfaces. -/
-- tables
import Derived.Test.YthpbaehnkmmkgaaGreatK13
import Derived.Test.YthpbaehnkmmkgaaGreatK11
namespace Go.Proofs
open Go Go.Vm Go.Fg Go.Fg.PS
set_option maxRecDepth 100000
set_option maxHeartbeats 4000000
set_option linter.unusedSimpArgs false
set_option linter.unusedVariables false
variable {m : Int}
def milB (most i j : Int) : Bool := inB i 0 most && inB j 0 most && inB (i + j) 1 most
def milV (a : PS (Zm m)) (i j : Nat) : Zm m := milS (pw a (i + 1)) (pw a (j + 1)) (inv (invN m (a.c 0).val) a) i j
def milF (a : PS (Zm m)) (n i j : Nat) : PS (PS (Zm m)) := axX (pw a (i + 1)) * axY (pw a (j + 1)) * comp2N (inv (invN m (a.c 0).val) a) (xy m) 0 n
theorem milV_eq (a : PS (Zm m)) {n i j : Nat} (h : i + j ≤ n) : milV a i j = (if i = 0 then 0 else ((milF a n i j).c (i - 1)).c j) + (if j = 0 then 0 else ((milF a n i j).c i).c (j - 1)) := by
  unfold milV
  rw [← milS_eq _ _ _ h, xy_mul]; rfl
theorem c_implMilnorGenus1 (i j most : Int) (hsum : inB i 0 most = true → inB j 0 most = true → inR .i64 (i + j)) : PureCall Tryz.prog 205 [.cptr [dint i] 0, .cptr [dint most] 0, .cptr [dint j] 0] (dbool (milB most i j)) := by
  refine pure_of_vc Tryz.tabOk mixOrd Tryz.func205 rfl rfl ?_
  conv => whnf
  repeat' first | ((first | refine z0 ?_ | (apply zI; refine zP (c_impl_in _ _ _) ?_) | (refine And.intro (fun h => ?_) (fun h => ?_) <;> (try simp only [cnt1, ints_length] at h)) | refine zS ?_ | refine zV ?_ | (apply zI; refine zP vObt ?_) | (apply zI; refine zP vObx ?_) | refine zA ?_ | refine Alt.fst ?_ | refine Or.inl ?_) <;> conv => whnf) | fail
  · have := hsum (by assumption) (by assumption)
    repeat' first | ((first | refine z0 ?_ | (apply zI; refine zP (c_impl_in _ _ _) ?_) | (refine And.intro (fun h => ?_) (fun h => ?_) <;> (try simp only [cnt1, ints_length] at h)) | refine zS ?_ | refine zV ?_ | (apply zI; refine zP vObt ?_) | (apply zI; refine zP vObx ?_) | refine zA ?_ | refine Alt.fst ?_ | refine Or.inl ?_) <;> conv => whnf) | fail
    all_goals (refine dbool_congr ?_; first | rfl | (simp_all [milB]; done) | (simp_all [milB]; omega) | (simp_all [milB]; intros; omega))
  · all_goals (refine dbool_congr ?_; first | rfl | (simp_all [milB]; done) | (simp_all [milB]; omega) | (simp_all [milB]; intros; omega))
  · all_goals (refine dbool_congr ?_; first | rfl | (simp_all [milB]; done) | (simp_all [milB]; omega) | (simp_all [milB]; intros; omega))
theorem c_implMilnorGenus (o : Bool) (m : Int) (l : List Int) (hl : l.length ≤ 1048576) (i j : Int) : PureCall Tryz.prog 36 [.agg [dint m, .list o 1 (ints l)], dint i, dint j]
    (.tup [dint (if dimCode m l (milB ((l.length : Int) - 1 + 1) i j) = 0 then (milV (rd m l) i.toNat j.toNat).val else 0), dint (dimCode m l (milB ((l.length : Int) - 1 + 1) i j))]) := by
  refine pure_of_vc Tryz.tabOk mixOrd Tryz.func36 rfl rfl ?_
  conv => whnf
  repeat' first | ((first | refine z0 ?_ | (apply zI; refine zP (c_degree _ _ _ hl) ?_) | (apply zI; refine zP (c_generic3 _ _ _ _ _ (c_implMilnorGenus1 i j _ (fun h1 h2 => by simp only [inB, decide_eq_true_eq] at h1 h2; exact inR64 (by omega) (by omega))) _ _ _ hl) ?_) | (refine And.intro (fun h => ?_) (fun h => ?_) <;> (try simp only [cnt1, ints_length] at h)) | refine zS ?_ | refine zV ?_ | (apply zI; refine zP vObt ?_) | (apply zI; refine zP vObx ?_) | refine zA ?_ | refine Alt.fst ?_ | refine Or.inl ?_) <;> conv => whnf) | fail
  · rw [if_neg h]
  · have h0 := Classical.not_not.1 h
    obtain ⟨hc, hb⟩ := dimCode_0 h0
    have hs := charB_ser hc
    have hlen := serB_len hs
    have hm := serB_md hs
    have hm1 := hm.1
    have hm2 := hm.2
    simp only [milB, inB, Bool.and_eq_true, decide_eq_true_eq] at hb
    obtain ⟨i, rfl⟩ := Int.eq_ofNat_of_zero_le hb.1.1.1
    obtain ⟨j, rfl⟩ := Int.eq_ofNat_of_zero_le hb.1.2.1
    simp only [Int.toNat_natCast]
    have k1 := c_power' hm o l.length (by omega) (rd m l) (i + 1) (by omega) (K := (i : Int) + 1) (by omega)
    have k2 := c_power' hm o l.length (by omega) (rd m l) (j + 1) (by omega) (K := (j : Int) + 1) (by omega)
    have k3 := c_inverseU hm o l.length (by omega) (rd m l)
    rw [serD_of hs] at k1 k2 k3
    have v1 := Zm.val_range hm.pos (((milF (rd m l) l.length i j).c (i - 1)).c j)
    have v2 := Zm.val_range hm.pos (((milF (rd m l) l.length i j).c i).c (j - 1))
    unfold milF xy at v1 v2
    repeat' first | ((first | refine z0 ?_ | (apply zI; refine zP (c_degree _ _ _ hl) ?_) | (apply zI; refine zP (c_variables hm l.length vAr vAr) ?_) | (apply zI; refine zP (k1) ?_) | (apply zI; refine zP (k2) ?_) | (apply zI; refine zP (k3) ?_) | (apply zI; refine zP (c_onAxis0 hm _ l.length vAr _) ?_) | (apply zI; refine zP (c_onAxis1 hm _ l.length vAr _) ?_) | (apply zI; refine zP (c_plusP hm _ _ _ _ l.length vAr _ _) ?_) | (apply zI; refine zP (c_of hm _ _ _ l.length vAr _ _) ?_) | (apply zI; refine zP (c_timesP hm _ _ _ _ l.length vAr _ _) ?_) | (refine And.intro (fun h => ?_) (fun h => ?_) <;> (try simp only [cnt1, ints_length] at h)) | refine zS ?_ | refine zV ?_ | (apply zI; refine zP vObt ?_) | (apply zI; refine zP vObx ?_) | refine zA ?_ | refine Alt.fst ?_ | refine Or.inl ?_) <;> conv => whnf) | fail
    all_goals
      rw [h0, if_pos rfl, milV_eq (rd m l) (n := l.length) (i := i) (j := j) (by omega)]
      refine congrArg (fun x => D.tup [dint x, dint 0]) ?_
    · rw [if_neg (by omega), if_neg (by omega), Int.zero_add]; exact tm_add hm _ _
    · rw [if_neg (by omega), if_pos (by omega), Int.zero_add, Go.Fg.add_zero]; exact Zm.tmod_val v1.1 (Zm.mk_val _)
    · rw [if_pos (by omega), if_neg (by omega), Int.zero_add, CR.zero_add]; exact Zm.tmod_val v2.1 (Zm.mk_val _)
    · exfalso; omega
end Go.Proofs

