/- Multiples of laws and of curves, sums, opposites and inverses: the rows of both sides. -/
-- tables
-- rec
import Derived.Test.YthpbaehnkmmkgaaGreatK138
import Derived.Test.YthpbaehnkmmkgaaGreatK62
import Derived.Test.YthpbaehnkmmkgaaGreatKS
import Derived.Test.YthpbaehnkmmkgaaGreatK132
namespace Go.Proofs
open Go Go.Vm Go.Fg Go.Fg.PS
set_option maxRecDepth 100000
set_option maxHeartbeats 4000000
set_option linter.unusedSimpArgs false
set_option linter.unusedVariables false
variable {m : Int}
noncomputable def moC (m : Int) (t : List (List Int)) (k : Int) : Int := if lawB m t = true then (if -1000000 ≤ k ∧ k ≤ 1000000 then 0 else 2) else 1
noncomputable def muC (m : Int) (t : List (List Int)) (k : Int) (ma : Int) (l : List Int) : Int := if cuC m t ma l = 0 then (if -1000000 ≤ k ∧ k ≤ 1000000 then 0 else 2) else cuC m t ma l
noncomputable def ilC (m : Int) (t : List (List Int)) : Int := if lawB m t = true then 0 else 1
theorem moC_0 {m : Int} {t : List (List Int)} {k : Int} (h : moC m t k = 0) : lawB m t = true ∧ (-1000000 ≤ k ∧ k ≤ 1000000) := by
  unfold moC at h
  split at h
  · split at h
    · exact ⟨by assumption, by assumption⟩
    · omega
  · omega
theorem c_isMultiple (n : Int) : PureCall Tryz.prog 247 [dint n] (dbool (inB n (-1000000) 1000000)) := by
  refine pure_of_vcR Tryz.tabOk mixOrd Tryz.func247 rfl rfl ?_
  conv => whnf
  repeat' first | ((first | refine z0 ?_ | (apply zI; refine zP (c_impl_in _ _ _) ?_) | (refine And.intro (fun h => ?_) (fun h => ?_) <;> (try simp only [cnt1, ints_length] at h)) | refine zS ?_ | refine zV ?_ | (apply zI; refine zP vObt ?_) | (apply zI; refine zP vObx ?_) | refine zA ?_ | refine Alt.fst ?_ | refine Or.inl ?_) <;> conv => whnf) | fail
  all_goals rw [h]
theorem c_l04OfZ (hm : Md m) (o p : Bool) (n : Nat) (hn : 2 ≤ n ∧ n ≤ 100) (f : PS (PS (Zm m))) (k : Int) (hk : -1000000 ≤ k ∧ k ≤ 1000000) (r : PS (Zm m)) (hr : MulZ f n k PS.X r) : PureCall Tryz.prog 252 [PlD m o p n f, dint k] (LD true n r) := by
  refine pure_of_vcR Tryz.tabOk mixOrd Tryz.func252 rfl rfl ?_
  conv => whnf
  repeat' first | ((first | refine z0 ?_ | (refine And.intro (fun h => ?_) (fun h => ?_) <;> (try simp only [cnt1, ints_length] at h)) | refine zS ?_ | refine zV ?_ | (apply zI; refine zP vObt ?_) | (apply zI; refine zP vObx ?_) | refine zA ?_ | refine Alt.fst ?_ | refine Or.inl ?_) <;> conv => whnf) | fail
  rw [L_X hm n]
  repeat' first | ((first | refine z0 ?_ | (apply zI; refine zP (c_l04MultipleZ hm _ _ _ n hn f _ k hk r hr) ?_) | (refine And.intro (fun h => ?_) (fun h => ?_) <;> (try simp only [cnt1, ints_length] at h)) | refine zS ?_ | refine zV ?_ | (apply zI; refine zP vObt ?_) | (apply zI; refine zP vObx ?_) | refine zA ?_ | refine Alt.fst ?_ | refine Or.inl ?_) <;> conv => whnf) | fail
theorem c_implMultipleOf (o p : Bool) (m : Int) (t : List (List Int)) (hl : t.length ≤ 1048576) (hr : lensOk t) (k : Int) (r : PS (Zm m)) (hR : moC m t k = 0 → MulZ (rd2 m t) t.length k PS.X r) :
    PureCall Tryz.prog 69 [.agg [dint m, .list o 1 (rows p t)], dint k] (serRes m t.length r (moC m t k)) := by
  have h0 := c_IsLaw o p m t hl hr
  cases hc : lawB m t with
  | false =>
    rw [hc] at h0
    have e : moC m t k = 1 := by unfold moC; rw [if_neg (by simp [hc])]
    rw [serRes, if_neg (by omega), e]
    refine pure_of_vcR Tryz.tabOk mixOrd Tryz.func69 rfl rfl ?_
    conv => whnf
    repeat' first | ((first | refine z0 ?_ | (apply zI; refine zP (h0) ?_) | (refine And.intro (fun h => ?_) (fun h => ?_) <;> (try simp only [cnt1, ints_length] at h) <;> first | (exfalso; omega) | skip) | refine zS ?_ | refine zV ?_ | (apply zI; refine zP vObt ?_) | (apply zI; refine zP vObx ?_) | refine zA ?_ | refine Alt.fst ?_ | refine Or.inl ?_) <;> conv => whnf) | fail
    all_goals first | rfl | (exfalso; simp_all)
  | true =>
    rw [hc] at h0
    obtain ⟨⟨hm, hn⟩, eT, _⟩ := lawB_Tb hc
    by_cases hk : -1000000 ≤ k ∧ k ≤ 1000000
    · have e : moC m t k = 0 := by unfold moC; rw [if_pos hc, if_pos hk]
      have hin : inB k (-1000000) 1000000 = true := by simp [inB, hk]
      rw [serRes, if_pos e]
      have key := c_multipleZ hm o p false t.length ⟨hn.1, by omega⟩ (rd2 m t) PS.X k hk r (hR e)
      have hdeg := c_degreeP o p t.length (by omega) (rd2 m t)
      simp only [PlD, eT] at key hdeg
      refine pure_of_vcR Tryz.tabOk mixOrd Tryz.func69 rfl rfl ?_
      conv => whnf
      repeat' first | ((first | refine z0 ?_ | (apply zI; refine zP (h0) ?_) | (apply zI; refine zP (c_isMultiple _) ?_) | (apply zI; refine zP (hdeg) ?_) | (apply zI; refine zP (c_variable t.length vAr vAr hm) ?_) | (apply zI; refine zP (key) ?_) | refine Or.inl (Or.inr (And.intro (mk_l02Make) ?_)) | refine Or.inr (And.intro (mk_l02Make) ?_) | (refine And.intro (fun h => ?_) (fun h => ?_) <;> (try simp only [cnt1, ints_length] at h) <;> first | (exfalso; omega) | skip) | refine zS ?_ | refine zV ?_ | (apply zI; refine zP vObt ?_) | (apply zI; refine zP vObx ?_) | refine zA ?_ | refine Alt.fst ?_ | refine Or.inl ?_) <;> conv => whnf) | fail
      all_goals first | rfl | (exfalso; simp_all; done)
    · have e : moC m t k = 2 := by unfold moC; rw [if_pos hc, if_neg hk]
      have hin : inB k (-1000000) 1000000 = false := by simp [inB]; omega
      rw [serRes, if_neg (by omega), e]
      refine pure_of_vcR Tryz.tabOk mixOrd Tryz.func69 rfl rfl ?_
      conv => whnf
      repeat' first | ((first | refine z0 ?_ | (apply zI; refine zP (h0) ?_) | (apply zI; refine zP (c_isMultiple _) ?_) | (refine And.intro (fun h => ?_) (fun h => ?_) <;> (try simp only [cnt1, ints_length] at h) <;> first | (exfalso; omega) | skip) | refine zS ?_ | refine zV ?_ | (apply zI; refine zP vObt ?_) | (apply zI; refine zP vObx ?_) | refine zA ?_ | refine Alt.fst ?_ | refine Or.inl ?_) <;> conv => whnf) | fail
      all_goals first | rfl | (exfalso; simp_all; done)
theorem c_specMultipleOf (o p : Bool) (m : Int) (t : List (List Int)) (hl : t.length ≤ 1048576) (hr : lensOk t) (k : Int) (r : PS (Zm m)) (hR : moC m t k = 0 → MulZ (rd2 m t) t.length k PS.X r) :
    PureCall Tryz.prog 72 [.agg [dint m, .list o 1 (rows p t)], dint k] (serRes m t.length r (moC m t k)) := by
  have h0 := c_l04Is o p m t hl hr
  cases hc : lawB m t with
  | false =>
    rw [hc] at h0
    have e : moC m t k = 1 := by unfold moC; rw [if_neg (by simp [hc])]
    rw [serRes, if_neg (by omega), e]
    refine pure_of_vcR Tryz.tabOk mixOrd Tryz.func72 rfl rfl ?_
    conv => whnf
    repeat' first | ((first | refine z0 ?_ | (apply zI; refine zP (h0) ?_) | (refine And.intro (fun h => ?_) (fun h => ?_) <;> (try simp only [cnt1, ints_length] at h) <;> first | (exfalso; omega) | skip) | refine zS ?_ | refine zV ?_ | (apply zI; refine zP vObt ?_) | (apply zI; refine zP vObx ?_) | refine zA ?_ | refine Alt.fst ?_ | refine Or.inl ?_) <;> conv => whnf) | fail
    all_goals first | rfl | (exfalso; simp_all)
  | true =>
    rw [hc] at h0
    obtain ⟨⟨hm, hn⟩, eT, _⟩ := lawB_Tb hc
    by_cases hk : -1000000 ≤ k ∧ k ≤ 1000000
    · have e : moC m t k = 0 := by unfold moC; rw [if_pos hc, if_pos hk]
      have hin : inB k (-1000000) 1000000 = true := by simp [inB, hk]
      rw [serRes, if_pos e]
      have key := c_l04OfZ hm o p t.length ⟨hn.1, by omega⟩ (rd2 m t)  k hk r (hR e)
      have hdeg := c_degreeP o p t.length (by omega) (rd2 m t)
      simp only [PlD, eT] at key hdeg
      refine pure_of_vcR Tryz.tabOk mixOrd Tryz.func72 rfl rfl ?_
      conv => whnf
      repeat' first | ((first | refine z0 ?_ | (apply zI; refine zP (h0) ?_) | (apply zI; refine zP (c_l01In _ _ _) ?_) | (apply zI; refine zP (hdeg) ?_) | (apply zI; refine zP (c_variable t.length vAr vAr hm) ?_) | (apply zI; refine zP (key) ?_) | refine Or.inl (Or.inr (And.intro (mk_l02Make) ?_)) | refine Or.inr (And.intro (mk_l02Make) ?_) | (refine And.intro (fun h => ?_) (fun h => ?_) <;> (try simp only [cnt1, ints_length] at h) <;> first | (exfalso; omega) | skip) | refine zS ?_ | refine zV ?_ | (apply zI; refine zP vObt ?_) | (apply zI; refine zP vObx ?_) | refine zA ?_ | refine Alt.fst ?_ | refine Or.inl ?_) <;> conv => whnf) | fail
      all_goals first | rfl | (exfalso; simp_all; done)
    · have e : moC m t k = 2 := by unfold moC; rw [if_pos hc, if_neg hk]
      have hin : inB k (-1000000) 1000000 = false := by simp [inB]; omega
      rw [serRes, if_neg (by omega), e]
      refine pure_of_vcR Tryz.tabOk mixOrd Tryz.func72 rfl rfl ?_
      conv => whnf
      repeat' first | ((first | refine z0 ?_ | (apply zI; refine zP (h0) ?_) | (apply zI; refine zP (c_l01In _ _ _) ?_) | (refine And.intro (fun h => ?_) (fun h => ?_) <;> (try simp only [cnt1, ints_length] at h) <;> first | (exfalso; omega) | skip) | refine zS ?_ | refine zV ?_ | (apply zI; refine zP vObt ?_) | (apply zI; refine zP vObx ?_) | refine zA ?_ | refine Alt.fst ?_ | refine Or.inl ?_) <;> conv => whnf) | fail
      all_goals first | rfl | (exfalso; simp_all; done)
theorem cuC_0 {m : Int} {t : List (List Int)} {ma : Int} {l : List Int} (h : cuC m t ma l = 0) : lawB m t = true ∧ serB ma l = true ∧ m = ma ∧ t.length = l.length ∧ l.getD 0 0 = 0 := by
  unfold cuC at h
  split at h
  · split at h
    · split at h
      · rename_i h1 h2 h3
        simp only [fitB, Bool.and_eq_true, decide_eq_true_eq] at h3
        exact ⟨h1, h2, h3.1, h3.2.1, h3.2.2⟩
      · omega
    · omega
  · omega
theorem cuC_rng (m : Int) (t : List (List Int)) (ma : Int) (l : List Int) : 0 ≤ cuC m t ma l ∧ cuC m t ma l ≤ 2 := by
  unfold cuC
  repeat' split
  all_goals omega
theorem muC_0 {m : Int} {t : List (List Int)} {k ma : Int} {l : List Int} (h : muC m t k ma l = 0) : cuC m t ma l = 0 ∧ (-1000000 ≤ k ∧ k ≤ 1000000) := by
  unfold muC at h
  split at h
  · rename_i h1
    split at h
    · exact ⟨h1, by assumption⟩
    · omega
  · rename_i h1; exact absurd h h1
theorem c_implMultipleUnder (o p o1 : Bool) (m : Int) (t : List (List Int)) (hl : t.length ≤ 1048576) (hr : lensOk t) (k : Int) (ma : Int) (l : List Int) (h1 : l.length ≤ 1048576) (r : PS (Zm m)) (hR : muC m t k ma l = 0 → MulZ (rd2 m t) t.length k (rd m l) r) :
    PureCall Tryz.prog 74 [.agg [dint m, .list o 1 (rows p t)], dint k, .agg [dint ma, .list o1 1 (ints l)]] (serRes m t.length r (muC m t k ma l)) := by
  have h0 := fun o1 o2 => c_curved1 o p o1 o2 m t ma l hl hr h1
  by_cases hc : cuC m t ma l = 0
  · obtain ⟨hA, hB, rfl, hC, hD⟩ := cuC_0 hc
    obtain ⟨⟨hm, hn⟩, eT, _⟩ := lawB_Tb hA
    have eL := (serB_L' hB).symm
    rw [← hC] at eL
    rw [hc] at h0
    by_cases hk : -1000000 ≤ k ∧ k ≤ 1000000
    · have e : muC m t k m l = 0 := by unfold muC; rw [if_pos hc, if_pos hk]
      have hin : inB k (-1000000) 1000000 = true := by simp [inB, hk]
      rw [serRes, if_pos e]
      have key := fun o1 => c_multipleZ hm o p o1 t.length ⟨hn.1, by omega⟩ (rd2 m t) (rd m l) k hk r (hR e)
      simp only [PlD, SerD, LD, eT, eL] at key
      refine pure_of_vcR Tryz.tabOk mixOrd Tryz.func74 rfl rfl ?_
      conv => whnf
      repeat' first | ((first | refine z0 ?_ | (apply zI; refine zP (h0 _ _) ?_) | (apply zI; refine zP (c_isMultiple _) ?_) | (apply zI; refine zP (key _) ?_) | refine Or.inl (Or.inr (And.intro (mk_l02Make) ?_)) | refine Or.inr (And.intro (mk_l02Make) ?_) | (apply zI; refine zP ((show sub [dint m, D.list false 1 (ints l)] 2 0 1 = [dint m, D.list false 1 (ints l)] from rfl)) ?_) | (refine And.intro (fun h => ?_) (fun h => ?_) <;> (try simp only [cnt1, ints_length] at h) <;> first | (exfalso; omega) | skip) | refine zS ?_ | refine zV ?_ | (apply zI; refine zP vObt ?_) | (apply zI; refine zP vObx ?_) | refine zA ?_ | refine And.intro ((show 1 * 2 ≤ 2 by omega)) ?_ | refine Alt.fst ?_ | refine Or.inl ?_) <;> conv => whnf) | fail
      all_goals first | rfl | (exfalso; simp_all; done)
    · have e : muC m t k m l = 2 := by unfold muC; rw [if_pos hc, if_neg hk]
      have hin : inB k (-1000000) 1000000 = false := by simp [inB]; omega
      rw [serRes, if_neg (by omega), e]
      refine pure_of_vcR Tryz.tabOk mixOrd Tryz.func74 rfl rfl ?_
      conv => whnf
      repeat' first | ((first | refine z0 ?_ | (apply zI; refine zP (h0 _ _) ?_) | (apply zI; refine zP (c_isMultiple _) ?_) | (apply zI; refine zP ((show sub [dint m, D.list false 1 (ints l)] 2 0 1 = [dint m, D.list false 1 (ints l)] from rfl)) ?_) | (refine And.intro (fun h => ?_) (fun h => ?_) <;> (try simp only [cnt1, ints_length] at h) <;> first | (exfalso; omega) | skip) | refine zS ?_ | refine zV ?_ | (apply zI; refine zP vObt ?_) | (apply zI; refine zP vObx ?_) | refine zA ?_ | refine And.intro ((show 1 * 2 ≤ 2 by omega)) ?_ | refine Alt.fst ?_ | refine Or.inl ?_) <;> conv => whnf) | fail
      all_goals first | rfl | (exfalso; simp_all; done)
  · have e : muC m t k ma l = cuC m t ma l := by unfold muC; rw [if_neg hc]
    have hrg := cuC_rng m t ma l
    rw [serRes, if_neg (by omega), e]
    refine pure_of_vcR Tryz.tabOk mixOrd Tryz.func74 rfl rfl ?_
    conv => whnf
    repeat' first | ((first | refine z0 ?_ | (apply zI; refine zP (h0 _ _) ?_) | (apply zI; refine zP ((show sub [dint ma, D.list false 1 (ints l)] 2 0 1 = [dint ma, D.list false 1 (ints l)] from rfl)) ?_) | (refine And.intro (fun h => ?_) (fun h => ?_) <;> (try simp only [cnt1, ints_length] at h) <;> first | (exfalso; omega) | skip) | refine zS ?_ | refine zV ?_ | (apply zI; refine zP vObt ?_) | (apply zI; refine zP vObx ?_) | refine zA ?_ | refine And.intro ((show 1 * 2 ≤ 2 by omega)) ?_ | refine Alt.fst ?_ | refine Or.inl ?_) <;> conv => whnf) | fail
    all_goals first | rfl | (exfalso; omega) | (exfalso; simp_all; done)
theorem c_specMultipleUnder (o p o1 : Bool) (m : Int) (t : List (List Int)) (hl : t.length ≤ 1048576) (hr : lensOk t) (k : Int) (ma : Int) (l : List Int) (h1 : l.length ≤ 1048576) (r : PS (Zm m)) (hR : muC m t k ma l = 0 → MulZ (rd2 m t) t.length k (rd m l) r) :
    PureCall Tryz.prog 75 [.agg [dint m, .list o 1 (rows p t)], dint k, .agg [dint ma, .list o1 1 (ints l)]] (serRes m t.length r (muC m t k ma l)) := by
  have h0 := fun o1 o2 => c_l04Code1 o p o1 o2 m t ma l hl hr h1
  by_cases hc : cuC m t ma l = 0
  · obtain ⟨hA, hB, rfl, hC, hD⟩ := cuC_0 hc
    obtain ⟨⟨hm, hn⟩, eT, _⟩ := lawB_Tb hA
    have eL := (serB_L' hB).symm
    rw [← hC] at eL
    rw [hc] at h0
    by_cases hk : -1000000 ≤ k ∧ k ≤ 1000000
    · have e : muC m t k m l = 0 := by unfold muC; rw [if_pos hc, if_pos hk]
      have hin : inB k (-1000000) 1000000 = true := by simp [inB, hk]
      rw [serRes, if_pos e]
      have key := fun o1 => c_l04MultipleZ hm o p o1 t.length ⟨hn.1, by omega⟩ (rd2 m t) (rd m l) k hk r (hR e)
      simp only [PlD, SerD, LD, eT, eL] at key
      refine pure_of_vcR Tryz.tabOk mixOrd Tryz.func75 rfl rfl ?_
      conv => whnf
      repeat' first | ((first | refine z0 ?_ | (apply zI; refine zP (h0 _ _) ?_) | (apply zI; refine zP (c_l01In _ _ _) ?_) | (apply zI; refine zP (key _) ?_) | refine Or.inl (Or.inr (And.intro (mk_l02Make) ?_)) | refine Or.inr (And.intro (mk_l02Make) ?_) | (apply zI; refine zP ((show sub [dint m, D.list false 1 (ints l)] 2 0 1 = [dint m, D.list false 1 (ints l)] from rfl)) ?_) | (refine And.intro (fun h => ?_) (fun h => ?_) <;> (try simp only [cnt1, ints_length] at h) <;> first | (exfalso; omega) | skip) | refine zS ?_ | refine zV ?_ | (apply zI; refine zP vObt ?_) | (apply zI; refine zP vObx ?_) | refine zA ?_ | refine And.intro ((show 1 * 2 ≤ 2 by omega)) ?_ | refine Alt.fst ?_ | refine Or.inl ?_) <;> conv => whnf) | fail
      all_goals first | rfl | (exfalso; simp_all; done)
    · have e : muC m t k m l = 2 := by unfold muC; rw [if_pos hc, if_neg hk]
      have hin : inB k (-1000000) 1000000 = false := by simp [inB]; omega
      rw [serRes, if_neg (by omega), e]
      refine pure_of_vcR Tryz.tabOk mixOrd Tryz.func75 rfl rfl ?_
      conv => whnf
      repeat' first | ((first | refine z0 ?_ | (apply zI; refine zP (h0 _ _) ?_) | (apply zI; refine zP (c_l01In _ _ _) ?_) | (apply zI; refine zP ((show sub [dint m, D.list false 1 (ints l)] 2 0 1 = [dint m, D.list false 1 (ints l)] from rfl)) ?_) | (refine And.intro (fun h => ?_) (fun h => ?_) <;> (try simp only [cnt1, ints_length] at h) <;> first | (exfalso; omega) | skip) | refine zS ?_ | refine zV ?_ | (apply zI; refine zP vObt ?_) | (apply zI; refine zP vObx ?_) | refine zA ?_ | refine And.intro ((show 1 * 2 ≤ 2 by omega)) ?_ | refine Alt.fst ?_ | refine Or.inl ?_) <;> conv => whnf) | fail
      all_goals first | rfl | (exfalso; simp_all; done)
  · have e : muC m t k ma l = cuC m t ma l := by unfold muC; rw [if_neg hc]
    have hrg := cuC_rng m t ma l
    rw [serRes, if_neg (by omega), e]
    refine pure_of_vcR Tryz.tabOk mixOrd Tryz.func75 rfl rfl ?_
    conv => whnf
    repeat' first | ((first | refine z0 ?_ | (apply zI; refine zP (h0 _ _) ?_) | (apply zI; refine zP ((show sub [dint ma, D.list false 1 (ints l)] 2 0 1 = [dint ma, D.list false 1 (ints l)] from rfl)) ?_) | (refine And.intro (fun h => ?_) (fun h => ?_) <;> (try simp only [cnt1, ints_length] at h) <;> first | (exfalso; omega) | skip) | refine zS ?_ | refine zV ?_ | (apply zI; refine zP vObt ?_) | (apply zI; refine zP vObx ?_) | refine zA ?_ | refine And.intro ((show 1 * 2 ≤ 2 by omega)) ?_ | refine Alt.fst ?_ | refine Or.inl ?_) <;> conv => whnf) | fail
    all_goals first | rfl | (exfalso; omega) | (exfalso; simp_all; done)
theorem c_implInverseOfLaw (o p : Bool) (m : Int) (t : List (List Int)) (hl : t.length ≤ 1048576) (hr : lensOk t) :
    PureCall Tryz.prog 76 [.agg [dint m, .list o 1 (rows p t)]] (serRes m t.length (ivS t.length (rd2 m t)) (ilC m t)) := by
  have h0 := c_IsLaw o p m t hl hr
  cases hc : lawB m t with
  | false =>
    rw [hc] at h0
    have e : ilC m t = 1 := by unfold ilC; rw [if_neg (by simp [hc])]
    rw [serRes, if_neg (by omega), e]
    refine pure_of_vcR Tryz.tabOk mixOrd Tryz.func76 rfl rfl ?_
    conv => whnf
    repeat' first | ((first | refine z0 ?_ | (apply zI; refine zP (h0) ?_) | (refine And.intro (fun h => ?_) (fun h => ?_) <;> (try simp only [cnt1, ints_length] at h) <;> first | (exfalso; omega) | skip) | refine zS ?_ | refine zV ?_ | (apply zI; refine zP vObt ?_) | (apply zI; refine zP vObx ?_) | refine zA ?_ | refine Alt.fst ?_ | refine Or.inl ?_) <;> conv => whnf) | fail
    all_goals first | rfl | (exfalso; simp_all)
  | true =>
    rw [hc] at h0
    obtain ⟨⟨hm, hn⟩, eT, _⟩ := lawB_Tb hc
    have e : ilC m t = 0 := by unfold ilC; rw [if_pos hc]
    rw [serRes, if_pos e]
    have key := c_inverseP hm o p t.length ⟨hn.1, by omega⟩ (rd2 m t)
    simp only [PlD, eT] at key
    refine pure_of_vcR Tryz.tabOk mixOrd Tryz.func76 rfl rfl ?_
    conv => whnf
    repeat' first | ((first | refine z0 ?_ | (apply zI; refine zP (h0) ?_) | (apply zI; refine zP (key) ?_) | refine Or.inl (Or.inr (And.intro (mk_l02Make) ?_)) | refine Or.inr (And.intro (mk_l02Make) ?_) | (refine And.intro (fun h => ?_) (fun h => ?_) <;> (try simp only [cnt1, ints_length] at h) <;> first | (exfalso; omega) | skip) | refine zS ?_ | refine zV ?_ | (apply zI; refine zP vObt ?_) | (apply zI; refine zP vObx ?_) | refine zA ?_ | refine Alt.fst ?_ | refine Or.inl ?_) <;> conv => whnf) | fail
    all_goals first | rfl | (exfalso; simp_all; done)
theorem c_specInverseOfLaw (o p : Bool) (m : Int) (t : List (List Int)) (hl : t.length ≤ 1048576) (hr : lensOk t) :
    PureCall Tryz.prog 77 [.agg [dint m, .list o 1 (rows p t)]] (serRes m t.length (ivS t.length (rd2 m t)) (ilC m t)) := by
  have h0 := c_l04Is o p m t hl hr
  cases hc : lawB m t with
  | false =>
    rw [hc] at h0
    have e : ilC m t = 1 := by unfold ilC; rw [if_neg (by simp [hc])]
    rw [serRes, if_neg (by omega), e]
    refine pure_of_vcR Tryz.tabOk mixOrd Tryz.func77 rfl rfl ?_
    conv => whnf
    repeat' first | ((first | refine z0 ?_ | (apply zI; refine zP (h0) ?_) | (refine And.intro (fun h => ?_) (fun h => ?_) <;> (try simp only [cnt1, ints_length] at h) <;> first | (exfalso; omega) | skip) | refine zS ?_ | refine zV ?_ | (apply zI; refine zP vObt ?_) | (apply zI; refine zP vObx ?_) | refine zA ?_ | refine Alt.fst ?_ | refine Or.inl ?_) <;> conv => whnf) | fail
    all_goals first | rfl | (exfalso; simp_all)
  | true =>
    rw [hc] at h0
    obtain ⟨⟨hm, hn⟩, eT, _⟩ := lawB_Tb hc
    have e : ilC m t = 0 := by unfold ilC; rw [if_pos hc]
    rw [serRes, if_pos e]
    have key := c_l04Inverse hm o p t.length ⟨hn.1, by omega⟩ (rd2 m t)
    simp only [PlD, eT] at key
    refine pure_of_vcR Tryz.tabOk mixOrd Tryz.func77 rfl rfl ?_
    conv => whnf
    repeat' first | ((first | refine z0 ?_ | (apply zI; refine zP (h0) ?_) | (apply zI; refine zP (key) ?_) | refine Or.inl (Or.inr (And.intro (mk_l02Make) ?_)) | refine Or.inr (And.intro (mk_l02Make) ?_) | (refine And.intro (fun h => ?_) (fun h => ?_) <;> (try simp only [cnt1, ints_length] at h) <;> first | (exfalso; omega) | skip) | refine zS ?_ | refine zV ?_ | (apply zI; refine zP vObt ?_) | (apply zI; refine zP vObx ?_) | refine zA ?_ | refine Alt.fst ?_ | refine Or.inl ?_) <;> conv => whnf) | fail
    all_goals first | rfl | (exfalso; simp_all; done)
end Go.Proofs

