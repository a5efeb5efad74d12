/- The first difference of two laws, for all planes: both sides. -/
-- tables
-- rec
import Derived.Test.YtocnfkphpmolkaaGreatK130
import Derived.Test.YtocnfkphpmolkaaGreatK79
namespace Go.Proofs
open Go Go.Vm Go.Fg Go.Fg.PS
set_option maxRecDepth 100000
set_option maxHeartbeats 4000000
set_option linter.unusedSimpArgs false
set_option linter.unusedVariables false
variable {m : Int}
open Classical in
noncomputable def twC (m : Int) (t : List (List Int)) (m' : Int) (t' : List (List Int)) : Int := if lawB m t = true ∧ lawB m' t' = true then (if m = m' ∧ t.length = t'.length then 0 else 2) else 1
theorem twC_0 {m : Int} {t : List (List Int)} {m' : Int} {t' : List (List Int)} (h : twC m t m' t' = 0) : lawB m t = true ∧ lawB m' t' = true ∧ m = m' ∧ t.length = t'.length := by
  unfold twC at h
  split at h
  · rename_i h1
    split at h
    · rename_i h2; exact ⟨h1.1, h1.2, h2.1, h2.2⟩
    · omega
  · omega
theorem lawB_two {m : Int} {t : List (List Int)} (h : lawB m t = true) : plB m t = true ∧ LawP (rd2 m t) t.length := by
  unfold lawB at h
  simp only [Bool.and_eq_true, trL, decide_eq_true_eq] at h
  exact h
theorem lawB_Tb {m : Int} {t : List (List Int)} (h : lawB m t = true) : (Md m ∧ (2 ≤ t.length ∧ t.length ≤ 11)) ∧ Tb t.length (rd2 m t) = t ∧ LawP (rd2 m t) t.length := by
  unfold lawB at h
  simp only [Bool.and_eq_true, trL, decide_eq_true_eq] at h
  obtain ⟨hm, h3, h4, _⟩ := plB_md h.1
  exact ⟨⟨hm, h3, h4⟩, plB_T h.1, h.2⟩
theorem tm_subm (hm : Md m) (a b : Zm m) : (a.val - b.val + m).tmod m = (a + -b).val := by
  have h1 := Zm.val_range hm.pos a
  have h2 := Zm.val_range hm.pos b
  exact Zm.tmod_val (by omega) (by rw [Zm.mk_add, Zm.mk_sub, Zm.mk_val, Zm.mk_val, Zm.mk_self, Go.Fg.add_zero, Go.Fg.sub_def])
open Classical in
noncomputable def fd0 (f g : PS (PS (Zm m))) (N : Nat) : D := if agr f g N = N then .tup [.lit (.slice none 0 0), dint 4] else .tup [.list true 1 (ints (fdL f g (agr f g N) (agr f g N + 1))), dint 0]
open Classical in
noncomputable def fdRes (m : Int) (t : List (List Int)) (m' : Int) (t' : List (List Int)) : D := if twC m t m' t' = 0 then fd0 (rd2 m t) (rd2 m t') t.length else .tup [.lit (.slice none 0 0), dint (twC m t m' t')]
open Classical in
noncomputable def agRes (m : Int) (t : List (List Int)) (m' : Int) (t' : List (List Int)) : D := if twC m t m' t' = 0 then .tup [dint ((agr (rd2 m t) (rd2 m t') t.length : Int) - 1), dint 0] else .tup [dint 0, dint (twC m t m' t')]
theorem fdL_sz (f g : PS (PS (Zm m))) (k i : Nat) : i * 1 = (ints (fdL f g k i)).length := by simp
theorem c_degreeA (o p : Bool) (m : Int) (t : List (List Int)) (hl : t.length ≤ 1048576) : PureCall Tryz.prog 108 [.agg [dint m, .list o 1 (rows p t)]] (dint ((t.length : Int) - 1)) := by
  refine pure_of_vcR Tryz.tabOk mixOrd Tryz.func108 rfl rfl ?_
  conv => whnf
  repeat' first | ((first | refine And.intro (Or.inl rfl) ?_ | (refine And.intro (fun h => ?_) (fun h => ?_) <;> (try simp only [cnt1, ints_length] at h)) | refine And.intro (show slotsOk _ = true by decide +kernel) ?_ | refine And.intro vOb ?_ | (apply Exists.intro; refine And.intro vObt ?_) | (apply Exists.intro; refine And.intro vObx ?_) | refine And.intro vArT ?_ | refine Alt.fst ?_ | refine Or.inl ?_) <;> conv => whnf) | fail
  simp [cnt1]
theorem c_alikeA (o p o' p' : Bool) (m : Int) (t : List (List Int)) (m' : Int) (t' : List (List Int)) (hl : t.length ≤ 1048576) (hl' : t'.length ≤ 1048576) : PureCall Tryz.prog 197 [.agg [dint m, .list o 1 (rows p t)], .agg [dint m', .list o' 1 (rows p' t')]] (dbool (decide (m = m') && decide (t.length = t'.length))) := by
  refine pure_of_vcR Tryz.tabOk mixOrd Tryz.func197 rfl rfl ?_
  conv => whnf
  repeat' first | ((first | refine And.intro (Or.inl rfl) ?_ | (apply Exists.intro; refine And.intro (c_degreeA _ _ _ t hl) ?_) | (apply Exists.intro; refine And.intro (c_degreeA _ _ _ t' hl') ?_) | (refine And.intro (fun h => ?_) (fun h => ?_) <;> (try simp only [cnt1, ints_length] at h)) | refine And.intro (show slotsOk _ = true by decide +kernel) ?_ | refine And.intro vOb ?_ | (apply Exists.intro; refine And.intro vObt ?_) | (apply Exists.intro; refine And.intro vObx ?_) | refine And.intro vArT ?_ | refine Alt.fst ?_ | refine Or.inl ?_) <;> conv => whnf) | fail
  all_goals (refine dbool_congr ?_; first | rfl | (simp_all []; done) | (simp_all []; omega) | (simp_all []; intros; omega))
theorem c_bothLaws (o p o' p' : Bool) (m : Int) (t : List (List Int)) (hl : t.length ≤ 1048576) (hr : lensOk t) (m' : Int) (t' : List (List Int)) (hl' : t'.length ≤ 1048576) (hr' : lensOk t') : PureCall Tryz.prog 112 [.agg [dint m, .list o 1 (rows p t)], .agg [dint m', .list o' 1 (rows p' t')]] (dint (twC m t m' t')) := by
  refine pure_of_vcR Tryz.tabOk mixOrd Tryz.func112 rfl rfl ?_
  conv => whnf
  repeat' first | ((first | refine And.intro (Or.inl rfl) ?_ | (apply Exists.intro; refine And.intro (c_IsLaw _ _ _ _ hl hr) ?_) | (apply Exists.intro; refine And.intro (c_IsLaw _ _ _ _ hl' hr') ?_) | (apply Exists.intro; refine And.intro (c_alikeA _ _ _ _ _ t _ t' hl hl') ?_) | (refine And.intro (fun h => ?_) (fun h => ?_) <;> (try simp only [cnt1, ints_length] at h)) | refine And.intro (show slotsOk _ = true by decide +kernel) ?_ | refine And.intro vOb ?_ | (apply Exists.intro; refine And.intro vObt ?_) | (apply Exists.intro; refine And.intro vObx ?_) | refine And.intro vArT ?_ | refine Alt.fst ?_ | refine Or.inl ?_) <;> conv => whnf) | fail
  all_goals (refine congrArg dint ?_; first | (simp_all [twC]; done) | (simp_all [twC]; omega))
theorem c_l04Two (o p o' p' : Bool) (m : Int) (t : List (List Int)) (hl : t.length ≤ 1048576) (hr : lensOk t) (m' : Int) (t' : List (List Int)) (hl' : t'.length ≤ 1048576) (hr' : lensOk t') : PureCall Tryz.prog 114 [.agg [dint m, .list o 1 (rows p t)], .agg [dint m', .list o' 1 (rows p' t')]] (dint (twC m t m' t')) := by
  refine pure_of_vcR Tryz.tabOk mixOrd Tryz.func114 rfl rfl ?_
  conv => whnf
  repeat' first | ((first | refine And.intro (Or.inl rfl) ?_ | (apply Exists.intro; refine And.intro (c_l04Is _ _ _ _ hl hr) ?_) | (apply Exists.intro; refine And.intro (c_l04Is _ _ _ _ hl' hr') ?_) | (refine And.intro (fun h => ?_) (fun h => ?_) <;> (try simp only [cnt1, ints_length] at h)) | refine And.intro (show slotsOk _ = true by decide +kernel) ?_ | refine And.intro vOb ?_ | (apply Exists.intro; refine And.intro vObt ?_) | (apply Exists.intro; refine And.intro vObx ?_) | refine And.intro vArT ?_ | refine Alt.fst ?_ | refine Or.inl ?_) <;> conv => whnf) | fail
  all_goals (refine congrArg dint ?_; first | (simp_all [twC]; done) | (simp_all [twC]; omega))
theorem c_implFD0 (hm : Md m) (o p o' p' : Bool) (N : Nat) (hN : 2 ≤ N ∧ N ≤ 11) (f g : PS (PS (Zm m))) (h00 : eqK f g 0) (h0 : PureCall Tryz.prog 112 [PlD m o p N f, PlD m o' p' N g] (dint 0)) : PureCall Tryz.prog 33 [PlD m o p N f, PlD m o' p' N g] (fd0 f g N) := by
  have hm1 := hm.1
  have hm2 := hm.2
  have hle := agr_le f g N
  by_cases ha : agr f g N = N
  · rw [fd0, if_pos ha]
    refine pure_of_vcR Tryz.tabOk mixOrd Tryz.func33 rfl rfl ?_
    conv => whnf
    repeat' first | ((first | refine And.intro (Or.inl rfl) ?_ | (apply Exists.intro; refine And.intro (h0) ?_) | (apply Exists.intro; refine And.intro (c_agreement o p o' p' N hN f g) ?_) | (apply Exists.intro; refine And.intro (c_degreeP _ _ _ vAr _) ?_) | (refine And.intro (fun h => ?_) (fun h => ?_) <;> (try simp only [cnt1, ints_length, rows_length, Tb_length, lM_length, tM_length] at h) <;> first | (exfalso; omega) | skip) | refine And.intro (show slotsOk _ = true by decide +kernel) ?_ | refine And.intro vOb ?_ | (apply Exists.intro; refine And.intro vObt ?_) | (apply Exists.intro; refine And.intro vObx ?_) | refine And.intro vArT ?_ | refine Alt.fst ?_ | refine Or.inl ?_) <;> conv => whnf) | fail
  · rw [fd0, if_neg ha]
    generalize hk : agr f g N = k at *
    refine pure_of_vcR Tryz.tabOk mixOrd Tryz.func33 rfl rfl ?_
    conv => whnf
    repeat' first | ((first | refine And.intro (Or.inl rfl) ?_ | (apply Exists.intro; refine And.intro (h0) ?_) | (apply Exists.intro; refine And.intro (c_agreement o p o' p' N hN f g) ?_) | (apply Exists.intro; refine And.intro (c_degreeP _ _ _ vAr _) ?_) | (refine And.intro (fun h => ?_) (fun h => ?_) <;> (try simp only [cnt1, ints_length, rows_length, Tb_length, lM_length, tM_length] at h) <;> first | (exfalso; omega) | skip) | refine And.intro (show slotsOk _ = true by decide +kernel) ?_ | refine And.intro vOb ?_ | (apply Exists.intro; refine And.intro vObt ?_) | (apply Exists.intro; refine And.intro vObx ?_) | refine And.intro vArT ?_ | refine Alt.fst ?_ | refine Or.inl ?_) <;> conv => whnf) | fail
    refine loop_atR Tryz.tabOk mixOrd (α := Nat) (fun i => [(9, dint i), (8, .ref 5 [] 1 0 i), (24, .undef)]) (fun i => [(5, some ⟨false, 1, ints (fdL f g k i)⟩)]) (fun i => i ≤ k + 1) (fun i => k + 1 - i) (0) ?_ ?_ ?_
    · omega
    · conv => whnf
      first | refine WeakS.autoR ?_ | refine Weak.autoR ?_
      conv => whnf
      repeat' ((first | refine And.intro rfl ?_ | refine And.intro (eqV_int vAr) ?_ | refine And.intro vOb ?_ | refine And.intro vRepl ?_ | refine And.intro vReplL ?_ | refine And.intro ?_ ?_ | exact trivial) <;> try (conv => whnf))
    intro i hi
    conv => whnf
    by_cases hik : i ≤ k
    · have e : ((agr f g N : Int) - 1 + 1 - (i : Int)).toNat = k - i := by omega
      have hx1 := Zm.val_range hm.pos ((f.c i).c ((agr f g N : Int) - 1 + 1 - (i : Int)).toNat)
      have hx2 := Zm.val_range hm.pos ((g.c i).c ((agr f g N : Int) - 1 + 1 - (i : Int)).toNat)
      repeat' first | ((first | refine And.intro (Or.inl rfl) ?_ | (apply Exists.intro; refine And.intro (c_mod _ _ hm.pos (by omega)) ?_) | (refine And.intro (fun h => ?_) (fun h => ?_) <;> (try simp only [cnt1, ints_length] at h) <;> first | (exfalso; omega) | skip) | refine And.intro (show slotsOk _ = true by decide +kernel) ?_ | refine And.intro vOb ?_ | (apply Exists.intro; refine And.intro vObt ?_) | (apply Exists.intro; refine And.intro vObx ?_) | refine And.intro vArT ?_ | refine And.intro (fdL_sz f g k i) ?_ | refine Alt.fst ?_ | refine Or.inl ?_) <;> conv => whnf) | fail
      refine Exists.intro (i + 1) (And.intro (by omega) (And.intro (by omega) ?_))
      first | refine WeakS.autoR ?_ | refine Weak.autoR ?_
      conv => whnf
      repeat' ((first | refine And.intro rfl ?_ | refine And.intro (eqV_int vAr) ?_ | refine And.intro vOb ?_ | refine And.intro vRepl ?_ | refine And.intro vReplL ?_ | refine And.intro ?_ ?_ | exact trivial) <;> try (conv => whnf))
      all_goals (rw [e, ← fdL_push]; exact congrArg (fun x => ints (fdL f g k i ++ [x])) (em_sub _ _))
    · repeat' first | ((first | refine And.intro (Or.inl rfl) ?_ | (refine And.intro (fun h => ?_) (fun h => ?_) <;> (try simp only [cnt1, ints_length] at h) <;> first | (exfalso; omega) | skip) | refine And.intro (show slotsOk _ = true by decide +kernel) ?_ | refine And.intro vOb ?_ | (apply Exists.intro; refine And.intro vObt ?_) | (apply Exists.intro; refine And.intro vObx ?_) | refine And.intro vArT ?_ | refine And.intro (fdL_sz f g k i) ?_ | refine Alt.fst ?_ | refine Or.inl ?_) <;> conv => whnf) | fail
      rw [show i = k + 1 by omega]
theorem c_specFD0 (hm : Md m) (o p o' p' : Bool) (N : Nat) (hN : 2 ≤ N ∧ N ≤ 11) (f g : PS (PS (Zm m))) (h00 : eqK f g 0) (h0 : PureCall Tryz.prog 114 [PlD m o p N f, PlD m o' p' N g] (dint 0)) : PureCall Tryz.prog 34 [PlD m o p N f, PlD m o' p' N g] (fd0 f g N) := by
  have hm1 := hm.1
  have hm2 := hm.2
  have hle := agr_le f g N
  by_cases ha : agr f g N = N
  · rw [fd0, if_pos ha]
    refine pure_of_vcR Tryz.tabOk mixOrd Tryz.func34 rfl rfl ?_
    conv => whnf
    repeat' first | ((first | refine And.intro (Or.inl rfl) ?_ | (apply Exists.intro; refine And.intro (h0) ?_) | (apply Exists.intro; refine And.intro (c_l04Agreement o p o' p' N hN f g h00) ?_) | (apply Exists.intro; refine And.intro (c_degreeP _ _ _ vAr _) ?_) | (refine And.intro (fun h => ?_) (fun h => ?_) <;> (try simp only [cnt1, ints_length, rows_length, Tb_length, lM_length, tM_length] at h) <;> first | (exfalso; omega) | skip) | refine And.intro (show slotsOk _ = true by decide +kernel) ?_ | refine And.intro vOb ?_ | (apply Exists.intro; refine And.intro vObt ?_) | (apply Exists.intro; refine And.intro vObx ?_) | refine And.intro vArT ?_ | refine Alt.fst ?_ | refine Or.inl ?_) <;> conv => whnf) | fail
  · rw [fd0, if_neg ha]
    generalize hk : agr f g N = k at *
    refine pure_of_vcR Tryz.tabOk mixOrd Tryz.func34 rfl rfl ?_
    conv => whnf
    repeat' first | ((first | refine And.intro (Or.inl rfl) ?_ | (apply Exists.intro; refine And.intro (h0) ?_) | (apply Exists.intro; refine And.intro (c_l04Agreement o p o' p' N hN f g h00) ?_) | (apply Exists.intro; refine And.intro (c_degreeP _ _ _ vAr _) ?_) | (refine And.intro (fun h => ?_) (fun h => ?_) <;> (try simp only [cnt1, ints_length, rows_length, Tb_length, lM_length, tM_length] at h) <;> first | (exfalso; omega) | skip) | refine And.intro (show slotsOk _ = true by decide +kernel) ?_ | refine And.intro vOb ?_ | (apply Exists.intro; refine And.intro vObt ?_) | (apply Exists.intro; refine And.intro vObx ?_) | refine And.intro vArT ?_ | refine Alt.fst ?_ | refine Or.inl ?_) <;> conv => whnf) | fail
    refine loop_atR Tryz.tabOk mixOrd (α := Nat) (fun i => [(9, dint i), (8, .ref 4 [] 1 0 i), (20, .undef)]) (fun i => [(4, some ⟨false, 1, ints (fdL f g k i)⟩)]) (fun i => i ≤ k + 1) (fun i => k + 1 - i) (0) ?_ ?_ ?_
    · omega
    · conv => whnf
      first | refine WeakS.autoR ?_ | refine Weak.autoR ?_
      conv => whnf
      repeat' ((first | refine And.intro rfl ?_ | refine And.intro (eqV_int vAr) ?_ | refine And.intro vOb ?_ | refine And.intro vRepl ?_ | refine And.intro vReplL ?_ | refine And.intro ?_ ?_ | exact trivial) <;> try (conv => whnf))
    intro i hi
    conv => whnf
    by_cases hik : i ≤ k
    · have e : ((agr f g N : Int) - 1 + 1 - (i : Int)).toNat = k - i := by omega
      have hx1 := Zm.val_range hm.pos ((f.c i).c ((agr f g N : Int) - 1 + 1 - (i : Int)).toNat)
      have hx2 := Zm.val_range hm.pos ((g.c i).c ((agr f g N : Int) - 1 + 1 - (i : Int)).toNat)
      repeat' first | ((first | refine And.intro (Or.inl rfl) ?_ | (apply Exists.intro; refine And.intro (c_mod _ _ hm.pos (by omega)) ?_) | (refine And.intro (fun h => ?_) (fun h => ?_) <;> (try simp only [cnt1, ints_length] at h) <;> first | (exfalso; omega) | skip) | refine And.intro (show slotsOk _ = true by decide +kernel) ?_ | refine And.intro vOb ?_ | (apply Exists.intro; refine And.intro vObt ?_) | (apply Exists.intro; refine And.intro vObx ?_) | refine And.intro vArT ?_ | refine And.intro (fdL_sz f g k i) ?_ | refine Alt.fst ?_ | refine Or.inl ?_) <;> conv => whnf) | fail
      refine Exists.intro (i + 1) (And.intro (by omega) (And.intro (by omega) ?_))
      first | refine WeakS.autoR ?_ | refine Weak.autoR ?_
      conv => whnf
      repeat' ((first | refine And.intro rfl ?_ | refine And.intro (eqV_int vAr) ?_ | refine And.intro vOb ?_ | refine And.intro vRepl ?_ | refine And.intro vReplL ?_ | refine And.intro ?_ ?_ | exact trivial) <;> try (conv => whnf))
      all_goals (rw [e, ← fdL_push]; exact congrArg (fun x => ints (fdL f g k i ++ [x])) (tm_subm hm _ _))
    · repeat' first | ((first | refine And.intro (Or.inl rfl) ?_ | (refine And.intro (fun h => ?_) (fun h => ?_) <;> (try simp only [cnt1, ints_length] at h) <;> first | (exfalso; omega) | skip) | refine And.intro (show slotsOk _ = true by decide +kernel) ?_ | refine And.intro vOb ?_ | (apply Exists.intro; refine And.intro vObt ?_) | (apply Exists.intro; refine And.intro vObx ?_) | refine And.intro vArT ?_ | refine And.intro (fdL_sz f g k i) ?_ | refine Alt.fst ?_ | refine Or.inl ?_) <;> conv => whnf) | fail
      rw [show i = k + 1 by omega]
theorem law_00 {f g : PS (PS (Zm m))} {N : Nat} (hN : 2 ≤ N) (hf : LawP f N) (hg : LawP g N) : eqK f g 0 := fun i hi => by
  have : i = 0 := by omega
  subst this
  rw [hf.1 0 (by omega), hg.1 0 (by omega)]
theorem c_implFirstDifference (o p o' p' : Bool) (m : Int) (t : List (List Int)) (hl : t.length ≤ 1048576) (hr : lensOk t) (m' : Int) (t' : List (List Int)) (hl' : t'.length ≤ 1048576) (hr' : lensOk t') :
    PureCall Tryz.prog 33 [.agg [dint m, .list o 1 (rows p t)], .agg [dint m', .list o' 1 (rows p' t')]] (fdRes m t m' t') := by
  have key := c_bothLaws o p o' p' m t hl hr m' t' hl' hr'
  by_cases h : twC m t m' t' = 0
  · rw [fdRes, if_pos h]
    rw [h] at key
    obtain ⟨h1, h2, rfl, hlen⟩ := twC_0 h
    obtain ⟨hp, hL⟩ := lawB_two h1
    obtain ⟨hp', hL'⟩ := lawB_two h2
    obtain ⟨hm, h3, h4, _⟩ := plB_md hp
    have e1 := plB_T hp
    have e2 := plB_T hp'
    rw [← hlen] at hL' e2
    have := c_implFD0 hm o p o' p' t.length ⟨h3, h4⟩ (rd2 m t) (rd2 m t') (law_00 h3 hL hL') (by simpa only [PlD, e1, e2] using key)
    simpa only [PlD, e1, e2] using this
  · rw [fdRes, if_neg h]
    refine pure_of_vcR Tryz.tabOk mixOrd Tryz.func33 rfl rfl ?_
    conv => whnf
    repeat' first | ((first | refine And.intro (Or.inl rfl) ?_ | (apply Exists.intro; refine And.intro (key) ?_) | (refine And.intro (fun h => ?_) (fun h => ?_) <;> (try simp only [cnt1, ints_length] at h) <;> first | (exfalso; omega) | skip) | refine And.intro (show slotsOk _ = true by decide +kernel) ?_ | refine And.intro vOb ?_ | (apply Exists.intro; refine And.intro vObt ?_) | (apply Exists.intro; refine And.intro vObx ?_) | refine And.intro vArT ?_ | refine Alt.fst ?_ | refine Or.inl ?_) <;> conv => whnf) | fail
    all_goals (exfalso; omega)
theorem c_specFirstDifference (o p o' p' : Bool) (m : Int) (t : List (List Int)) (hl : t.length ≤ 1048576) (hr : lensOk t) (m' : Int) (t' : List (List Int)) (hl' : t'.length ≤ 1048576) (hr' : lensOk t') :
    PureCall Tryz.prog 34 [.agg [dint m, .list o 1 (rows p t)], .agg [dint m', .list o' 1 (rows p' t')]] (fdRes m t m' t') := by
  have key := c_l04Two o p o' p' m t hl hr m' t' hl' hr'
  by_cases h : twC m t m' t' = 0
  · rw [fdRes, if_pos h]
    rw [h] at key
    obtain ⟨h1, h2, rfl, hlen⟩ := twC_0 h
    obtain ⟨hp, hL⟩ := lawB_two h1
    obtain ⟨hp', hL'⟩ := lawB_two h2
    obtain ⟨hm, h3, h4, _⟩ := plB_md hp
    have e1 := plB_T hp
    have e2 := plB_T hp'
    rw [← hlen] at hL' e2
    have := c_specFD0 hm o p o' p' t.length ⟨h3, h4⟩ (rd2 m t) (rd2 m t') (law_00 h3 hL hL') (by simpa only [PlD, e1, e2] using key)
    simpa only [PlD, e1, e2] using this
  · rw [fdRes, if_neg h]
    refine pure_of_vcR Tryz.tabOk mixOrd Tryz.func34 rfl rfl ?_
    conv => whnf
    repeat' first | ((first | refine And.intro (Or.inl rfl) ?_ | (apply Exists.intro; refine And.intro (key) ?_) | (refine And.intro (fun h => ?_) (fun h => ?_) <;> (try simp only [cnt1, ints_length] at h) <;> first | (exfalso; omega) | skip) | refine And.intro (show slotsOk _ = true by decide +kernel) ?_ | refine And.intro vOb ?_ | (apply Exists.intro; refine And.intro vObt ?_) | (apply Exists.intro; refine And.intro vObx ?_) | refine And.intro vArT ?_ | refine Alt.fst ?_ | refine Or.inl ?_) <;> conv => whnf) | fail
    all_goals (exfalso; omega)
theorem c_implAgreementOf (o p o' p' : Bool) (m : Int) (t : List (List Int)) (hl : t.length ≤ 1048576) (hr : lensOk t) (m' : Int) (t' : List (List Int)) (hl' : t'.length ≤ 1048576) (hr' : lensOk t') :
    PureCall Tryz.prog 36 [.agg [dint m, .list o 1 (rows p t)], .agg [dint m', .list o' 1 (rows p' t')]] (agRes m t m' t') := by
  have key := c_bothLaws o p o' p' m t hl hr m' t' hl' hr'
  by_cases h : twC m t m' t' = 0
  · rw [agRes, if_pos h]
    rw [h] at key
    obtain ⟨h1, h2, rfl, hlen⟩ := twC_0 h
    obtain ⟨hp, hL⟩ := lawB_two h1
    obtain ⟨hp', hL'⟩ := lawB_two h2
    obtain ⟨hm, h3, h4, _⟩ := plB_md hp
    have e1 := plB_T hp
    have e2 := plB_T hp'
    rw [← hlen] at hL' e2
    have ka := c_agreement o p o' p' t.length ⟨h3, h4⟩ (rd2 m t) (rd2 m t')
    have hle := agr_le (rd2 m t) (rd2 m t') t.length
    simp only [PlD, e1, e2] at ka
    refine pure_of_vcR Tryz.tabOk mixOrd Tryz.func36 rfl rfl ?_
    conv => whnf
    repeat' first | ((first | refine And.intro (Or.inl rfl) ?_ | (apply Exists.intro; refine And.intro (key) ?_) | (apply Exists.intro; refine And.intro (ka) ?_) | (refine And.intro (fun h => ?_) (fun h => ?_) <;> (try simp only [cnt1, ints_length] at h) <;> first | (exfalso; omega) | skip) | refine And.intro (show slotsOk _ = true by decide +kernel) ?_ | refine And.intro vOb ?_ | (apply Exists.intro; refine And.intro vObt ?_) | (apply Exists.intro; refine And.intro vObx ?_) | refine And.intro vArT ?_ | refine Alt.fst ?_ | refine Or.inl ?_) <;> conv => whnf) | fail
  · rw [agRes, if_neg h]
    refine pure_of_vcR Tryz.tabOk mixOrd Tryz.func36 rfl rfl ?_
    conv => whnf
    repeat' first | ((first | refine And.intro (Or.inl rfl) ?_ | (apply Exists.intro; refine And.intro (key) ?_) | (refine And.intro (fun h => ?_) (fun h => ?_) <;> (try simp only [cnt1, ints_length] at h) <;> first | (exfalso; omega) | skip) | refine And.intro (show slotsOk _ = true by decide +kernel) ?_ | refine And.intro vOb ?_ | (apply Exists.intro; refine And.intro vObt ?_) | (apply Exists.intro; refine And.intro vObx ?_) | refine And.intro vArT ?_ | refine Alt.fst ?_ | refine Or.inl ?_) <;> conv => whnf) | fail
    all_goals (exfalso; omega)
theorem c_specAgreementOf (o p o' p' : Bool) (m : Int) (t : List (List Int)) (hl : t.length ≤ 1048576) (hr : lensOk t) (m' : Int) (t' : List (List Int)) (hl' : t'.length ≤ 1048576) (hr' : lensOk t') :
    PureCall Tryz.prog 37 [.agg [dint m, .list o 1 (rows p t)], .agg [dint m', .list o' 1 (rows p' t')]] (agRes m t m' t') := by
  have key := c_l04Two o p o' p' m t hl hr m' t' hl' hr'
  by_cases h : twC m t m' t' = 0
  · rw [agRes, if_pos h]
    rw [h] at key
    obtain ⟨h1, h2, rfl, hlen⟩ := twC_0 h
    obtain ⟨hp, hL⟩ := lawB_two h1
    obtain ⟨hp', hL'⟩ := lawB_two h2
    obtain ⟨hm, h3, h4, _⟩ := plB_md hp
    have e1 := plB_T hp
    have e2 := plB_T hp'
    rw [← hlen] at hL' e2
    have ka := c_l04Agreement o p o' p' t.length ⟨h3, h4⟩ (rd2 m t) (rd2 m t') (law_00 h3 hL hL')
    have hle := agr_le (rd2 m t) (rd2 m t') t.length
    simp only [PlD, e1, e2] at ka
    refine pure_of_vcR Tryz.tabOk mixOrd Tryz.func37 rfl rfl ?_
    conv => whnf
    repeat' first | ((first | refine And.intro (Or.inl rfl) ?_ | (apply Exists.intro; refine And.intro (key) ?_) | (apply Exists.intro; refine And.intro (ka) ?_) | (refine And.intro (fun h => ?_) (fun h => ?_) <;> (try simp only [cnt1, ints_length] at h) <;> first | (exfalso; omega) | skip) | refine And.intro (show slotsOk _ = true by decide +kernel) ?_ | refine And.intro vOb ?_ | (apply Exists.intro; refine And.intro vObt ?_) | (apply Exists.intro; refine And.intro vObx ?_) | refine And.intro vArT ?_ | refine Alt.fst ?_ | refine Or.inl ?_) <;> conv => whnf) | fail
  · rw [agRes, if_neg h]
    refine pure_of_vcR Tryz.tabOk mixOrd Tryz.func37 rfl rfl ?_
    conv => whnf
    repeat' first | ((first | refine And.intro (Or.inl rfl) ?_ | (apply Exists.intro; refine And.intro (key) ?_) | (refine And.intro (fun h => ?_) (fun h => ?_) <;> (try simp only [cnt1, ints_length] at h) <;> first | (exfalso; omega) | skip) | refine And.intro (show slotsOk _ = true by decide +kernel) ?_ | refine And.intro vOb ?_ | (apply Exists.intro; refine And.intro vObt ?_) | (apply Exists.intro; refine And.intro vObx ?_) | refine And.intro vArT ?_ | refine Alt.fst ?_ | refine Or.inl ?_) <;> conv => whnf) | fail
    all_goals (exfalso; omega)
end Go.Proofs

