/- Parameters of a law: the walks. -/
-- tables
-- rec
import Derived.Test.YtbaojihanfkofaaGreatK98
import Derived.Test.YtbaojihanfkofaaGreatK101
import Derived.Test.YtbaojihanfkofaaGreatK85
import Derived.Test.YtbaojihanfkofaaGreatK23
import Derived.Test.YtbaojihanfkofaaGreatK13
namespace Go.Proofs
open Go Go.Vm Go.Fg Go.Fg.PS
set_option maxRecDepth 100000
set_option maxHeartbeats 4000000
set_option linter.unusedSimpArgs false
set_option linter.unusedVariables false
variable {m : Int}
theorem c_minusP1 (hm : Md m) (o p o' p' : Bool) (n : Nat) (hn : 1 ≤ n ∧ n ≤ 100) (f g : PS (PS (Zm m))) (i j : Nat) (h : i + j < n) : PureCall Tryz.prog 46 [dint i, dint j, .cptr [dint m, .list o 1 (rows p (Tb n f))] 0, .cptr [dint m, .list o' 1 (rows p' (Tb n g))] 0] (dint (((f.c i).c j).val - ((g.c i).c j).val)) := by
  have hm1 := hm.1
  have hm2 := hm.2
  have h1 := Zm.val_range hm.pos ((f.c i).c j)
  have h2 := Zm.val_range hm.pos ((g.c i).c j)
  refine pure_of_vcR Tryz.tabOk mixOrd Tryz.func46 rfl rfl ?_
  conv => whnf
  repeat' first | ((first | refine And.intro (Or.inl rfl) ?_ | (refine And.intro (fun h => ?_) (fun h => ?_) <;> (try simp only [cnt1, ints_length] at h)) | refine And.intro (show slotsOk _ = true by decide +kernel) ?_ | refine And.intro vOb ?_ | (apply Exists.intro; refine And.intro vObt ?_) | (apply Exists.intro; refine And.intro vObx ?_) | refine And.intro vArT ?_ | refine Or.inl ?_) <;> conv => whnf) | fail
  all_goals rfl
theorem c_minusP (hm : Md m) (o p o' p' : Bool) (n : Nat) (hn : 1 ≤ n ∧ n ≤ 100) (f g : PS (PS (Zm m))) : PureCall Tryz.prog 27 [PlD m o p n f, PlD m o' p' n g] (PlD m true true n (f - g)) := by
  have hm1 := hm.1
  have hm2 := hm.2
  refine pure_of_vcR Tryz.tabOk mixOrd Tryz.func27 rfl rfl ?_
  conv => whnf
  repeat' first | ((first | refine And.intro (Or.inl rfl) ?_ | (apply Exists.intro; refine And.intro (c_mapped2 hm _ _ _ n hn (fun i j => ((f.c i).c j).val - ((g.c i).c j).val) (fun i j h => c_minusP1 hm _ _ _ _ n hn f g i j h) _ _ f) ?_) | (refine And.intro (fun h => ?_) (fun h => ?_) <;> (try simp only [cnt1, ints_length] at h)) | refine And.intro (show slotsOk _ = true by decide +kernel) ?_ | refine And.intro vOb ?_ | (apply Exists.intro; refine And.intro vObt ?_) | (apply Exists.intro; refine And.intro vObx ?_) | refine And.intro vArT ?_ | refine Or.inl ?_) <;> conv => whnf) | fail
  refine plD_congr (Tb_congr (fun i j hij => ?_))
  rw [pl_c, Zm.mk_sub, Zm.mk_val, Zm.mk_val]; rfl
theorem parL_len (f : PS (PS (Zm m))) (k : Nat) : k * 1 = (ints (parL f k)).length := by simp [parL]
theorem c_parameters (hm : Md m) (o p : Bool) (N : Nat) (hN : 3 ≤ N ∧ N ≤ 11) (f : PS (PS (Zm m))) (hL : LawP f N) : PureCall Tryz.prog 14 [PlD m o p N f] (.list true 1 (ints (parL f (N - 2)))) := by
  have hm1 := hm.1
  have hm2 := hm.2
  refine pure_of_vcR Tryz.tabOk mixOrd Tryz.func14 rfl rfl ?_
  conv => whnf
  repeat' first | ((first | refine And.intro (Or.inl rfl) ?_ | (apply Exists.intro; refine And.intro (c_degreeP _ _ _ vAr _) ?_) | (refine And.intro (fun h => ?_) (fun h => ?_) <;> (try simp only [cnt1, ints_length] at h)) | refine And.intro (show slotsOk _ = true by decide +kernel) ?_ | refine And.intro vOb ?_ | (apply Exists.intro; refine And.intro vObt ?_) | (apply Exists.intro; refine And.intro vObx ?_) | refine And.intro vArT ?_ | refine Or.inl ?_) <;> conv => whnf) | fail
  refine loop_atR Tryz.tabOk mixOrd (α := Nat) (fun k => [(4, dint ((k : Int) + 2)), (3, .ref 1 [] 1 0 k), (5, .undef), (6, .undef)]) (fun k => [(1, some ⟨false, 1, ints (parL f k)⟩)]) (fun k => k ≤ N - 2) (fun k => N - 2 - k) (0) ?_ ?_ ?_
  · omega
  · conv => whnf
    first | refine WeakS.autoR ?_ | refine Weak.autoR ?_
    conv => whnf
    repeat' ((first | exact trivial | refine And.intro rfl ?_ | refine And.intro (eqV_int vAr) ?_ | refine And.intro vOb ?_ | refine And.intro vRepl ?_ | refine And.intro vReplL ?_ | refine And.intro ?_ ?_) <;> try (conv => whnf))
    all_goals rfl
  intro k hk
  conv => whnf
  by_cases hkN : k < N - 2
  · have hLk := lawP_le (n := k + 2) (by omega) (by omega) hL
    have hLk1 := lawP_le (n := k + 2 + 1) (by omega) (by omega) hL
    have hF := firV_ok hm.pos (n := k + 2) ⟨by omega, by omega⟩ hLk
    obtain ⟨h1, h2, h3⟩ := parN_ok hm.pos (n := k + 2) ⟨by omega, by omega⟩ hLk1
    repeat' first | ((first | refine And.intro (Or.inl rfl) ?_ | (apply Exists.intro; refine And.intro (c_degreeP _ _ _ vAr _) ?_) | (apply Exists.intro; refine And.intro (c_cut _ _ N (k + 2 + 1) vAr (by omega) (by omega) f) ?_) | (apply Exists.intro; refine And.intro (c_cut _ _ N (k + 2) vAr (by omega) (by omega) f) ?_) | (apply Exists.intro; refine And.intro (c_firstExtension hm _ _ (k + 2) (by omega) f hLk (firV f (k + 2)) hF) ?_) | (apply Exists.intro; refine And.intro (c_minusP hm _ _ _ _ (k + 2 + 1) (by omega) f (extP f (k + 2) (firV f (k + 2)))) ?_) | (apply Exists.intro; refine And.intro (c_top _ _ (k + 2 + 1) (by omega) (f - extP f (k + 2) (firV f (k + 2)))) ?_) | (apply Exists.intro; refine And.intro (c_factorOf hm _ (k + 2 + 1) (by omega) (f - extP f (k + 2) (firV f (k + 2))) (parN f (k + 2)) h1 h2 h3) ?_) | (refine And.intro (fun h => ?_) (fun h => ?_) <;> (try simp only [cnt1, ints_length, rows_length, Tb_length, lM_length, tM_length] at h) <;> first | (exfalso; omega) | skip) | refine And.intro (show slotsOk _ = true by decide +kernel) ?_ | refine And.intro vOb ?_ | (apply Exists.intro; refine And.intro vObt ?_) | (apply Exists.intro; refine And.intro vObx ?_) | refine And.intro vArT ?_ | refine And.intro (parL_len _ _) ?_ | refine And.intro (vMn) ?_ | refine Or.inl ?_) <;> conv => whnf) | fail
    refine Exists.intro (k + 1) (And.intro (by omega) (And.intro (by omega) ?_))
    first | refine WeakS.autoR ?_ | refine Weak.autoR ?_
    conv => whnf
    repeat' ((first | exact trivial | refine And.intro rfl ?_ | refine And.intro (eqV_int vAr) ?_ | refine And.intro vOb ?_ | refine And.intro vRepl ?_ | refine And.intro vReplL ?_ | refine And.intro ?_ ?_) <;> try (conv => whnf))
    all_goals exact congrArg ints (lM_push rfl)
  · have hkN2 : k = N - 2 := by omega
    subst hkN2
    repeat' first | ((first | refine And.intro (Or.inl rfl) ?_ | (apply Exists.intro; refine And.intro (c_degreeP _ _ _ vAr _) ?_) | (refine And.intro (fun h => ?_) (fun h => ?_) <;> (try simp only [cnt1, ints_length, rows_length, Tb_length, lM_length, tM_length] at h) <;> first | (exfalso; omega) | skip) | refine And.intro (show slotsOk _ = true by decide +kernel) ?_ | refine And.intro vOb ?_ | (apply Exists.intro; refine And.intro vObt ?_) | (apply Exists.intro; refine And.intro vObx ?_) | refine And.intro vArT ?_ | refine And.intro (parL_len _ _) ?_ | refine Or.inl ?_) <;> conv => whnf) | fail
theorem c_l07Parameters (hm : Md m) (o p : Bool) (N : Nat) (hN : 3 ≤ N ∧ N ≤ 11) (f : PS (PS (Zm m))) (hL : LawP f N) : PureCall Tryz.prog 20 [dint m, TbD o p N f] (.list true 1 (ints (parL f (N - 2)))) := by
  have hm1 := hm.1
  have hm2 := hm.2
  refine pure_of_vcR Tryz.tabOk mixOrd Tryz.func20 rfl rfl ?_
  conv => whnf
  have h00 : (f.c 0).c 0 = 0 := by rw [hL.1 0 (by omega)]; exact if_neg (by omega)
  have hz : m - 1 = (Zm.mk m (m - 1)).val := (Zm.val_of_range ⟨by omega, by omega⟩).symm
  repeat' first | ((first | refine And.intro (Or.inl rfl) ?_ | (refine And.intro (fun h => ?_) (fun h => ?_) <;> (try simp only [cnt1, ints_length] at h)) | refine And.intro (show slotsOk _ = true by decide +kernel) ?_ | refine And.intro vOb ?_ | (apply Exists.intro; refine And.intro vObt ?_) | (apply Exists.intro; refine And.intro vObx ?_) | refine And.intro vArT ?_ | refine Or.inl ?_) <;> conv => whnf) | fail
  refine loop_atR Tryz.tabOk mixOrd (α := Nat) (fun k => [(6, dint ((k : Int) + 2)), (5, .ref 0 [] 1 0 k), (7, .undef), (8, .undef)]) (fun k => [(0, some ⟨false, 1, ints (parL f k)⟩)]) (fun k => k ≤ N - 2) (fun k => N - 2 - k) (0) ?_ ?_ ?_
  · omega
  · conv => whnf
    first | refine WeakS.autoR ?_ | refine Weak.autoR ?_
    conv => whnf
    repeat' ((first | exact trivial | refine And.intro rfl ?_ | refine And.intro (eqV_int vAr) ?_ | refine And.intro vOb ?_ | refine And.intro vRepl ?_ | refine And.intro vReplL ?_ | refine And.intro ?_ ?_) <;> try (conv => whnf))
    all_goals rfl
  intro k hk
  conv => whnf
  by_cases hkN : k < N - 2
  · have hLk := lawP_le (n := k + 2) (by omega) (by omega) hL
    have hLk1 := lawP_le (n := k + 2 + 1) (by omega) (by omega) hL
    have hF := firV_ok hm.pos (n := k + 2) ⟨by omega, by omega⟩ hLk
    obtain ⟨h1, h2, h3⟩ := parN_ok hm.pos (n := k + 2) ⟨by omega, by omega⟩ hLk1
    repeat' first | ((first | refine And.intro (Or.inl rfl) ?_ | (apply Exists.intro; refine And.intro (c_l03Cut _ _ N (k + 2 + 1) vAr (by omega) (by omega) f) ?_) | (apply Exists.intro; refine And.intro (c_l03Cut _ _ N (k + 2) vAr (by omega) (by omega) f) ?_) | (apply Exists.intro; refine And.intro (c_l07First hm _ _ (k + 2) (by omega) f h00 (firV f (k + 2)) hF) ?_) | refine Or.inr (inl_ofR Tryz.tabOk mixOrd _ Tryz.func36 rfl rfl ?_) | (apply Exists.intro; refine And.intro (c_l03Scale hm _ _ (k + 2 + 1) (by omega) (Zm.mk m (m - 1)) hz (extP f (k + 2) (firV f (k + 2)))) ?_) | (apply Exists.intro; refine And.intro (c_l03Add hm _ _ _ _ (k + 2 + 1) (by omega) f (PS.C (PS.C (Zm.mk m (m - 1))) * extP f (k + 2) (firV f (k + 2)))) ?_) | (apply Exists.intro; refine And.intro (c_l07Factor hm _ _ (k + 2 + 1) (by omega) (f + PS.C (PS.C (Zm.mk m (m - 1))) * extP f (k + 2) (firV f (k + 2))) (parN f (k + 2)) h1 (gap_fac.2 h2) (fun j hj c => h3 j hj (gap_fac.1 c))) ?_) | (refine And.intro (fun h => ?_) (fun h => ?_) <;> (try simp only [cnt1, ints_length, rows_length, Tb_length, lM_length, tM_length] at h) <;> first | (exfalso; omega) | skip) | refine And.intro (show slotsOk _ = true by decide +kernel) ?_ | refine And.intro vOb ?_ | (apply Exists.intro; refine And.intro vObt ?_) | (apply Exists.intro; refine And.intro vObx ?_) | refine And.intro vArT ?_ | refine And.intro (parL_len _ _) ?_ | refine And.intro (vMn) ?_ | refine Or.inl ?_) <;> conv => whnf) | fail
    refine Exists.intro (k + 1) (And.intro (by omega) (And.intro (by omega) ?_))
    first | refine WeakS.autoR ?_ | refine Weak.autoR ?_
    conv => whnf
    repeat' ((first | exact trivial | refine And.intro rfl ?_ | refine And.intro (eqV_int vAr) ?_ | refine And.intro vOb ?_ | refine And.intro vRepl ?_ | refine And.intro vReplL ?_ | refine And.intro ?_ ?_) <;> try (conv => whnf))
    all_goals exact congrArg ints (lM_push rfl)
  · have hkN2 : k = N - 2 := by omega
    subst hkN2
    repeat' first | ((first | refine And.intro (Or.inl rfl) ?_ | (refine And.intro (fun h => ?_) (fun h => ?_) <;> (try simp only [cnt1, ints_length, rows_length, Tb_length, lM_length, tM_length] at h) <;> first | (exfalso; omega) | skip) | refine And.intro (show slotsOk _ = true by decide +kernel) ?_ | refine And.intro vOb ?_ | (apply Exists.intro; refine And.intro vObt ?_) | (apply Exists.intro; refine And.intro vObx ?_) | refine And.intro vArT ?_ | refine And.intro (parL_len _ _) ?_ | refine Or.inl ?_) <;> conv => whnf) | fail
end Go.Proofs

