/- Laws of parameters: the walks. -/
-- tables
-- rec
import Derived.Test.YtbaojihanfkofaaK98
import Derived.Test.YtbaojihanfkofaaK101
import Derived.Test.YtbaojihanfkofaaK13
import Derived.Test.YtbaojihanfkofaaKN
namespace Go.Proofs
open Go Go.Vm Go.Fg Go.Fg.PS
set_option maxRecDepth 100000
set_option maxHeartbeats 4000000
set_option linter.unusedSimpArgs false
set_option linter.unusedVariables false
variable {m : Int}
theorem lazL_b {n i : Nat} (hn : 2 ≤ n ∧ n ≤ 40) (hi : i < n + 1) : 0 ≤ (lazL n).getD i 0 ∧ (lazL n).getD i 0 ≤ 4611686018427387904 := by
  rw [lazL_at (by omega)]
  have h := lazV_le n i
  have h2 : 2 ^ n ≤ 2 ^ 40 := Nat.pow_le_pow_right (by omega) (by omega)
  omega
theorem c_lawOfParameters (hm : Md m) (o : Bool) (l : List Int) (hl : l.length ≤ 9) (hb : ∀ k, k < l.length → 0 ≤ l.getD k 0 ∧ l.getD k 0 < m) : PureCall Try.prog 36 [dint m, .list o 1 (ints l)] (PlD m true true (l.length + 2) (lawK m l l.length)) := by
  have hm1 := hm.1
  have hm2 := hm.2
  refine pure_of_vcR Try.tabOk mixOrd Try.func36 rfl rfl ?_
  conv => whnf
  repeat' first | ((first | refine And.intro (Or.inl rfl) ?_ | (apply Exists.intro; refine And.intro (c_variable 2 vAr vAr hm) ?_) | (apply Exists.intro; refine And.intro (c_onAxis0 hm _ 2 vAr _) ?_) | (apply Exists.intro; refine And.intro (c_onAxis1 hm _ 2 vAr _) ?_) | (apply Exists.intro; refine And.intro (c_plusP hm _ _ _ _ 2 vAr _ _) ?_) | (refine And.intro (fun h => ?_) (fun h => ?_) <;> (try simp only [cnt1, ints_length] at h)) | refine And.intro (show slotsOk _ = true by decide +kernel) ?_ | refine And.intro vOb ?_ | (apply Exists.intro; refine And.intro vObt ?_) | (apply Exists.intro; refine And.intro vObx ?_) | refine And.intro vArT ?_ | refine Or.inl ?_) <;> conv => whnf) | fail
  refine loop_atR Try.tabOk mixOrd (α := Nat) (fun k => [(17, dint k), (14, .undef)]) (fun k => [(10, some ⟨false, 1, rows true (Tb (k + 2) (lawK m l k))⟩), (11, some ⟨true, 1, [dint m, .ref 10 [] 1 0 (k + 2)]⟩)]) (fun k => k ≤ l.length) (fun k => l.length - k) (0) ?_ ?_ ?_
  · omega
  · conv => whnf
    first | refine WeakS.autoR ?_ | refine Weak.autoR ?_
    conv => whnf
    repeat' ((first | exact trivial | refine And.intro rfl ?_ | refine And.intro (eqV_int vAr) ?_ | refine And.intro vOb ?_ | refine And.intro vRepl ?_ | refine And.intro vReplL ?_ | refine And.intro ?_ ?_) <;> try (conv => whnf))
    all_goals first | rfl | (simp [cnt1]; done)
  intro k hk
  conv => whnf
  by_cases hkl : k < l.length
  · have hLk := lawK_law hm.pos l k (by omega)
    have hF := firV_ok hm.pos (n := k + 2) ⟨by omega, by omega⟩ hLk
    have hbk := hb k hkl
    repeat' first | ((first | refine And.intro (Or.inl rfl) ?_ | (apply Exists.intro; refine And.intro (c_firstExtension hm _ _ (k + 2) (by omega) (lawK m l k) hLk (firV (lawK m l k) (k + 2)) hF) ?_) | (apply Exists.intro; refine And.intro (c_degreeP _ _ (k + 2 + 1) vAr _) ?_) | (apply Exists.intro; refine And.intro (c_lazard (k + 2) (by omega) vAr) ?_) | (apply Exists.intro; refine And.intro (c_onTopT hm _ _ _ (k + 2 + 1) (by omega) (extP (lawK m l k) (k + 2) (firV (lawK m l k) (k + 2))) (lazL (k + 2)) (by simp) (fun i hi => lazL_b (by omega) hi) (l.getD k 0) (by omega)) ?_) | (refine And.intro (fun h => ?_) (fun h => ?_) <;> (try simp only [cnt1, ints_length, rows_length, Tb_length, lM_length, tM_length] at h) <;> first | (exfalso; omega) | skip) | refine And.intro (show slotsOk _ = true by decide +kernel) ?_ | refine And.intro vOb ?_ | (apply Exists.intro; refine And.intro vObt ?_) | (apply Exists.intro; refine And.intro vObx ?_) | refine And.intro vArT ?_ | refine And.intro (vMn) ?_ | refine Or.inl ?_) <;> conv => whnf) | fail
    refine Exists.intro (k + 1) (And.intro (by omega) (And.intro (by omega) ?_))
    first | refine WeakS.autoR ?_ | refine Weak.autoR ?_
    conv => whnf
    repeat' ((first | exact trivial | refine And.intro rfl ?_ | refine And.intro (eqV_int vAr) ?_ | refine And.intro vOb ?_ | refine And.intro vRepl ?_ | refine And.intro vReplL ?_ | refine And.intro ?_ ?_) <;> try (conv => whnf))
    all_goals first | exact rows_congr (ext_onTop _ _ _ _) | (simp [cnt1]; done)
  · have hkl2 : k = l.length := by omega
    subst hkl2
    repeat' first | ((first | refine And.intro (Or.inl rfl) ?_ | (refine And.intro (fun h => ?_) (fun h => ?_) <;> (try simp only [cnt1, ints_length, rows_length, Tb_length, lM_length, tM_length] at h) <;> first | (exfalso; omega) | skip) | refine And.intro (show slotsOk _ = true by decide +kernel) ?_ | refine And.intro vOb ?_ | (apply Exists.intro; refine And.intro vObt ?_) | (apply Exists.intro; refine And.intro vObx ?_) | refine And.intro vArT ?_ | refine Or.inl ?_) <;> conv => whnf) | fail
theorem c_l07Law (hm : Md m) (o : Bool) (l : List Int) (hl : 1 ≤ l.length ∧ l.length ≤ 9) (hb : ∀ k, k < l.length → 0 ≤ l.getD k 0 ∧ l.getD k 0 < m) : PureCall Try.prog 33 [dint m, .list o 1 (ints l)] (TbD true true (l.length + 2) (lawK m l l.length)) := by
  have hm1 := hm.1
  have hm2 := hm.2
  have ht0 : ∀ b, rows b (Tb (0 + 2) (lawK m l 0)) = [.list b 1 (ints [0, 1]), .list b 1 (ints [1])] := fun b => by
    rw [show Tb (0 + 2) (lawK m l 0) = [[0, 1], [1]] from xyP_tab hm1]; rfl
  refine pure_of_vcR Try.tabOk mixOrd Try.func33 rfl rfl ?_
  conv => whnf
  repeat' first | ((first | refine And.intro (Or.inl rfl) ?_ | (refine And.intro (fun h => ?_) (fun h => ?_) <;> (try simp only [cnt1, ints_length] at h)) | refine And.intro (show slotsOk _ = true by decide +kernel) ?_ | refine And.intro vOb ?_ | (apply Exists.intro; refine And.intro vObt ?_) | (apply Exists.intro; refine And.intro vObx ?_) | refine And.intro vArT ?_ | refine Or.inl ?_) <;> conv => whnf) | fail
  refine loop_atR Try.tabOk mixOrd (α := Nat × Bool) (fun x => [(6, dint x.1), (5, .ref 2 [] 1 0 (x.1 + 2)), (7, .undef), (8, .undef), (9, .undef)]) (fun x => [(2, some ⟨false, 1, rows x.2 (Tb (x.1 + 2) (lawK m l x.1))⟩)]) (fun x => x.1 ≤ l.length ∧ (0 < x.1 → x.2 = true)) (fun x => l.length - x.1) ((0, false)) ?_ ?_ ?_
  · exact ⟨by simp only; omega, fun h => by simp only at h; omega⟩
  · conv => whnf
    first | refine WeakS.autoR ?_ | refine Weak.autoR ?_
    conv => whnf
    repeat' ((first | exact trivial | refine And.intro rfl ?_ | refine And.intro (eqV_int vAr) ?_ | refine And.intro vOb ?_ | refine And.intro vRepl ?_ | refine And.intro vReplL ?_ | refine And.intro ?_ ?_) <;> try (conv => whnf))
    all_goals exact (ht0 false).symm
  intro ⟨k, b⟩ ⟨hk, hb1⟩
  simp only at hk hb1
  conv => whnf
  by_cases hkl : k < l.length
  · have hLk := lawK_law hm.pos l k (by omega)
    have h00 : ((lawK m l k).c 0).c 0 = 0 := by rw [hLk.1 0 (by omega)]; exact if_neg (by omega)
    have hF := firV_ok hm.pos (n := k + 2) ⟨by omega, by omega⟩ hLk
    have hbk := hb k hkl
    have hz : l.getD k 0 = (Zm.mk m (l.getD k 0)).val := (Zm.val_of_range hbk).symm
    repeat' first | ((first | refine And.intro (Or.inl rfl) ?_ | (apply Exists.intro; refine And.intro (c_l07First hm _ _ (k + 2) (by omega) (lawK m l k) h00 (firV (lawK m l k) (k + 2)) hF) ?_) | (apply Exists.intro; refine And.intro (c_l07Cocycle hm (k + 2) (by omega) vAr) ?_) | (apply Exists.intro; refine And.intro (c_l03Scale hm _ _ (k + 2 + 1) (by omega) (Zm.mk m (l.getD k 0)) hz (topP (k + 2) (fun i => Zm.mk m (lazV (k + 2) i)))) ?_) | (apply Exists.intro; refine And.intro (c_l03Add hm _ _ _ _ (k + 2 + 1) (by omega) (extP (lawK m l k) (k + 2) (firV (lawK m l k) (k + 2))) (PS.C (PS.C (Zm.mk m (l.getD k 0))) * topP (k + 2) (fun i => Zm.mk m (lazV (k + 2) i)))) ?_) | (refine And.intro (fun h => ?_) (fun h => ?_) <;> (try simp only [cnt1, ints_length, rows_length, Tb_length, lM_length, tM_length] at h) <;> first | (exfalso; omega) | skip) | refine And.intro (show slotsOk _ = true by decide +kernel) ?_ | refine And.intro vOb ?_ | (apply Exists.intro; refine And.intro vObt ?_) | (apply Exists.intro; refine And.intro vObx ?_) | refine And.intro vArT ?_ | refine And.intro (vMn) ?_ | refine Or.inl ?_) <;> conv => whnf) | fail
    refine Exists.intro (k + 1, true) (And.intro ⟨by simp only; omega, fun _ => rfl⟩ (And.intro (by simp only; omega) ?_))
    first | refine WeakS.autoR ?_ | refine Weak.autoR ?_
    conv => whnf
    repeat' ((first | exact trivial | refine And.intro rfl ?_ | refine And.intro (eqV_int vAr) ?_ | refine And.intro vOb ?_ | refine And.intro vRepl ?_ | refine And.intro vReplL ?_ | refine And.intro ?_ ?_) <;> try (conv => whnf))
    all_goals first | exact rows_congr (ext_add _ _ _ _) | (simp [cnt1]; done)
  · have hkl2 : k = l.length := by omega
    obtain rfl : b = true := hb1 (by omega)
    subst hkl2
    repeat' first | ((first | refine And.intro (Or.inl rfl) ?_ | (refine And.intro (fun h => ?_) (fun h => ?_) <;> (try simp only [cnt1, ints_length, rows_length, Tb_length, lM_length, tM_length] at h) <;> first | (exfalso; omega) | skip) | refine And.intro (show slotsOk _ = true by decide +kernel) ?_ | refine And.intro vOb ?_ | (apply Exists.intro; refine And.intro vObt ?_) | (apply Exists.intro; refine And.intro vObx ?_) | refine And.intro vArT ?_ | refine Or.inl ?_) <;> conv => whnf) | fail
end Go.Proofs

