import Derived.Test.YtndhpcigpghejaaGreatK192
import Derived.Test.YtndhpcigpghejaaGreatK185
import Derived.Test.YtndhpcigpghejaaGreatKR5
import Derived.Test.YtndhpcigpghejaaGreatK42
import Derived.Test.YtndhpcigpghejaaGreatK135A
import Derived.Test.YtndhpcigpghejaaGreatVm43
namespace Go.Proofs
open Go Go.Vm Go.Fg Go.Fg.PS
set_option maxRecDepth 100000
set_option maxHeartbeats 40000000
set_option linter.unusedSimpArgs false
set_option linter.unusedVariables false
variable {m : Int}
theorem sq_lens {q : Nat} (hq : q ≤ 100) (F : PS (PS (Zm m))) : lensOk (sqT q F) := fun i hi => by
 rw [sqT_getD F (by simpa using hi)]
 simp; omega
theorem rk_le (m : Int) (t : List (List Int)) : rkT m t ≤ t.length := by
 unfold rkT rkM rkOf
 split
 · rename_i i h
   exact Nat.le_of_lt (rk_some h).1
 · omega
theorem dp_two {t : List (List Int)} {v : List Int} (h : kC m t = 0) (hv : v.length = rkT m t) (hv2 : Nums m v) : dpRes m t v 2 = .tup [LD true (rkT m t) (duQ (rd2 m t) (rkT m t) (rd m v) (rd m v)), dint 0] := by
 have h1 : elC1 m t v = 0 := by
   unfold elC1
   rw [if_pos h, if_pos]
   simp only [elB, Bool.and_eq_true, decide_eq_true_eq, numsB_iff]
   exact ⟨hv, hv2⟩
 have h2 : elCK m t v 2 = 0 := by
   unfold elCK
   rw [if_pos h1]; rfl
 unfold dpRes
 rw [if_pos h2, ← duS_duQ]; rfl
theorem unit_L (hm : Md m) {q : Nat} (hq : 1 ≤ q) : (List.replicate q (0 : Int)).set 0 1 = L q (1 : PS (Zm m)) := by
 have hm1 := hm.1
 refine List.ext_getElem (by simp) (fun i h1 h2 => ?_)
 rw [L_getElem, List.getElem_set, one_c]
 by_cases h : 0 = i
 · rw [if_pos h, if_pos h.symm]; exact (Zm.val_one (by omega)).symm
 · rw [if_neg h, if_neg (fun e => h e.symm), List.getElem_replicate]; exact Zm.val_zero.symm
theorem md_unit {t : List (List Int)} {u : List Int} (h : kC m t = 0) (hu : u.length = rkT m t) (hu2 : Nums m u) : L (rkT m t) (duQ (rd2 m t) (rkT m t) (rd m (L (rkT m t) (1 : PS (Zm m)))) (rd m u)) = u := by
 obtain ⟨hm, hq, hL, hb⟩ := kern_ok h
 have e := L_rd hu2
 rw [hu] at e
 refine Eq.trans ?_ e
 rw [duQ_congr (rd_L (rkT m t) (1 : PS (Zm m))) Ag.rfl]
 exact L_congr (duQ_one hL ⟨by omega, by omega⟩ _)
theorem dua_18 (hW : Wei) (l : List Nat) (hb : ∀ b ∈ l, b < 256) (hl : l.length ≤ 9223372036854775807) (h0 : ¬ 4096 < l.length) : Stg Tryz.prog 0 Tryz.f8 18 (retQ Tryz.tab Tryz.f8 (dbool true)) (fewS Tryz.f8.ntmps [(0, .list false 1 (byts l))] []) := by
 refine stg_end Tryz.tabOk mixOrd _ 18 ?_
 conv => whnf
 repeat' first | (refine borA [] (c_DrawMultiplyElements hW false l hb (by omega)) (fun d rt' hd => ?_)) | fail
 obtain ⟨m, t, u, v, ⟨hm, ht⟩, hu, hv, rfl, rfl⟩ := hd
 refine ⟨rfl, by simp, ?_⟩
 conv => whnf
 have s1 := smT_lens ht
 have g1 := fun o p o1 o2 => c_implMultiplyElements o p o1 o2 m t u v s1.1 s1.2 (by omega) (by omega)
 have g2 := fun o p o1 o2 => c_specMultiplyElements o p o1 o2 m t u v s1.1 s1.2 (by omega) (by omega)
 unfold meRes at g1 g2
 have hq : rkT m t ≤ t.length := rk_le m t
 have htl := ht.1
 by_cases hc : elC2 m t u v = 0
 · rw [if_pos hc] at g1 g2
   repeat' first | ((first | refine z0 ?_ | (apply zI; refine zP (g1 _ _ _ _) ?_) | (apply zI; refine zP (g2 _ _ _ _) ?_) | (apply zI; refine zP (c_likeInts _ _ _ _ (by first | omega | (simp; omega)) (by first | omega | (simp; omega))) ?_) | (refine And.intro (fun h => ?_) (fun h => ?_) <;> (try simp only [cnt1, ints_length, rows_length, Tb_length, L_length, byts_length] at h) <;> first | (exfalso; first | omega | exact h trivial | (cases h; done)) | skip) | refine zV ?_ | (apply zI; refine zP vObx ?_) | refine Or.inl ?_) <;> conv => whnf) | fail
   all_goals first | rfl | (refine dbool_congr ?_; simp)
 · rw [if_neg hc] at g1 g2
   repeat' first | ((first | refine z0 ?_ | (apply zI; refine zP (g1 _ _ _ _) ?_) | (apply zI; refine zP (g2 _ _ _ _) ?_) | (apply zI; refine zP (c_likeNil) ?_) | (refine And.intro (fun h => ?_) (fun h => ?_) <;> (try simp only [cnt1, ints_length, rows_length, Tb_length, L_length, byts_length] at h) <;> first | (exfalso; first | omega | exact h trivial | (cases h; done)) | skip) | refine Or.inl ?_) <;> conv => whnf) | fail
   all_goals first | rfl | (refine dbool_congr ?_; simp)
theorem dua_10 (hW : Wei) (l : List Nat) (hb : ∀ b ∈ l, b < 256) (hl : l.length ≤ 9223372036854775807) (h0 : ¬ 4096 < l.length) : Stg Tryz.prog 0 Tryz.f8 10 (retQ Tryz.tab Tryz.f8 (dbool true)) (fewS Tryz.f8.ntmps [(0, .list false 1 (byts l))] []) := by
 refine stg_cut Tryz.tabOk mixOrd _ 10 8 ?_
 conv => whnf
 repeat' first | (refine borA [] (c_DrawCoproductOfElement hW false l hb (by omega)) (fun d rt' hd => ?_)) | fail
 obtain ⟨m, t, u, ⟨hm, ht⟩, hu, rfl, rfl⟩ := hd
 refine ⟨rfl, by simp, ?_⟩
 conv => whnf
 have s1 := smT_lens ht
 have g1 := fun o p o1 => c_implCoproductOfElement o p o1 m t u s1.1 s1.2 (by omega)
 have g2 := fun o p o1 => c_specCoproductOfElement o p o1 m t u s1.1 s1.2 (by omega)
 unfold ceRes at g1 g2
 have hq : rkT m t ≤ t.length := rk_le m t
 have htl := ht.1
 have r5 := fun o p o' p' => c_rows5S o p o' p' (sqT (rkT m t) (comp2N (rd m u) (rd2 m t) 0 (rkT m t))) (by simp; omega) (sq_lens (by omega) _)
 obtain ⟨Z, hZ⟩ : ∃ Z, Z = sqT (rkT m t) (comp2N (rd m u) (rd2 m t) 0 (rkT m t)) := ⟨_, rfl⟩
 have hZl : Z.length ≤ 12 := by rw [hZ]; simp; omega
 simp only [SqD, ← hZ] at g1 g2 r5
 clear hZ
 by_cases hc : elC1 m t u = 0
 · rw [if_pos hc] at g1 g2
   repeat' first | (refine borA [] (c_DrawDualPower hW false l hb (by omega)) (fun d rt' hd => ?_)) | ((first | (apply zI; refine zP (g1 _ _ _) ?_) | (apply zI; refine zP (g2 _ _ _) ?_) | refine Or.inl ?_) <;> conv => whnf) | fail
   obtain ⟨m2, t2, u2, k, ⟨hm2, ht2⟩, hu2, hk2, rfl, rfl⟩ := hd
   refine ⟨rfl, by simp, ?_⟩
   conv => whnf
   have s2 := smT_lens ht2
   have g3 := fun o p o1 => c_implDualPower o p o1 m2 t2 u2 k (by omega) s2.1 s2.2 (by omega)
   have g4 := fun o p o1 => c_specDualPower o p o1 m2 t2 u2 k (by omega) s2.1 s2.2 (by omega)
   unfold dpRes at g3 g4
   have hq2 : rkT m2 t2 ≤ t2.length := rk_le m2 t2
   have htl2 := ht2.1
   by_cases hc2 : elCK m2 t2 u2 k = 0
   · rw [if_pos hc2] at g3 g4
     generalize dpw (rd2 m2 t2) (rd m2 u2) (rkT m2 t2) (k - 1).toNat = Y at *
     repeat' first | ((first | (apply zI; refine zP (g3 _ _ _) ?_) | (apply zI; refine zP (g4 _ _ _) ?_) | (apply zI; refine zP (r5 _ _ _ _) ?_) | (apply zI; refine zP (c_rows5N) ?_) | (apply zI; refine zP (c_likeInts _ _ _ _ (by first | omega | (simp; omega)) (by first | omega | (simp; omega))) ?_) | (refine And.intro (fun h => ?_) (fun h => ?_) <;> (try simp only [cnt1, ints_length, rows_length, Tb_length, L_length, byts_length] at h) <;> first | (exfalso; first | omega | exact h trivial | (cases h; done)) | skip) | refine zV ?_ | (apply zI; refine zP vObt ?_) | (apply zI; refine zP vObx ?_) | refine Or.inl ?_) <;> conv => whnf) | fail
     all_goals first | (refine Stg.weak (dua_18 hW l hb hl h0) (wkA (kp := 0) []))
   · rw [if_neg hc2] at g3 g4
     generalize elCK m2 t2 u2 k = c8 at *
     repeat' first | ((first | (apply zI; refine zP (g3 _ _ _) ?_) | (apply zI; refine zP (g4 _ _ _) ?_) | (apply zI; refine zP (r5 _ _ _ _) ?_) | (apply zI; refine zP (c_rows5N) ?_) | (apply zI; refine zP (c_likeNil) ?_) | (refine And.intro (fun h => ?_) (fun h => ?_) <;> (try simp only [cnt1, ints_length, rows_length, Tb_length, L_length, byts_length] at h) <;> first | (exfalso; first | omega | exact h trivial | (cases h; done)) | skip) | refine zV ?_ | (apply zI; refine zP vObt ?_) | (apply zI; refine zP vObx ?_) | refine Or.inl ?_) <;> conv => whnf) | fail
     all_goals first | (refine Stg.weak (dua_18 hW l hb hl h0) (wkA (kp := 0) []))
 · rw [if_neg hc] at g1 g2
   generalize elC1 m t u = c9 at *
   repeat' first | (refine borA [] (c_DrawDualPower hW false l hb (by omega)) (fun d rt' hd => ?_)) | ((first | (apply zI; refine zP (g1 _ _ _) ?_) | (apply zI; refine zP (g2 _ _ _) ?_) | refine Or.inl ?_) <;> conv => whnf) | fail
   obtain ⟨m2, t2, u2, k, ⟨hm2, ht2⟩, hu2, hk2, rfl, rfl⟩ := hd
   refine ⟨rfl, by simp, ?_⟩
   conv => whnf
   have s2 := smT_lens ht2
   have g3 := fun o p o1 => c_implDualPower o p o1 m2 t2 u2 k (by omega) s2.1 s2.2 (by omega)
   have g4 := fun o p o1 => c_specDualPower o p o1 m2 t2 u2 k (by omega) s2.1 s2.2 (by omega)
   unfold dpRes at g3 g4
   have hq2 : rkT m2 t2 ≤ t2.length := rk_le m2 t2
   have htl2 := ht2.1
   by_cases hc2 : elCK m2 t2 u2 k = 0
   · rw [if_pos hc2] at g3 g4
     generalize dpw (rd2 m2 t2) (rd m2 u2) (rkT m2 t2) (k - 1).toNat = Y at *
     repeat' first | ((first | (apply zI; refine zP (g3 _ _ _) ?_) | (apply zI; refine zP (g4 _ _ _) ?_) | (apply zI; refine zP (r5 _ _ _ _) ?_) | (apply zI; refine zP (c_rows5N) ?_) | (apply zI; refine zP (c_likeInts _ _ _ _ (by first | omega | (simp; omega)) (by first | omega | (simp; omega))) ?_) | (refine And.intro (fun h => ?_) (fun h => ?_) <;> (try simp only [cnt1, ints_length, rows_length, Tb_length, L_length, byts_length] at h) <;> first | (exfalso; first | omega | exact h trivial | (cases h; done)) | skip) | refine zV ?_ | (apply zI; refine zP vObt ?_) | (apply zI; refine zP vObx ?_) | refine Or.inl ?_) <;> conv => whnf) | fail
     all_goals first | (refine Stg.weak (dua_18 hW l hb hl h0) (wkA (kp := 0) []))
   · rw [if_neg hc2] at g3 g4
     generalize elCK m2 t2 u2 k = c8 at *
     repeat' first | ((first | (apply zI; refine zP (g3 _ _ _) ?_) | (apply zI; refine zP (g4 _ _ _) ?_) | (apply zI; refine zP (r5 _ _ _ _) ?_) | (apply zI; refine zP (c_rows5N) ?_) | (apply zI; refine zP (c_likeNil) ?_) | (refine And.intro (fun h => ?_) (fun h => ?_) <;> (try simp only [cnt1, ints_length, rows_length, Tb_length, L_length, byts_length] at h) <;> first | (exfalso; first | omega | exact h trivial | (cases h; done)) | skip) | refine zV ?_ | (apply zI; refine zP vObt ?_) | (apply zI; refine zP vObx ?_) | refine Or.inl ?_) <;> conv => whnf) | fail
     all_goals first | (refine Stg.weak (dua_18 hW l hb hl h0) (wkA (kp := 0) []))
theorem c_FnDuals (hW : Wei) (l : List Nat) (hb : ∀ b ∈ l, b < 256) (hl : l.length ≤ 9223372036854775807) : PureCall Tryz.prog 8 [.list false 1 (byts l)] (dbool true) := by
 have hbig := c_big false l hl
 by_cases h0 : 4096 < l.length
 · rw [show decide (4096 < l.length) = true by simp [h0]] at hbig
   refine pure_of_stg Tryz.f8 Tryz.func8 rfl rfl Tryz.tabOk ?_
   refine stg_cut Tryz.tabOk mixOrd _ 0 10 ?_
   conv => whnf
   repeat' first | ((first | refine z0 ?_ | (apply zI; refine zP (hbig) ?_) | (refine And.intro (fun h => ?_) (fun h => ?_) <;> (try simp only [cnt1, ints_length, rows_length, Tb_length, L_length, byts_length] at h) <;> first | (exfalso; first | omega | exact h trivial | (cases h; done)) | skip) | refine Or.inl ?_) <;> conv => whnf) | fail
 · rw [show decide (4096 < l.length) = false by simp [h0]] at hbig
   refine pure_of_stg Tryz.f8 Tryz.func8 rfl rfl Tryz.tabOk ?_
   refine stg_cut Tryz.tabOk mixOrd _ 0 10 ?_
   conv => whnf
   repeat' first | (refine borA [] (c_DrawMultiplyDual hW false l hb (by omega)) (fun d rt' hd => ?_)) | ((first | (apply zI; refine zP (hbig) ?_) | (refine And.intro (fun h => ?_) (fun h => ?_) <;> (try simp only [cnt1, ints_length, rows_length, Tb_length, L_length, byts_length] at h) <;> first | (exfalso; first | omega | exact h trivial | (cases h; done)) | skip) | refine Or.inl ?_) <;> conv => whnf) | fail
   obtain ⟨m, t, u, v, ⟨hm, ht⟩, hu, hv, rfl, rfl⟩ := hd
   refine ⟨rfl, by simp, ?_⟩
   conv => whnf
   have s1 := smT_lens ht
   have htl := ht.1
   have hq : rkT m t ≤ t.length := rk_le m t
   have g1 := fun o p o1 o2 => c_implMultiplyDual o p o1 o2 m t u v s1.1 s1.2 (by omega) (by omega)
   have g2 := fun o p o1 o2 => c_specMultiplyDual o p o1 o2 m t u v s1.1 s1.2 (by omega) (by omega)
   by_cases hc : elC2 m t u v = 0
   · obtain ⟨hk, ⟨hu1, hu2⟩, hv1, hv2⟩ := elC2_0 hc
     obtain ⟨hmd, hqq, hL, hb2⟩ := kern_ok hk
     rw [md_ok hk hu1 hu2 hv1 hv2] at g1 g2
     have hA := md_assoc (u := u) (v := v) hk
     have hP2 := nums_L' hmd (rkT m t) (duQ (rd2 m t) (rkT m t) (rd m u) (rd m v))
     have hS2 := nums_L' hmd (rkT m t) (duQ (rd2 m t) (rkT m t) (rd m v) (rd m v))
     have h12 := nums_L' hmd (rkT m t) (1 : PS (Zm m))
     have g3 := fun o p o1 o2 => c_implMultiplyDual o p o1 o2 m t v u s1.1 s1.2 (by omega) (by omega)
     rw [md_ok hk hv1 hv2 hu1 hu2, md_comm hk] at g3
     have g4 := fun o p o1 o2 => c_implMultiplyDual o p o1 o2 m t (L (rkT m t) (duQ (rd2 m t) (rkT m t) (rd m u) (rd m v))) v s1.1 s1.2 (by simp; omega) (by omega)
     rw [md_ok hk (by simp) hP2 hv1 hv2, hA] at g4
     have g5 := fun o p o1 o2 => c_implMultiplyDual o p o1 o2 m t v v s1.1 s1.2 (by omega) (by omega)
     rw [md_ok hk hv1 hv2 hv1 hv2] at g5
     have g6 := fun o p o1 o2 => c_implMultiplyDual o p o1 o2 m t u (L (rkT m t) (duQ (rd2 m t) (rkT m t) (rd m v) (rd m v))) s1.1 s1.2 (by omega) (by simp; omega)
     rw [md_ok hk hu1 hu2 (by simp) hS2] at g6
     have g7 := fun o p o1 o2 => c_implMultiplyDual o p o1 o2 m t (L (rkT m t) (1 : PS (Zm m))) u s1.1 s1.2 (by simp; omega) (by omega)
     rw [md_ok hk (by simp) h12 hu1 hu2, LD, md_unit hk hu1 hu2, ← unit_L hmd (by omega)] at g7
     have g8 := fun o p o1 => c_implDualPower o p o1 m t v 2 (by omega) s1.1 s1.2 (by omega)
     rw [dp_two hk hv1 hv2] at g8
     simp only [LD] at g1 g2 g3 g4 g5 g6 g7 g8
     obtain ⟨Z, hZ⟩ : ∃ Z, Z = L (rkT m t) (duQ (rd2 m t) (rkT m t) (rd m u) (rd m v)) := ⟨_, rfl⟩
     obtain ⟨Y, hY⟩ : ∃ Y, Y = L (rkT m t) (duQ (rd2 m t) (rkT m t) (rd m v) (rd m v)) := ⟨_, rfl⟩
     rw [← hZ] at g1 g2 g3
     rw [← hY] at g5 g8
     rw [← hZ, ← hY] at g4
     rw [← hY] at g6
     have hZl : Z.length = rkT m t := by rw [hZ]; simp
     have hYl : Y.length = rkT m t := by rw [hY]; simp
     obtain ⟨X, hX⟩ : ∃ X, X = L (rkT m t) (duQ (rd2 m t) (rkT m t) (rd m u) (rd m Y)) := ⟨_, rfl⟩
     have hXl : X.length = rkT m t := by rw [hX]; simp
     rw [← hX] at g4 g6
     rw [← hu1] at g7
     clear hX hZ hY hA hP2 hS2 h12
     repeat' first | ((first | (apply zI; refine zP (g1 _ _ _ _) ?_) | (apply zI; refine zP (g2 _ _ _ _) ?_) | (apply zI; refine zP (g3 _ _ _ _) ?_) | (apply zI; refine zP (g4 _ _ _ _) ?_) | (apply zI; refine zP (g5 _ _ _ _) ?_) | (apply zI; refine zP (g6 _ _ _ _) ?_) | (apply zI; refine zP (g7 _ _ _ _) ?_) | (apply zI; refine zP (g8 _ _ _) ?_) | (apply zI; refine zP (c_likeInts _ _ _ _ (by first | omega | (simp; omega)) (by first | omega | (simp; omega))) ?_) | (refine And.intro (fun h => ?_) (fun h => ?_) <;> (try simp only [cnt1, ints_length, rows_length, Tb_length, L_length, byts_length] at h) <;> first | (exfalso; first | omega | exact h trivial | (cases h; done)) | skip) | refine zV ?_ | (apply zI; refine zP vObx ?_) | refine Or.inl ?_) <;> conv => whnf) | fail
     all_goals first | (refine Stg.weak (dua_10 hW l hb hl h0) (wkA (kp := 0) []))
   · unfold mdRes at g1 g2
     rw [if_neg hc] at g1 g2
     generalize elC2 m t u v = c9 at *
     repeat' first | ((first | refine z0 ?_ | (apply zI; refine zP (g1 _ _ _ _) ?_) | (apply zI; refine zP (g2 _ _ _ _) ?_) | (apply zI; refine zP (c_likeNil) ?_) | (refine And.intro (fun h => ?_) (fun h => ?_) <;> (try simp only [cnt1, ints_length, rows_length, Tb_length, L_length, byts_length] at h) <;> first | (exfalso; first | omega | exact h trivial | (cases h; done)) | skip) | refine Or.inl ?_) <;> conv => whnf) | fail
     all_goals first | (refine Stg.weak (dua_10 hW l hb hl h0) (wkA (kp := 0) []))
end Go.Proofs
