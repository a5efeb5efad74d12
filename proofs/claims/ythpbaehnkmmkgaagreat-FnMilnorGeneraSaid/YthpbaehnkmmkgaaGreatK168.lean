/- The law of Milnor's values and of Hirzebruch's series. -/
-- tables
-- rec
import Derived.Test.YthpbaehnkmmkgaaGreatK183
import Derived.Test.YthpbaehnkmmkgaaGreatK167
import Derived.Test.YthpbaehnkmmkgaaGreatK125
import Derived.Test.YthpbaehnkmmkgaaGreatK148
import Derived.Test.YthpbaehnkmmkgaaGreatVm43
namespace Go.Proofs
open Go Go.Vm Go.Fg Go.Fg.PS
set_option maxRecDepth 100000
set_option maxHeartbeats 40000000
set_option linter.unusedSimpArgs false
set_option linter.unusedVariables false
variable {m : Int}
theorem codeH_0 {m d y : Int} (h : codeH m d y = 0) : Md m ∧ (0 ≤ y ∧ y < m) ∧ (1 ≤ d ∧ d ≤ 9) ∧ unitsB m (d.toNat + 1) = true := by
  unfold codeH at h
  split at h
  · rename_i h1
    obtain ⟨h2, h3⟩ := codeN_1 h1
    split at h
    · rename_i h4
      split at h
      · rename_i h5
        exact ⟨h2, h3, by simpa [inB] using h4, h5⟩
      · omega
    · omega
  · rename_i h1; exact absurd h h1
theorem geo_sm (z : Zm m) : ∀ k, geo z k = sm (k + 1) fun i => pw z i
  | 0 => by rw [sm_succ, sm_zero', CR.zero_add]; rfl
  | k + 1 => by rw [sm_succ, ← geo_sm z k]; rfl
theorem milB_0 {N : Nat} {i j : Int} (h : milB ((N : Int) - 1 + 1) i j = true) : 0 ≤ i ∧ 0 ≤ j ∧ 1 ≤ i + j ∧ i + j ≤ N := by
  simp only [milB, inB, Bool.and_eq_true, decide_eq_true_eq] at h
  omega
def milQ (N I J : Nat) (P : PS (Zm m)) (F : PS (PS (Zm m))) (x y : Nat) : Zm m := if x < N ∧ y < N then P.c x * P.c y * (F.c (I - x)).c (J - y) else 0
theorem milQ_eq {N I J : Nat} (hIJ : 1 ≤ I + J ∧ I + J ≤ N) (P : PS (Zm m)) {F : PS (PS (Zm m))} (hF : (F.c 0).c 0 = 0) {x y : Nat} (hx : x ≤ I) (hy : y ≤ J) : milQ N I J P F x y = P.c x * P.c y * (F.c (I - x)).c (J - y) := by
  unfold milQ
  by_cases h : x < N ∧ y < N
  · rw [if_pos h]
  · rw [if_neg h, show I - x = 0 by omega, show J - y = 0 by omega, hF, Go.Fg.mul_zero]
theorem c_plane5Z' : PureCall Tryz.prog 48 [zplD', zplD'] (dbool true) := by
  refine pure_of_vcR Tryz.tabOk mixOrd Tryz.func48 rfl rfl ?_
  conv => whnf
  repeat' first | ((first | refine z0 ?_ | (apply zI; refine zP (c_rows5Nil) ?_) | (refine And.intro (fun h => ?_) (fun h => ?_) <;> (try simp only [cnt1, ints_length, rows_length, Tb_length, L_length, byts_length] at h) <;> first | (exfalso; first | omega | exact h trivial | (cases h; done)) | skip) | refine zS ?_ | refine zV ?_ | (apply zI; refine zP vObt ?_) | (apply zI; refine zP vObx ?_) | refine zA ?_ | refine Alt.fst ?_ | refine Or.inl ?_) <;> conv => whnf) | fail
theorem mil_C (l : List Nat) (hb : ∀ b ∈ l, b < 256) (hl : l.length ≤ 9223372036854775807) (h0 : ¬ 4096 < l.length) : Stg Tryz.prog 0 Tryz.f4 17 (retQ Tryz.tab Tryz.f4 (dbool true)) (fewS Tryz.f4.ntmps [(0, .list false 1 (byts l))] []) := by
  refine stg_end Tryz.tabOk mixOrd _ 17 ?_
  conv => whnf
  repeat' first | (refine borA [] (c_DrawProjectiveGenus false l hb (by omega)) (fun d rt' hd => ?_)) | ((first | refine z0 ?_ | (refine And.intro (fun h => ?_) (fun h => ?_) <;> (try simp only [cnt1, ints_length, rows_length, Tb_length, L_length, byts_length] at h) <;> first | (exfalso; first | omega | exact h trivial | (cases h; done)) | skip) | refine zS ?_ | refine zV ?_ | (apply zI; refine zP vObt ?_) | (apply zI; refine zP vObx ?_) | refine zA ?_ | refine Alt.fst ?_ | refine Or.inl ?_) <;> conv => whnf) | fail
  obtain ⟨m, us, n, hm, hu, hn, rfl, rfl⟩ := hd
  refine ⟨rfl, by simp, ?_⟩
  conv => whnf
  have g1 := fun o => c_implProjectiveGenus o m us (by omega) n
  have g2 := fun o => c_specProjectiveGenus o m us (by omega) n
  generalize (if dimCode m us (inB n 0 ((us.length : Int) - 1)) = 0 then ((pw (rd m us) (n.toNat + 1)).c n.toNat).val else 0) = v at g1 g2
  generalize dimCode m us (inB n 0 ((us.length : Int) - 1)) = c at g1 g2
  repeat' first | (refine borA [] (c_DrawLawOfGenus false l hb (by omega)) (fun d rt' hd => ?_)) | ((first | refine z0 ?_ | (apply zI; refine zP (g1 _) ?_) | (apply zI; refine zP (g2 _) ?_) | (refine And.intro (fun h => ?_) (fun h => ?_) <;> (try simp only [cnt1, ints_length, rows_length, Tb_length, L_length, byts_length] at h) <;> first | (exfalso; first | omega | exact h trivial | (cases h; done)) | skip) | refine zS ?_ | refine zV ?_ | (apply zI; refine zP vObt ?_) | (apply zI; refine zP vObx ?_) | refine zA ?_ | refine Alt.fst ?_ | refine Or.inl ?_) <;> conv => whnf) | fail
  obtain ⟨m2, us2, hm2, hu2, rfl, rfl⟩ := hd
  refine ⟨rfl, by simp, ?_⟩
  conv => whnf
  have g3 := fun o => c_implLawOfGenus o m2 us2 (by omega)
  have g4 := fun o => c_specLawOfGenus o m2 us2 (by omega)
  by_cases hc : shortCode m2 us2 = 0
  · rw [plRes', if_pos hc] at g3 g4
    have hN := serB_len (charB_ser (shortCode_0 hc).1)
    generalize lawG (us2.length + 1) (logG (rd m2 us2)) = G at g3 g4
    have g5 := fun o p o' p' => c_plane5 (m := m2) o p o' p' (us2.length + 1) (by omega) G G
    rw [show eqTB (us2.length + 1) G G = true by simp [eqTB, eqT]] at g5
    simp only [PlD] at g3 g4 g5
    repeat' first | ((first | refine z0 ?_ | (apply zI; refine zP (g3 _) ?_) | (apply zI; refine zP (g4 _) ?_) | (apply zI; refine zP (g5 _ _ _ _) ?_) | (refine And.intro (fun h => ?_) (fun h => ?_) <;> (try simp only [cnt1, ints_length, rows_length, Tb_length, L_length, byts_length] at h) <;> first | (exfalso; first | omega | exact h trivial | (cases h; done)) | skip) | refine zS ?_ | refine zV ?_ | (apply zI; refine zP vObt ?_) | (apply zI; refine zP vObx ?_) | refine zA ?_ | refine Alt.fst ?_ | refine Or.inl ?_) <;> conv => whnf) | fail
    all_goals first | rfl | (exfalso; simp_all; done)
  · rw [plRes', if_neg hc] at g3 g4
    repeat' first | ((first | refine z0 ?_ | (apply zI; refine zP (g3 _) ?_) | (apply zI; refine zP (g4 _) ?_) | (apply zI; refine zP (c_plane5Z') ?_) | (refine And.intro (fun h => ?_) (fun h => ?_) <;> (try simp only [cnt1, ints_length, rows_length, Tb_length, L_length, byts_length] at h) <;> first | (exfalso; first | omega | exact h trivial | (cases h; done)) | skip) | refine zS ?_ | refine zV ?_ | (apply zI; refine zP vObt ?_) | (apply zI; refine zP vObx ?_) | refine zA ?_ | refine Alt.fst ?_ | refine Or.inl ?_) <;> conv => whnf) | fail
    all_goals first | rfl | (exfalso; simp_all; done)
theorem mil_B (l : List Nat) (hb : ∀ b ∈ l, b < 256) (hl : l.length ≤ 9223372036854775807) (h0 : ¬ 4096 < l.length) : Stg Tryz.prog 0 Tryz.f4 10 (retQ Tryz.tab Tryz.f4 (dbool true)) (fewS Tryz.f4.ntmps [(0, .list false 1 (byts l))] []) := by
  refine stg_cut Tryz.tabOk mixOrd _ 10 7 ?_
  conv => whnf
  repeat' first | (refine borA [] (c_DrawHirzebruchSeries false l hb (by omega)) (fun d rt' hd => ?_)) | ((first | refine z0 ?_ | (refine And.intro (fun h => ?_) (fun h => ?_) <;> (try simp only [cnt1, ints_length, rows_length, Tb_length, L_length, byts_length] at h) <;> first | (exfalso; first | omega | exact h trivial | (cases h; done)) | skip) | refine zS ?_ | refine zV ?_ | (apply zI; refine zP vObt ?_) | (apply zI; refine zP vObx ?_) | refine zA ?_ | refine Alt.fst ?_ | refine Or.inl ?_) <;> conv => whnf) | fail
  obtain ⟨m, d9, y, hm, hd9, hy, rfl, rfl⟩ := hd
  refine ⟨rfl, by simp, ?_⟩
  conv => whnf
  have g1 := c_implHirzebruchSeries m d9 y (by omega) (by omega) (by omega)
  have g2 := c_specHirzebruchSeries m d9 y (by omega) (by omega) (by omega)
  by_cases hc : codeH m d9 y = 0
  · obtain ⟨hmd, hy2, hd2, hun⟩ := codeH_0 hc
    have hm1 := hmd.1
    have hm2 := hmd.2
    rw [serRes, if_pos hc] at g1 g2
    obtain ⟨N, hN⟩ : ∃ N, N = d9.toNat + 1 := ⟨_, rfl⟩
    rw [← hN] at g1 g2 hun
    obtain ⟨hr0, hag⟩ := hir_geo hmd y (N := N) (by omega) hun
    have g3 := fun o => c_implProjGenY o hmd N (by omega) _ hr0
    rw [L_congr hag] at g3
    generalize hirR m y = R at g1 g2 g3
    obtain ⟨z, hz⟩ : ∃ z, z = -Zm.mk m y := ⟨_, rfl⟩
    rw [← hz] at g3
    have hzv : (m - y).tmod m = z.val := by
      rw [hz]
      exact Zm.tmod_val (by omega) (by rw [Zm.mk_sub, Zm.mk_self, Go.Fg.sub_def, CR.zero_add])
    have hge : ∀ k, (⟨geo z⟩ : PS (Zm m)).c k = sm (k + 1) fun i => pw z i := fun k => geo_sm z k
    generalize (⟨geo z⟩ : PS (Zm m)) = GE at g3 hge
    simp only [SerD] at g1 g2 g3
    repeat' first | ((first | refine z0 ?_ | (apply zI; refine zP (g1) ?_) | (apply zI; refine zP (g2) ?_) | (apply zI; refine zP (g3 _) ?_) | (apply zI; refine zP (c_series5 _ _ _ _ _ _ (by first | omega | (simp; omega)) (by first | omega | (simp; omega))) ?_) | (refine And.intro (fun h => ?_) (fun h => ?_) <;> (try simp only [cnt1, ints_length, rows_length, Tb_length, L_length, byts_length] at h) <;> first | (exfalso; first | omega | exact h trivial | (cases h; done)) | skip) | refine zS ?_ | refine zV ?_ | (apply zI; refine zP vObt ?_) | (apply zI; refine zP vObx ?_) | refine zA ?_ | refine Alt.fst ?_ | refine Or.inl ?_) <;> conv => whnf) | fail
    clear g1 g2 g3 hag hr0
    refine loop_cutR Tryz.tabOk mixOrd 42 (α := Nat) (fun k => [(28, dint (sm k fun i => pw z i).val), (29, dint (pw z k).val), (30, dint k)]) (fun k => []) (fun k => k ≤ N) (fun k => N - k) (0) ?_ ?_ ?_
    · omega
    · conv => whnf
      first | refine WeakS.autoR ?_ | refine Weak.autoR ?_
      conv => whnf
      repeat' ((first | refine z1 ?_ | refine z2 ?_ | refine zV ?_ | refine And.intro vRepl ?_ | refine And.intro vReplL ?_ | refine And.intro ?_ ?_ | exact trivial) <;> try (conv => whnf))
      all_goals first | exact (Zm.val_zero).symm | exact (Zm.val_one (by omega)).symm
    intro k hk
    conv => whnf
    by_cases hkN : k < N
    · have hgk : (GE.c k).val = (((sm k fun i => pw z i).val + (pw z k).val).tmod m) := by rw [hge, sm_succ, tm_add hmd]
      have hzr := Zm.val_range hmd.pos z
      have hp := vMulV hmd (pw z k) z
      have hpr := Zm.val_range hmd.pos (pw z k)
      have hsr := Zm.val_range hmd.pos (sm k fun i => pw z i)
      repeat' first | ((first | refine z0 ?_ | (refine And.intro (fun h => ?_) (fun h => ?_) <;> (try simp only [cnt1, ints_length, rows_length, Tb_length, L_length, byts_length] at h) <;> first | (exfalso; first | omega | exact h trivial | (cases h; done)) | skip) | refine zS ?_ | refine zV ?_ | (apply zI; refine zP vObt ?_) | (apply zI; refine zP vObx ?_) | refine zA ?_ | refine And.intro ((inR64 (by omega) (by omega))) ?_ | (refine And.intro ((by rw [hzv]; exact hp)) ?_) | refine Alt.fst ?_ | refine Or.inl ?_) <;> conv => whnf) | fail
      refine Exists.intro (k + 1) (And.intro (by omega) (And.intro (by omega) ?_))
      first | refine WeakS.autoR ?_ | refine Weak.autoR ?_
      conv => whnf
      repeat' ((first | refine z1 ?_ | refine z2 ?_ | refine zV ?_ | refine And.intro vRepl ?_ | refine And.intro vReplL ?_ | refine And.intro ?_ ?_ | exact trivial) <;> try (conv => whnf))
      all_goals first | rfl | exact tm_add hmd _ _ | (rw [hzv]; exact tm_mul hmd _ _) | (simp; done) | skip
    · repeat' first | ((first | refine z0 ?_ | (refine And.intro (fun h => ?_) (fun h => ?_) <;> (try simp only [cnt1, ints_length, rows_length, Tb_length, L_length, byts_length] at h) <;> first | (exfalso; first | omega | exact h trivial | (cases h; done)) | skip) | refine zS ?_ | refine zV ?_ | (apply zI; refine zP vObt ?_) | (apply zI; refine zP vObx ?_) | refine zA ?_ | refine Alt.fst ?_ | refine Or.inl ?_) <;> conv => whnf) | fail
      all_goals first | (refine Stg.weak (mil_C l hb hl h0) (wkA (kp := 0) []))
  · rw [serRes, if_neg hc] at g1 g2
    repeat' first | ((first | refine z0 ?_ | (apply zI; refine zP (g1) ?_) | (apply zI; refine zP (g2) ?_) | (apply zI; refine zP (c_series5Nil) ?_) | (refine And.intro (fun h => ?_) (fun h => ?_) <;> (try simp only [cnt1, ints_length, rows_length, Tb_length, L_length, byts_length] at h) <;> first | (exfalso; first | omega | exact h trivial | (cases h; done)) | skip) | refine zS ?_ | refine zV ?_ | (apply zI; refine zP vObt ?_) | (apply zI; refine zP vObx ?_) | refine zA ?_ | refine Alt.fst ?_ | refine Or.inl ?_) <;> conv => whnf) | fail
    all_goals first | (refine Stg.weak (mil_C l hb hl h0) (wkA (kp := 0) []))
theorem c_FnMilnorGenera (l : List Nat) (hb : ∀ b ∈ l, b < 256) (hl : l.length ≤ 9223372036854775807) : PureCall Tryz.prog 4 [.list false 1 (byts l)] (dbool true) := by
  have hbig := c_big false l hl
  by_cases h0 : 4096 < l.length
  · rw [show decide (4096 < l.length) = true by simp [h0]] at hbig
    refine pure_of_stg Tryz.f4 Tryz.func4 rfl rfl Tryz.tabOk ?_
    refine stg_cut Tryz.tabOk mixOrd _ 0 10 ?_
    conv => whnf
    repeat' first | ((first | refine z0 ?_ | (apply zI; refine zP (hbig) ?_) | (refine And.intro (fun h => ?_) (fun h => ?_) <;> (try simp only [cnt1, ints_length, rows_length, Tb_length, L_length, byts_length] at h) <;> first | (exfalso; first | omega | exact h trivial | (cases h; done)) | skip) | refine zS ?_ | refine zV ?_ | (apply zI; refine zP vObt ?_) | (apply zI; refine zP vObx ?_) | refine zA ?_ | refine Alt.fst ?_ | refine Or.inl ?_) <;> conv => whnf) | fail
  · rw [show decide (4096 < l.length) = false by simp [h0]] at hbig
    refine pure_of_stg Tryz.f4 Tryz.func4 rfl rfl Tryz.tabOk ?_
    refine stg_cut Tryz.tabOk mixOrd _ 0 10 ?_
    conv => whnf
    repeat' first | (refine borA [] (c_DrawMilnorGenus false l hb (by omega)) (fun d rt' hd => ?_)) | ((first | refine z0 ?_ | (apply zI; refine zP (hbig) ?_) | (refine And.intro (fun h => ?_) (fun h => ?_) <;> (try simp only [cnt1, ints_length, rows_length, Tb_length, L_length, byts_length] at h) <;> first | (exfalso; first | omega | exact h trivial | (cases h; done)) | skip) | refine zS ?_ | refine zV ?_ | (apply zI; refine zP vObt ?_) | (apply zI; refine zP vObx ?_) | refine zA ?_ | refine Alt.fst ?_ | refine Or.inl ?_) <;> conv => whnf) | fail
    obtain ⟨m, us, i, j, hm, hu, hi, hj, rfl, rfl⟩ := hd
    refine ⟨rfl, by simp, ?_⟩
    conv => whnf
    have g1 := fun o => c_implMilnorGenus o m us (by omega) i j
    have g2 := fun o => c_specMilnorGenus o m us (by omega) i j
    by_cases hc : dimCode m us (milB ((us.length : Int) - 1 + 1) i j) = 0
    · obtain ⟨hch, hdim⟩ := dimCode_0 hc
      obtain ⟨hi0, hj0, hij1, hij2⟩ := milB_0 hdim
      have hs := charB_ser hch
      have hmd := serB_md hs
      have hN := serB_len hs
      rw [hc, if_pos rfl] at g1 g2
      by_cases h11 : us.length = 11
      · repeat' first | ((first | refine z0 ?_ | (apply zI; refine zP (g1 _) ?_) | (apply zI; refine zP (g2 _) ?_) | (refine And.intro (fun h => ?_) (fun h => ?_) <;> (try simp only [cnt1, ints_length, rows_length, Tb_length, L_length, byts_length] at h) <;> first | (exfalso; first | omega | exact h trivial | (cases h; done)) | skip) | refine zS ?_ | refine zV ?_ | (apply zI; refine zP vObt ?_) | (apply zI; refine zP vObx ?_) | refine zA ?_ | refine Alt.fst ?_ | refine Or.inl ?_) <;> conv => whnf) | fail
        all_goals first | (refine Stg.weak (mil_B l hb hl h0) (wkA (kp := 0) []))
      · have hm1 := hmd.1
        have hm2 := hmd.2
        have hq0 := charB_0 hch
        obtain ⟨I, rfl⟩ := Int.eq_ofNat_of_zero_le hi0
        obtain ⟨J, rfl⟩ := Int.eq_ofNat_of_zero_le hj0
        simp only [Int.toNat_natCast] at g1 g2
        have g3 := fun o => c_implLawOfGenus o m us (by omega)
        rw [show shortCode m us = 0 by unfold shortCode; rw [if_pos hch, if_neg h11], plRes', if_pos rfl] at g3
        have g4 := fun o => c_implProjectiveGenera o m us (by omega) hch
        have hLw := gen_lwN hmd hq0 (N := us.length + 1) (by omega)
        have g5 := fun o p => c_IsLaw o p m (Tb (us.length + 1) (lawG (us.length + 1) (logG (rd m us)))) (by first | omega | (simp; omega)) (lensOk_Tb (by omega) _)
        rw [lawB_of hmd (by omega) (lawP_of hLw)] at g5
        have hz0 := hLw.z0
        have hmv := gen_milV hmd hq0 (N := us.length + 1) (i := I) (j := J) (by omega)
        obtain ⟨N, hNN⟩ : ∃ N, us.length = N := ⟨_, rfl⟩
        rw [hNN] at g3 g4 g5 hmv hLw hz0 hN h11 hij2
        generalize lawG (N + 1) (logG (rd m us)) = F at g3 g5 hmv hz0 hLw
        generalize projS (rd m us) = P at g4 hmv
        have g6 := fun o p (x y : Nat) (hx : x ≤ I) (hy : y ≤ J) => c_implCoefficientOf hmd o p (N + 1) (by omega) F (I - x) (J - y) (by omega) (I := (I : Int) - x) (J := (J : Int) - y) (by omega) (by omega)
        have hmq : milV (rd m us) I J = sm (I + 1) fun x => sm (J + 1) fun y => milQ N I J P F x y := by
          rw [hmv]
          exact sm_congr (fun x hx => sm_congr (fun y hy => (milQ_eq (by omega) P hz0 (by omega) (by omega)).symm))
        rw [hmq] at g1 g2
        clear hmq hmv hLw
        simp only [PlD] at g3 g5 g6
        repeat' first | ((first | refine z0 ?_ | (apply zI; refine zP (g1 _) ?_) | (apply zI; refine zP (g2 _) ?_) | (apply zI; refine zP (g3 _) ?_) | (apply zI; refine zP (g4 _) ?_) | (apply zI; refine zP (g5 _ _) ?_) | (refine And.intro (fun h => ?_) (fun h => ?_) <;> (try simp only [cnt1, ints_length, rows_length, Tb_length, L_length, byts_length] at h) <;> first | (exfalso; first | omega | exact h trivial | (cases h; done)) | skip) | refine zS ?_ | refine zV ?_ | (apply zI; refine zP vObt ?_) | (apply zI; refine zP vObx ?_) | refine zA ?_ | refine Alt.fst ?_ | refine Or.inl ?_) <;> conv => whnf) | fail
        refine loop_cutR Tryz.tabOk mixOrd 42 (α := Nat) (fun x => [(14, dint (sm x fun x => sm (J + 1) fun y => milQ N I J P F x y).val), (15, dint x)]) (fun x => []) (fun x => x ≤ I + 1) (fun x => I + 1 - x) (0) ?_ ?_ ?_
        · omega
        · conv => whnf
          first | refine WeakS.autoR ?_ | refine Weak.autoR ?_
          conv => whnf
          repeat' ((first | refine z1 ?_ | refine z2 ?_ | refine zV ?_ | refine And.intro vRepl ?_ | refine And.intro vReplL ?_ | refine And.intro ?_ ?_ | exact trivial) <;> try (conv => whnf))
          all_goals exact (Zm.val_zero).symm
        intro x hx
        conv => whnf
        by_cases hxI : x < I + 1
        · repeat' first | ((first | refine z0 ?_ | (refine And.intro (fun h => ?_) (fun h => ?_) <;> (try simp only [cnt1, ints_length, rows_length, Tb_length, L_length, byts_length] at h) <;> first | (exfalso; first | omega | exact h trivial | (cases h; done)) | skip) | refine zS ?_ | refine zV ?_ | (apply zI; refine zP vObt ?_) | (apply zI; refine zP vObx ?_) | refine zA ?_ | refine Alt.fst ?_ | refine Or.inl ?_) <;> conv => whnf) | fail
          refine loop_cutR Tryz.tabOk mixOrd 42 (α := Nat) (fun y => [(14, dint ((sm x fun x => sm (J + 1) fun y => milQ N I J P F x y) + sm y fun y => milQ N I J P F x y).val), (16, dint y)]) (fun y => []) (fun y => y ≤ J + 1) (fun y => J + 1 - y) (0) ?_ ?_ ?_
          · omega
          · conv => whnf
            first | refine WeakS.autoR ?_ | refine Weak.autoR ?_
            conv => whnf
            repeat' ((first | refine z1 ?_ | refine z2 ?_ | refine zV ?_ | refine And.intro vRepl ?_ | refine And.intro vReplL ?_ | refine And.intro ?_ ?_ | exact trivial) <;> try (conv => whnf))
            all_goals (rw [sm_zero', Go.Fg.add_zero])
          intro y hy
          conv => whnf
          by_cases hyJ : y < J + 1
          · have g7 := fun o p => g6 o p x y (by omega) (by omega)
            have hS : ∀ v : Zm m, v = milQ N I J P F x y → ((sm x fun x => sm (J + 1) fun y => milQ N I J P F x y) + sm y fun y => milQ N I J P F x y) + v = (sm x fun x => sm (J + 1) fun y => milQ N I J P F x y) + sm (y + 1) fun y => milQ N I J P F x y := fun v hv => by rw [hv, sm_succ, CR.add_assoc]
            generalize ((sm x fun x => sm (J + 1) fun y => milQ N I J P F x y) + sm y fun y => milQ N I J P F x y) = T at hS ⊢
            have hb4 := Zm.val_range hmd.pos T
            by_cases hxN : x < N
            · by_cases hyN : y < N
              · have hT2 := hS _ (show P.c x * P.c y * (F.c (I - x)).c (J - y) = milQ N I J P F x y from (if_pos ⟨hxN, hyN⟩).symm)
                have e1 := tm_mul hmd (P.c x) (P.c y)
                have r1 := vMulV hmd (P.c x) (P.c y)
                have r2 := vMulV hmd (P.c x * P.c y) ((F.c (I - x)).c (J - y))
                have hb1 := Zm.val_range hmd.pos (P.c x * P.c y)
                have hb2 := Zm.val_range hmd.pos ((F.c (I - x)).c (J - y))
                have hb3 := mul_bd ⟨hb1.1, by omega⟩ ⟨hb2.1, (by omega : ((F.c (I - x)).c (J - y)).val ≤ 10000)⟩
                repeat' first | ((first | refine z0 ?_ | (apply zI; refine zP (g7 _ _) ?_) | (refine And.intro (fun h => ?_) (fun h => ?_) <;> (try simp only [cnt1, ints_length, rows_length, Tb_length, L_length, byts_length] at h) <;> first | (exfalso; first | omega | exact h trivial | (cases h; done)) | skip) | refine zS ?_ | refine zV ?_ | (apply zI; refine zP vObt ?_) | (apply zI; refine zP vObx ?_) | refine zA ?_ | refine And.intro (r1) ?_ | (refine And.intro ((by rw [e1]; exact r2)) ?_) | (refine And.intro ((by rw [e1]; exact inR64 (by omega) (by omega))) ?_) | refine Alt.fst ?_ | refine Or.inl ?_) <;> conv => whnf) | fail
                refine Exists.intro (y + 1) (And.intro (by omega) (And.intro (by omega) ?_))
                first | refine WeakS.autoR ?_ | refine Weak.autoR ?_
                conv => whnf
                repeat' ((first | refine z1 ?_ | refine z2 ?_ | refine zV ?_ | refine And.intro vRepl ?_ | refine And.intro vReplL ?_ | refine And.intro ?_ ?_ | exact trivial) <;> try (conv => whnf))
                all_goals first | rfl | (rw [e1]; exact Zm.tmod_val (by omega) (by rw [← hT2, Zm.mk_add, Zm.mk_mul, Zm.mk_val, Zm.mk_val, Zm.mk_val])) | (simp; done) | skip
              · have hT2 := hS 0 (if_neg (fun h => hyN h.2)).symm
                rw [Go.Fg.add_zero] at hT2
                repeat' first | ((first | refine z0 ?_ | (refine And.intro (fun h => ?_) (fun h => ?_) <;> (try simp only [cnt1, ints_length, rows_length, Tb_length, L_length, byts_length] at h) <;> first | (exfalso; first | omega | exact h trivial | (cases h; done)) | skip) | refine zS ?_ | refine zV ?_ | (apply zI; refine zP vObt ?_) | (apply zI; refine zP vObx ?_) | refine zA ?_ | refine Alt.fst ?_ | refine Or.inl ?_) <;> conv => whnf) | fail
                refine Exists.intro (y + 1) (And.intro (by omega) (And.intro (by omega) ?_))
                first | refine WeakS.autoR ?_ | refine Weak.autoR ?_
                conv => whnf
                repeat' ((first | refine z1 ?_ | refine z2 ?_ | refine zV ?_ | refine And.intro vRepl ?_ | refine And.intro vReplL ?_ | refine And.intro ?_ ?_ | exact trivial) <;> try (conv => whnf))
                all_goals first | rfl | exact congrArg Zm.val hT2 | (simp; done) | skip
            · have hT2 := hS 0 (if_neg (fun h => hxN h.1)).symm
              rw [Go.Fg.add_zero] at hT2
              repeat' first | ((first | refine z0 ?_ | (refine And.intro (fun h => ?_) (fun h => ?_) <;> (try simp only [cnt1, ints_length, rows_length, Tb_length, L_length, byts_length] at h) <;> first | (exfalso; first | omega | exact h trivial | (cases h; done)) | skip) | refine zS ?_ | refine zV ?_ | (apply zI; refine zP vObt ?_) | (apply zI; refine zP vObx ?_) | refine zA ?_ | refine Alt.fst ?_ | refine Or.inl ?_) <;> conv => whnf) | fail
              refine Exists.intro (y + 1) (And.intro (by omega) (And.intro (by omega) ?_))
              first | refine WeakS.autoR ?_ | refine Weak.autoR ?_
              conv => whnf
              repeat' ((first | refine z1 ?_ | refine z2 ?_ | refine zV ?_ | refine And.intro vRepl ?_ | refine And.intro vReplL ?_ | refine And.intro ?_ ?_ | exact trivial) <;> try (conv => whnf))
              all_goals first | rfl | exact congrArg Zm.val hT2 | (simp; done) | skip
          · obtain rfl : y = J + 1 := by omega
            repeat' first | ((first | refine z0 ?_ | (refine And.intro (fun h => ?_) (fun h => ?_) <;> (try simp only [cnt1, ints_length, rows_length, Tb_length, L_length, byts_length] at h) <;> first | (exfalso; first | omega | exact h trivial | (cases h; done)) | skip) | refine zS ?_ | refine zV ?_ | (apply zI; refine zP vObt ?_) | (apply zI; refine zP vObx ?_) | refine zA ?_ | refine Alt.fst ?_ | refine Or.inl ?_) <;> conv => whnf) | fail
            refine Exists.intro (x + 1) (And.intro (by omega) (And.intro (by omega) ?_))
            first | refine WeakS.autoR ?_ | refine Weak.autoR ?_
            conv => whnf
            repeat' ((first | refine z1 ?_ | refine z2 ?_ | refine zV ?_ | refine And.intro vRepl ?_ | refine And.intro vReplL ?_ | refine And.intro ?_ ?_ | exact trivial) <;> try (conv => whnf))
            all_goals first | rfl | (simp; done) | skip
        · obtain rfl : x = I + 1 := by omega
          repeat' first | ((first | refine z0 ?_ | (refine And.intro (fun h => ?_) (fun h => ?_) <;> (try simp only [cnt1, ints_length, rows_length, Tb_length, L_length, byts_length] at h) <;> first | (exfalso; first | omega | exact h trivial | (cases h; done)) | skip) | refine zS ?_ | refine zV ?_ | (apply zI; refine zP vObt ?_) | (apply zI; refine zP vObx ?_) | refine zA ?_ | refine Alt.fst ?_ | refine Or.inl ?_) <;> conv => whnf) | fail
          all_goals first | (refine Stg.weak (mil_B l hb hl h0) (wkA (kp := 0) []))
    · rw [if_neg hc] at g1 g2
      generalize dimCode m us (milB ((us.length : Int) - 1 + 1) i j) = c9 at hc g1 g2
      repeat' first | ((first | refine z0 ?_ | (apply zI; refine zP (g1 _) ?_) | (apply zI; refine zP (g2 _) ?_) | (refine And.intro (fun h => ?_) (fun h => ?_) <;> (try simp only [cnt1, ints_length, rows_length, Tb_length, L_length, byts_length] at h) <;> first | (exfalso; first | omega | exact h trivial | (cases h; done)) | skip) | refine zS ?_ | refine zV ?_ | (apply zI; refine zP vObt ?_) | (apply zI; refine zP vObx ?_) | refine zA ?_ | refine Alt.fst ?_ | refine Or.inl ?_) <;> conv => whnf) | fail
      all_goals first | (refine Stg.weak (mil_B l hb hl h0) (wkA (kp := 0) []))

end Go.Proofs

