/- The law of cocycles, factors of extensions and numbers of laws. -/
-- tables
-- rec
import Derived.Test.YthpbaehnkmmkgaaGreatK160
import Derived.Test.YthpbaehnkmmkgaaGreatK143
import Derived.Test.YthpbaehnkmmkgaaGreatVm43
namespace Go.Proofs
open Go Go.Vm Go.Fg Go.Fg.PS
set_option maxRecDepth 100000
set_option maxHeartbeats 40000000
set_option linter.unusedSimpArgs false
set_option linter.unusedVariables false
variable {m : Int}
theorem exRes_form (m : Int) (t : List (List Int)) (m' : Int) (t' : List (List Int)) : ∃ (x : Nat) (a c : Int), (exC m t m' t' = 0 → FacX m (rd2 m t) (rd2 m t') (t.length - 1) x) ∧ exRes m t m' t' x = .tup [dint a, dint c] := by
  by_cases h : exC m t m' t' = 0
  · obtain ⟨h1, h2, h3⟩ := exC_0 h
    obtain ⟨l1, l2, rfl, hlen⟩ := twC_0 h1
    obtain ⟨⟨hmd, hn⟩, eT, hL⟩ := lawB_Tb l1
    obtain ⟨_, eT', hL'⟩ := lawB_Tb l2
    rw [← hlen] at hL'
    obtain ⟨x, hx⟩ := facX_ex hmd (N := t.length) (by omega) hL hL' h3
    exact ⟨x, x, 0, fun _ => hx, by unfold exRes; rw [if_pos h]⟩
  · exact ⟨0, 0, exC m t m' t', fun e => absurd e h, by unfold exRes; rw [if_neg h]⟩
theorem laz_cocP (m : Int) {n : Nat} (hn : 2 ≤ n ∧ n ≤ 10) : CocP (topP n fun i => Zm.mk m (lazV n i : Nat)) n := by
  have e : ∀ i, i ≤ n → tpc (topP n fun i => Zm.mk m (lazV n i : Nat)) n i = Zm.mk m (lazV n i : Nat) := fun i hi => by
    unfold tpc
    rw [topP_cc, if_pos (by omega)]
  refine ⟨hn.1, fun i j hij => by rw [topP_cc, if_neg (by omega)], fun i hi => ?_, ?_, fun a b ha hb hab => ?_⟩
  · rw [e i hi, e (n - i) (by omega), laz_sym hi]
  · rw [e 0 (by omega)]
    show Zm.mk m ((if 0 < 0 ∧ 0 < n then _ else 0 : Nat) : Int) = 0
    rw [if_neg (by omega)]; rfl
  · unfold cocR
    rw [e (a + b) (by omega), e a (by omega), ← Zm.mk_mul, ← Zm.mk_mul, ← Int.natCast_mul, ← Int.natCast_mul, laz_coc hn ha hb hab]
theorem laz_cocB {m : Int} (hm : Md m) {n : Nat} (hn : 2 ≤ n ∧ n ≤ 10) : cocB m (Tb (n + 1) (topP n fun i => Zm.mk m (lazV n i : Nat))) = true := by
  rw [cocB_yes (plB_TbT hm (by omega) _), Tb_length, Nat.add_sub_cancel]
  exact tr_yes (cocP_Tb (by omega) (laz_cocP m hn))
theorem lazCode_0 {m n : Int} (h : lazCode m n = 0) : Md m ∧ (2 ≤ n ∧ n ≤ 10) := by
  unfold lazCode at h
  split at h
  · rename_i h1
    split at h
    · rename_i h2; exact ⟨by simpa [inB, Md] using h1, by simpa [inB] using h2⟩
    · omega
  · omega
theorem nlV_le {m d : Int} : 0 ≤ nlV m d ∧ nlV m d ≤ 1000000000000000000 := by
  unfold nlV
  split
  · rename_i h
    unfold nlC at h
    split at h
    · rename_i h1
      have hm : 2 ≤ m ∧ m ≤ 10000 := by simpa [inB] using h1
      split at h
      · split at h
        · rename_i x hx
          rw [hx]
          have := clP_le (by omega) (by omega) hx
          simp only [Option.getD_some]; omega
        · omega
      · omega
    · omega
  · omega
theorem eqT_Tb {N : Nat} {f g : PS (PS (Zm m))} (h : Tb N f = Tb N g) : eqT N f g := fun i hi => L_congr (fun j hj => Tb_inj h i j (by omega))
theorem c_plane5Z : PureCall Tryz.prog 48 [zplD, zplD] (dbool true) := by
  refine pure_of_vcR Tryz.tabOk mixOrd Tryz.func48 rfl rfl ?_
  conv => whnf
  repeat' first | ((first | refine z0 ?_ | (apply zI; refine zP (c_rows5Nil) ?_) | (refine And.intro (fun h => ?_) (fun h => ?_) <;> (try simp only [cnt1, ints_length, rows_length, Tb_length, L_length, byts_length] at h) <;> first | (exfalso; first | omega | exact h trivial | (cases h; done)) | skip) | refine zS ?_ | refine zV ?_ | (apply zI; refine zP vObt ?_) | (apply zI; refine zP vObx ?_) | refine zA ?_ | refine Alt.fst ?_ | refine Or.inl ?_) <;> conv => whnf) | fail
theorem coc_D (hW : Wei) (l : List Nat) (hb : ∀ b ∈ l, b < 256) (hl : l.length ≤ 9223372036854775807) (h0 : ¬ 4096 < l.length) : Stg Tryz.prog 0 Tryz.f8 22 (retQ Tryz.tab Tryz.f8 (dbool true)) (fewS Tryz.f8.ntmps [(0, .list false 1 (byts l))] []) := by
  refine stg_end Tryz.tabOk mixOrd _ 22 ?_
  conv => whnf
  repeat' first | (refine borA [] (c_DrawExtensionFactor hW false l hb (by omega)) (fun d rt' hd => ?_)) | ((first | refine z0 ?_ | (refine And.intro (fun h => ?_) (fun h => ?_) <;> (try simp only [cnt1, ints_length, rows_length, Tb_length, L_length, byts_length] at h) <;> first | (exfalso; first | omega | exact h trivial | (cases h; done)) | skip) | refine zS ?_ | refine zV ?_ | (apply zI; refine zP vObt ?_) | (apply zI; refine zP vObx ?_) | refine zA ?_ | refine Alt.fst ?_ | refine Or.inl ?_) <;> conv => whnf) | fail
  obtain ⟨m4, t4, m5, t5, ⟨hm4, ht4⟩, ⟨hm5, ht5⟩, rfl, rfl⟩ := hd
  refine ⟨rfl, by simp, ?_⟩
  conv => whnf
  have s4 := smT_lens ht4
  have s5 := smT_lens ht5
  obtain ⟨x9, a9, c9, hx9, hr9⟩ := exRes_form m4 t4 m5 t5
  have g1 := fun o p o' p' => c_implExtensionFactor o p o' p' m4 t4 s4.1 s4.2 m5 t5 s5.1 s5.2 x9 hx9
  have g2 := fun o p o' p' => c_specExtensionFactor o p o' p' m4 t4 s4.1 s4.2 m5 t5 s5.1 s5.2 x9 hx9
  rw [hr9] at g1 g2
  repeat' first | ((first | refine z0 ?_ | (apply zI; refine zP (g1 _ _ _ _) ?_) | (apply zI; refine zP (g2 _ _ _ _) ?_) | (refine And.intro (fun h => ?_) (fun h => ?_) <;> (try simp only [cnt1, ints_length, rows_length, Tb_length, L_length, byts_length] at h) <;> first | (exfalso; first | omega | exact h trivial | (cases h; done)) | skip) | refine zS ?_ | refine zV ?_ | (apply zI; refine zP vObt ?_) | (apply zI; refine zP vObx ?_) | refine zA ?_ | refine Alt.fst ?_ | refine Or.inl ?_) <;> conv => whnf) | fail
  all_goals (refine dbool_congr ?_; first | rfl | (simp_all []; done) | (simp_all []; omega) | (simp_all []; intros; omega))
theorem coc_C (hW : Wei) (l : List Nat) (hb : ∀ b ∈ l, b < 256) (hl : l.length ≤ 9223372036854775807) (h0 : ¬ 4096 < l.length) : Stg Tryz.prog 0 Tryz.f8 15 (retQ Tryz.tab Tryz.f8 (dbool true)) (fewS Tryz.f8.ntmps [(0, .list false 1 (byts l))] []) := by
  refine stg_cut Tryz.tabOk mixOrd _ 15 7 ?_
  conv => whnf
  repeat' first | (refine borA [] (c_DrawCountLaws false l hb (by omega)) (fun d rt' hd => ?_)) | ((first | refine z0 ?_ | (refine And.intro (fun h => ?_) (fun h => ?_) <;> (try simp only [cnt1, ints_length, rows_length, Tb_length, L_length, byts_length] at h) <;> first | (exfalso; first | omega | exact h trivial | (cases h; done)) | skip) | refine zS ?_ | refine zV ?_ | (apply zI; refine zP vObt ?_) | (apply zI; refine zP vObx ?_) | refine zA ?_ | refine Alt.fst ?_ | refine Or.inl ?_) <;> conv => whnf) | fail
  obtain ⟨k, d9, hk, hd9, rfl, rfl⟩ := hd
  refine ⟨rfl, by simp, ?_⟩
  conv => whnf
  have f1 := c_implCountLaws k d9
  have f2 := c_specCountLaws k d9
  have hv := nlV_le (m := k) (d := d9)
  by_cases hst : nlC k d9 = 0 ∧ 1 < d9
  · obtain ⟨hs1, hs2⟩ := nlV_step hst.1 hst.2
    have f3 := c_implCountLaws k (d9 - 1)
    have hst2 := hst.2
    rw [hst.1] at f1 f2
    rw [hs1] at f3
    have hov : inR .i64 (k * nlV k (d9 - 1)) := by rw [Int.mul_comm, ← hs2]; exact inR64 (by omega) (by omega)
    have hs3 : nlV k d9 = k * nlV k (d9 - 1) := by rw [hs2, Int.mul_comm]
    repeat' first | ((first | refine z0 ?_ | (apply zI; refine zP (f1) ?_) | (apply zI; refine zP (f2) ?_) | (apply zI; refine zP (f3) ?_) | (refine And.intro (fun h => ?_) (fun h => ?_) <;> (try simp only [cnt1, ints_length, rows_length, Tb_length, L_length, byts_length] at h) <;> first | (exfalso; first | omega | exact h trivial | (cases h; done)) | skip) | refine zS ?_ | refine zV ?_ | (apply zI; refine zP vObt ?_) | (apply zI; refine zP vObx ?_) | refine zA ?_ | refine And.intro (hov) ?_ | refine And.intro ((inR64 (by omega) (by omega))) ?_ | refine Alt.fst ?_ | refine Or.inl ?_) <;> conv => whnf) | fail
    all_goals first | (refine Stg.weak (coc_D hW l hb hl h0) (wkA (kp := 0) []))
  · have hst2 : nlC k d9 ≠ 0 ∨ ¬ 1 < d9 := (Classical.em (nlC k d9 = 0)).elim (fun h9 => Or.inr (fun h8 => hst ⟨h9, h8⟩)) Or.inl
    repeat' first | ((first | refine z0 ?_ | (apply zI; refine zP (f1) ?_) | (apply zI; refine zP (f2) ?_) | (refine And.intro (fun h => ?_) (fun h => ?_) <;> (try simp only [cnt1, ints_length, rows_length, Tb_length, L_length, byts_length] at h) <;> first | (exfalso; first | omega | exact h trivial | (cases h; done)) | skip) | refine zS ?_ | refine zV ?_ | (apply zI; refine zP vObt ?_) | (apply zI; refine zP vObx ?_) | refine zA ?_ | refine And.intro ((inR64 (by omega) (by omega))) ?_ | refine Alt.fst ?_ | refine Or.inl ?_) <;> conv => whnf) | fail
    all_goals first | (refine Stg.weak (coc_D hW l hb hl h0) (wkA (kp := 0) []))
theorem coc_B (hW : Wei) (l : List Nat) (hb : ∀ b ∈ l, b < 256) (hl : l.length ≤ 9223372036854775807) (h0 : ¬ 4096 < l.length) : Stg Tryz.prog 0 Tryz.f8 10 (retQ Tryz.tab Tryz.f8 (dbool true)) (fewS Tryz.f8.ntmps [(0, .list false 1 (byts l))] []) := by
  refine stg_cut Tryz.tabOk mixOrd _ 10 5 ?_
  conv => whnf
  repeat' first | (refine borA [] (c_DrawLazardCocycle false l hb (by omega)) (fun d rt' hd => ?_)) | ((first | refine z0 ?_ | (refine And.intro (fun h => ?_) (fun h => ?_) <;> (try simp only [cnt1, ints_length, rows_length, Tb_length, L_length, byts_length] at h) <;> first | (exfalso; first | omega | exact h trivial | (cases h; done)) | skip) | refine zS ?_ | refine zV ?_ | (apply zI; refine zP vObt ?_) | (apply zI; refine zP vObx ?_) | refine zA ?_ | refine Alt.fst ?_ | refine Or.inl ?_) <;> conv => whnf) | fail
  obtain ⟨mB, nB, hmB, hnB, rfl, rfl⟩ := hd
  refine ⟨rfl, by simp, ?_⟩
  conv => whnf
  have b1 := c_implLazardCocycle mB nB
  have b2 := c_specLazardCocycle mB nB
  by_cases hL : lazCode mB nB = 0
  · obtain ⟨hmdB, hn2⟩ := lazCode_0 hL
    rw [plRes, if_pos hL] at b1 b2
    have b3 := fun o p => c_implIsCocycle o p mB (Tb (nB.toNat + 1) (topP nB.toNat fun i => Zm.mk mB (lazV nB.toNat i : Nat))) (by simp; omega) (lensOk_Tb (by omega) _)
    rw [laz_cocB hmdB (by omega)] at b3
    simp only [PlD] at b1 b2
    have b4 := fun o p o' p' => c_plane5 (m := mB) o p o' p' (nB.toNat + 1) (by omega) (topP nB.toNat fun i => Zm.mk mB (lazV nB.toNat i : Nat)) (topP nB.toNat fun i => Zm.mk mB (lazV nB.toNat i : Nat))
    rw [show eqTB (nB.toNat + 1) (topP nB.toNat fun i => Zm.mk mB (lazV nB.toNat i : Nat)) (topP nB.toNat fun i => Zm.mk mB (lazV nB.toNat i : Nat)) = true by simp [eqTB, eqT_Tb rfl]] at b4
    generalize topP nB.toNat (fun i => Zm.mk mB (lazV nB.toNat i : Nat)) = GB at b1 b2 b3 b4
    repeat' first | ((first | refine z0 ?_ | (apply zI; refine zP (b1) ?_) | (apply zI; refine zP (b2) ?_) | (apply zI; refine zP (b3 _ _) ?_) | (apply zI; refine zP (b4 _ _ _ _) ?_) | (refine And.intro (fun h => ?_) (fun h => ?_) <;> (try simp only [cnt1, ints_length, rows_length, Tb_length, L_length, byts_length] at h) <;> first | (exfalso; first | omega | exact h trivial | (cases h; done)) | skip) | refine zS ?_ | refine zV ?_ | (apply zI; refine zP vObt ?_) | (apply zI; refine zP vObx ?_) | refine zA ?_ | refine Alt.fst ?_ | refine Or.inl ?_) <;> conv => whnf) | fail
    all_goals first | (refine Stg.weak (coc_C hW l hb hl h0) (wkA (kp := 0) []))
  · rw [plRes, if_neg hL] at b1 b2
    repeat' first | ((first | refine z0 ?_ | (apply zI; refine zP (b1) ?_) | (apply zI; refine zP (b2) ?_) | (apply zI; refine zP (c_plane5Z) ?_) | (refine And.intro (fun h => ?_) (fun h => ?_) <;> (try simp only [cnt1, ints_length, rows_length, Tb_length, L_length, byts_length] at h) <;> first | (exfalso; first | omega | exact h trivial | (cases h; done)) | skip) | refine zS ?_ | refine zV ?_ | (apply zI; refine zP vObt ?_) | (apply zI; refine zP vObx ?_) | refine zA ?_ | refine Alt.fst ?_ | refine Or.inl ?_) <;> conv => whnf) | fail
    all_goals first | (refine Stg.weak (coc_C hW l hb hl h0) (wkA (kp := 0) []))
theorem c_FnCocycles (hW : Wei) (l : List Nat) (hb : ∀ b ∈ l, b < 256) (hl : l.length ≤ 9223372036854775807) : PureCall Tryz.prog 8 [.list false 1 (byts l)] (dbool true) := by
  have hbig := c_big false l hl
  by_cases h0 : 4096 < l.length
  · rw [show decide (4096 < l.length) = true by simp [h0]] at hbig
    refine pure_of_stg Tryz.f8 Tryz.func8 rfl rfl Tryz.tabOk ?_
    refine stg_cut Tryz.tabOk mixOrd _ 0 10 ?_
    conv => whnf
    repeat' first | ((first | refine z0 ?_ | (apply zI; refine zP (hbig) ?_) | (refine And.intro (fun h => ?_) (fun h => ?_) <;> (try simp only [cnt1, ints_length, rows_length, Tb_length, L_length, byts_length] at h) <;> first | (exfalso; first | omega | exact h trivial | (cases h; done)) | skip) | refine zS ?_ | refine zV ?_ | (apply zI; refine zP vObt ?_) | (apply zI; refine zP vObx ?_) | refine zA ?_ | refine Alt.fst ?_ | refine Or.inl ?_) <;> conv => whnf) | fail
  · rw [show decide (4096 < l.length) = false by simp [h0]] at hbig
    refine pure_of_stg Tryz.f8 Tryz.func8 rfl rfl Tryz.tabOk ?_
    refine stg_cut Tryz.tabOk mixOrd _ 0 10 ?_
    conv => whnf
    repeat' first | (refine borA [] (c_DrawCocycleFactor false l hb (by omega)) (fun d rt' hd => ?_)) | ((first | refine z0 ?_ | (apply zI; refine zP (hbig) ?_) | (refine And.intro (fun h => ?_) (fun h => ?_) <;> (try simp only [cnt1, ints_length, rows_length, Tb_length, L_length, byts_length] at h) <;> first | (exfalso; first | omega | exact h trivial | (cases h; done)) | skip) | refine zS ?_ | refine zV ?_ | (apply zI; refine zP vObt ?_) | (apply zI; refine zP vObx ?_) | refine zA ?_ | refine Alt.fst ?_ | refine Or.inl ?_) <;> conv => whnf) | fail
    obtain ⟨m, t, ⟨hm, ht⟩, rfl, rfl⟩ := hd
    refine ⟨rfl, by simp, ?_⟩
    conv => whnf
    have s1 := smT_lens ht
    have e3 := fun o p => c_implIsCocycle o p m t s1.1 s1.2
    have e4 := fun o p => c_specIsCocycle o p m t s1.1 s1.2
    cases hc : cocB m t with
    | false =>
      have e1 := fun o p => c_implCocycleFactorN o p m t s1.1 s1.2 hc
      have e2 := fun o p => c_specCocycleFactorN o p m t s1.1 s1.2 hc
      rw [hc] at e3 e4
      repeat' first | ((first | refine z0 ?_ | (apply zI; refine zP (e1 _ _) ?_) | (apply zI; refine zP (e2 _ _) ?_) | (apply zI; refine zP (e3 _ _) ?_) | (apply zI; refine zP (e4 _ _) ?_) | (refine And.intro (fun h => ?_) (fun h => ?_) <;> (try simp only [cnt1, ints_length, rows_length, Tb_length, L_length, byts_length] at h) <;> first | (exfalso; first | omega | exact h trivial | (cases h; done)) | skip) | refine zS ?_ | refine zV ?_ | (apply zI; refine zP vObt ?_) | (apply zI; refine zP vObx ?_) | refine zA ?_ | refine Alt.fst ?_ | refine Or.inl ?_) <;> conv => whnf) | fail
      all_goals first | (refine Stg.weak (coc_B hW l hb hl h0) (wkA (kp := 0) []))
    | true =>
      obtain ⟨hp, hcp⟩ := cocB_pl hc
      obtain ⟨hmd, hN1, hN2, _⟩ := plB_md hp
      have eT := plB_T hp
      obtain ⟨x, hx, hf, hmin⟩ := fac_ex hmd ⟨hcp.1, by omega⟩ hcp
      have e1 := fun o p => c_implCocycleFactorY o p m t s1.1 s1.2 hc x hx hf hmin
      have e2 := fun o p => c_specCocycleFactorY o p m t s1.1 s1.2 hc x hx hf hmin
      rw [hc] at e3 e4
      have hcc := coc_double hcp
      generalize hF : rd2 m t = F at eT hcp hf hcc
      obtain ⟨N, hN⟩ : ∃ N, t.length = N + 1 := ⟨t.length - 1, by omega⟩
      rw [hN] at eT hcp hf hcc hN1 hN2
      rw [Nat.add_sub_cancel] at hcp hf hcc
      have hN3 := hcp.1
      have hm1 := hmd.1
      have hm2 := hmd.2
      have e5 := c_implLazardCocycle m N
      rw [show lazCode m N = 0 by unfold lazCode; rw [if_pos (by simp [inB]; omega), if_pos (by simp [inB]; omega)], plRes, if_pos rfl, show ((N : Nat) : Int).toNat = N from rfl] at e5
      have e6 := fun o p => c_implScalePlane hmd o p (N + 1) (by omega) (topP N fun i => Zm.mk m (lazV N i : Nat)) x (by omega)
      have e7 := fun o p o' p' => c_implAddPlanes hmd o p o' p' (N + 1) (by omega) F F
      have hcT := cocP_Tb (N := N + 1) (by omega) hcc
      have hcB : cocB m (Tb (N + 1) (F + F)) = true := by
        rw [cocB_yes (plB_TbT hmd (by omega) _), Tb_length, Nat.add_sub_cancel]
        exact tr_yes hcT
      obtain ⟨y, hy, hfy, hminy⟩ := fac_ex hmd ⟨hN3, by omega⟩ hcT
      have e8 := fun o p => c_implCocycleFactorY o p m (Tb (N + 1) (F + F)) (by simp; omega) (lensOk_Tb (by omega) _) hcB y hy (by rw [Tb_length, Nat.add_sub_cancel]; exact hfy) (by rw [Tb_length, Nat.add_sub_cancel]; exact hminy)
      have hdbl := fac_double hmd ⟨hN3, by omega⟩ hf ((facP_Tb (by omega)).1 hfy) hy
      have e9 := fun o p o' p' => c_plane5 (m := m) o p o' p' (N + 1) (by omega) (PS.C (PS.C (Zm.mk m x)) * topP N (fun i => Zm.mk m (lazV N i : Nat))) F
      rw [show eqTB (N + 1) (PS.C (PS.C (Zm.mk m x)) * topP N (fun i => Zm.mk m (lazV N i : Nat))) F = true by simp [eqTB, eqT_Tb (fac_own hcp hf)]] at e9
      clear hcc hcT hcB hfy hminy hf hmin hcp hc hp
      simp only [PlD] at e5 e6 e7 e8 e9
      generalize topP N (fun i => Zm.mk m (lazV N i : Nat)) = G at e5 e6 e9
      generalize PS.C (PS.C (Zm.mk m x)) * G = H at e6 e9
      generalize F + F = FF at e7 e8
      subst eT
      have ecnt : ((cnt 1 (rows false (Tb (N + 1) F)) : Nat) : Int) - 1 = N := by rw [cnt1, rows_length, Tb_length]; omega
      repeat' first | ((first | refine z0 ?_ | (apply zI; refine zP (e1 _ _) ?_) | (apply zI; refine zP (e2 _ _) ?_) | (apply zI; refine zP (e3 _ _) ?_) | (apply zI; refine zP (e4 _ _) ?_) | (apply zI; refine zP ((by rw [ecnt]; exact e5)) ?_) | (apply zI; refine zP (e6 _ _) ?_) | (apply zI; refine zP (e7 _ _ _ _) ?_) | (apply zI; refine zP (e8 _ _) ?_) | (apply zI; refine zP (e9 _ _ _ _) ?_) | (refine And.intro (fun h => ?_) (fun h => ?_) <;> (try simp only [cnt1, ints_length, rows_length, Tb_length, L_length, byts_length] at h) <;> first | (exfalso; first | omega | exact h trivial | (cases h; done)) | skip) | refine zS ?_ | refine zV ?_ | (apply zI; refine zP vObt ?_) | (apply zI; refine zP vObx ?_) | refine zA ?_ | refine And.intro ((inR64 (by omega) (by omega))) ?_ | refine Alt.fst ?_ | refine Or.inl ?_) <;> conv => whnf) | fail
      all_goals first | (refine Stg.weak (coc_B hW l hb hl h0) (wkA (kp := 0) []))

end Go.Proofs

