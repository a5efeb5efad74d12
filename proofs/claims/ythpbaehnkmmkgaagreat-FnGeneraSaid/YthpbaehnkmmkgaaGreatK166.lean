/- The law of genera. -/
-- tables
-- rec
import Derived.Test.YthpbaehnkmmkgaaGreatK183
import Derived.Test.YthpbaehnkmmkgaaGreatK164
import Derived.Test.YthpbaehnkmmkgaaGreatK145
import Derived.Test.YthpbaehnkmmkgaaGreatVm43
import Derived.Test.YthpbaehnkmmkgaaGreatK167
namespace Go.Proofs
open Go Go.Vm Go.Fg Go.Fg.PS
set_option maxRecDepth 100000
set_option maxHeartbeats 40000000
set_option linter.unusedSimpArgs false
set_option linter.unusedVariables false
variable {m : Int}
theorem gen_D (l : List Nat) (hb : ∀ b ∈ l, b < 256) (hl : l.length ≤ 9223372036854775807) (h0 : ¬ 4096 < l.length) : Stg Tryz.prog 0 Tryz.f3 24 (retQ Tryz.tab Tryz.f3 (dbool true)) (fewS Tryz.f3.ntmps [(0, .list false 1 (byts l))] []) := by
  refine stg_end Tryz.tabOk mixOrd _ 24 ?_
  conv => whnf
  repeat' first | (refine borA [] (c_DrawProductOfGenera false l hb (by omega)) (fun d rt' hd => ?_)) | ((first | refine z0 ?_ | (refine And.intro (fun h => ?_) (fun h => ?_) <;> (try simp only [cnt1, ints_length, rows_length, Tb_length, L_length, byts_length] at h) <;> first | (exfalso; first | omega | exact h trivial | (cases h; done)) | skip) | refine zS ?_ | refine zV ?_ | (apply zI; refine zP vObt ?_) | (apply zI; refine zP vObx ?_) | refine zA ?_ | refine Alt.fst ?_ | refine Or.inl ?_) <;> conv => whnf) | fail
  obtain ⟨m, us, ts, hm, hu, ht, rfl, rfl⟩ := hd
  refine ⟨rfl, by simp, ?_⟩
  conv => whnf
  have g1 := fun o o' => c_implProductOfGenera o o' m us ts (by omega) (by omega)
  have g2 := fun o o' => c_specProductOfGenera o o' m us ts (by omega) (by omega)
  repeat' first | ((first | refine z0 ?_ | (apply zI; refine zP (g1 _ _) ?_) | (apply zI; refine zP (g2 _ _) ?_) | (refine And.intro (fun h => ?_) (fun h => ?_) <;> (try simp only [cnt1, ints_length, rows_length, Tb_length, L_length, byts_length] at h) <;> first | (exfalso; first | omega | exact h trivial | (cases h; done)) | skip) | refine zS ?_ | refine zV ?_ | (apply zI; refine zP vObt ?_) | (apply zI; refine zP vObx ?_) | refine zA ?_ | refine Alt.fst ?_ | refine Or.inl ?_) <;> conv => whnf) | fail
  all_goals (refine dbool_congr ?_; first | rfl | (simp_all []; done) | (simp_all []; omega) | (simp_all []; intros; omega))
theorem gen_C (l : List Nat) (hb : ∀ b ∈ l, b < 256) (hl : l.length ≤ 9223372036854775807) (h0 : ¬ 4096 < l.length) : Stg Tryz.prog 0 Tryz.f3 17 (retQ Tryz.tab Tryz.f3 (dbool true)) (fewS Tryz.f3.ntmps [(0, .list false 1 (byts l))] []) := by
  refine stg_cut Tryz.tabOk mixOrd _ 17 7 ?_
  conv => whnf
  repeat' first | (refine borA [] (c_DrawCharacteristicOfGenera false l hb (by omega)) (fun d rt' hd => ?_)) | ((first | refine z0 ?_ | (refine And.intro (fun h => ?_) (fun h => ?_) <;> (try simp only [cnt1, ints_length, rows_length, Tb_length, L_length, byts_length] at h) <;> first | (exfalso; first | omega | exact h trivial | (cases h; done)) | skip) | refine zS ?_ | refine zV ?_ | (apply zI; refine zP vObt ?_) | (apply zI; refine zP vObx ?_) | refine zA ?_ | refine Alt.fst ?_ | refine Or.inl ?_) <;> conv => whnf) | fail
  obtain ⟨m, us, hm, hu, rfl, rfl⟩ := hd
  refine ⟨rfl, by simp, ?_⟩
  conv => whnf
  have g1 := fun o => c_implCharacteristicOfGenera o m us (by omega)
  have g2 := fun o => c_specCharacteristicOfGenera o m us (by omega)
  by_cases hc : codeG m us = 0
  · obtain ⟨hmd, hN, hb0, hu0, hnum⟩ := codeG_0 hc
    obtain ⟨hag, hr0⟩ := gen_again hmd hnum hb0 (by omega) hu0
    have g3 := fun o => c_implProjGenY o hmd us.length (by omega) _ hr0
    simp only [hag] at g3
    rw [serRes, if_pos hc] at g1 g2
    generalize inv (invN m ((charG m us).c 0).val) (charG m us) = R at g1 g2 g3
    repeat' first | ((first | refine z0 ?_ | (apply zI; refine zP (g1 _) ?_) | (apply zI; refine zP (g2 _) ?_) | (apply zI; refine zP (g3 _) ?_) | (apply zI; refine zP (c_series5 _ _ _ _ _ _ (by first | omega | (simp; omega)) (by first | omega | (simp; omega))) ?_) | (apply zI; refine zP (c_likeInts _ _ _ _ (by first | omega | (simp; omega)) (by first | omega | (simp; omega))) ?_) | (refine And.intro (fun h => ?_) (fun h => ?_) <;> (try simp only [cnt1, ints_length, rows_length, Tb_length, L_length, byts_length] at h) <;> first | (exfalso; first | omega | exact h trivial | (cases h; done)) | skip) | refine zS ?_ | refine zV ?_ | (apply zI; refine zP vObt ?_) | (apply zI; refine zP vObx ?_) | refine zA ?_ | refine Alt.fst ?_ | refine Or.inl ?_) <;> conv => whnf) | fail
    all_goals first | (refine Stg.weak (gen_D l hb hl h0) (wkA (kp := 0) []))
  · rw [serRes, if_neg hc] at g1 g2
    repeat' first | ((first | refine z0 ?_ | (apply zI; refine zP (g1 _) ?_) | (apply zI; refine zP (g2 _) ?_) | (apply zI; refine zP (c_series5Nil) ?_) | (refine And.intro (fun h => ?_) (fun h => ?_) <;> (try simp only [cnt1, ints_length, rows_length, Tb_length, L_length, byts_length] at h) <;> first | (exfalso; first | omega | exact h trivial | (cases h; done)) | skip) | refine zS ?_ | refine zV ?_ | (apply zI; refine zP vObt ?_) | (apply zI; refine zP vObx ?_) | refine zA ?_ | refine Alt.fst ?_ | refine Or.inl ?_) <;> conv => whnf) | fail
    all_goals first | (refine Stg.weak (gen_D l hb hl h0) (wkA (kp := 0) []))
theorem gen_B (l : List Nat) (hb : ∀ b ∈ l, b < 256) (hl : l.length ≤ 9223372036854775807) (h0 : ¬ 4096 < l.length) : Stg Tryz.prog 0 Tryz.f3 10 (retQ Tryz.tab Tryz.f3 (dbool true)) (fewS Tryz.f3.ntmps [(0, .list false 1 (byts l))] []) := by
  refine stg_cut Tryz.tabOk mixOrd _ 10 7 ?_
  conv => whnf
  repeat' first | (refine borA [] (c_DrawHypersurfaceGenus false l hb (by omega)) (fun d rt' hd => ?_)) | ((first | refine z0 ?_ | (refine And.intro (fun h => ?_) (fun h => ?_) <;> (try simp only [cnt1, ints_length, rows_length, Tb_length, L_length, byts_length] at h) <;> first | (exfalso; first | omega | exact h trivial | (cases h; done)) | skip) | refine zS ?_ | refine zV ?_ | (apply zI; refine zP vObt ?_) | (apply zI; refine zP vObx ?_) | refine zA ?_ | refine Alt.fst ?_ | refine Or.inl ?_) <;> conv => whnf) | fail
  obtain ⟨m, us, n, d9, hm, hu, hn, hd9, rfl, rfl⟩ := hd
  refine ⟨rfl, by simp, ?_⟩
  conv => whnf
  have g1 := fun o => c_implHypersurfaceGenus o m us (by omega) n d9 (by omega)
  have g2 := fun o => c_specHypersurfaceGenus o m us (by omega) n d9
  by_cases hc : dimCode m us (hyB us.length n d9) = 0
  · obtain ⟨hch, hdim⟩ := dimCode_0 hc
    have hb1 : hyB us.length n 1 = true := by
      simp only [hyB, Bool.and_eq_true] at hdim ⊢
      exact ⟨hdim.1, by simp [inB]⟩
    have hb2 : inB n 0 ((us.length : Int) - 1) = true := by
      simp only [hyB, Bool.and_eq_true] at hdim; exact hdim.1
    have g3 := fun o => c_implHypersurfaceGenus o m us (by omega) n 1 (by omega)
    have g4 := fun o => c_implProjectiveGenus o m us (by omega) n
    rw [show dimCode m us (hyB us.length n 1) = 0 by rw [hb1]; unfold dimCode; rw [if_pos hch, if_pos rfl], if_pos rfl, gen_hyper (serB_md (charB_ser hch)) (charB_0 hch)] at g3
    rw [show dimCode m us (inB n 0 ((us.length : Int) - 1)) = 0 by rw [hb2]; unfold dimCode; rw [if_pos hch, if_pos rfl], if_pos rfl] at g4
    rw [hc, if_pos rfl] at g1 g2
    repeat' first | ((first | refine z0 ?_ | (apply zI; refine zP (g1 _) ?_) | (apply zI; refine zP (g2 _) ?_) | (apply zI; refine zP (g3 _) ?_) | (apply zI; refine zP (g4 _) ?_) | (refine And.intro (fun h => ?_) (fun h => ?_) <;> (try simp only [cnt1, ints_length, rows_length, Tb_length, L_length, byts_length] at h) <;> first | (exfalso; first | omega | exact h trivial | (cases h; done)) | skip) | refine zS ?_ | refine zV ?_ | (apply zI; refine zP vObt ?_) | (apply zI; refine zP vObx ?_) | refine zA ?_ | refine Alt.fst ?_ | refine Or.inl ?_) <;> conv => whnf) | fail
    all_goals first | (refine Stg.weak (gen_C l hb hl h0) (wkA (kp := 0) []))
  · rw [if_neg hc] at g1 g2
    generalize dimCode m us (hyB us.length n d9) = c9 at hc g1 g2
    repeat' first | ((first | refine z0 ?_ | (apply zI; refine zP (g1 _) ?_) | (apply zI; refine zP (g2 _) ?_) | (refine And.intro (fun h => ?_) (fun h => ?_) <;> (try simp only [cnt1, ints_length, rows_length, Tb_length, L_length, byts_length] at h) <;> first | (exfalso; first | omega | exact h trivial | (cases h; done)) | skip) | refine zS ?_ | refine zV ?_ | (apply zI; refine zP vObt ?_) | (apply zI; refine zP vObx ?_) | refine zA ?_ | refine Alt.fst ?_ | refine Or.inl ?_) <;> conv => whnf) | fail
    all_goals first | (refine Stg.weak (gen_C l hb hl h0) (wkA (kp := 0) []))
theorem c_FnGenera (l : List Nat) (hb : ∀ b ∈ l, b < 256) (hl : l.length ≤ 9223372036854775807) : PureCall Tryz.prog 3 [.list false 1 (byts l)] (dbool true) := by
  have hbig := c_big false l hl
  by_cases h0 : 4096 < l.length
  · rw [show decide (4096 < l.length) = true by simp [h0]] at hbig
    refine pure_of_stg Tryz.f3 Tryz.func3 rfl rfl Tryz.tabOk ?_
    refine stg_cut Tryz.tabOk mixOrd _ 0 10 ?_
    conv => whnf
    repeat' first | ((first | refine z0 ?_ | (apply zI; refine zP (hbig) ?_) | (refine And.intro (fun h => ?_) (fun h => ?_) <;> (try simp only [cnt1, ints_length, rows_length, Tb_length, L_length, byts_length] at h) <;> first | (exfalso; first | omega | exact h trivial | (cases h; done)) | skip) | refine zS ?_ | refine zV ?_ | (apply zI; refine zP vObt ?_) | (apply zI; refine zP vObx ?_) | refine zA ?_ | refine Alt.fst ?_ | refine Or.inl ?_) <;> conv => whnf) | fail
  · rw [show decide (4096 < l.length) = false by simp [h0]] at hbig
    refine pure_of_stg Tryz.f3 Tryz.func3 rfl rfl Tryz.tabOk ?_
    refine stg_cut Tryz.tabOk mixOrd _ 0 10 ?_
    conv => whnf
    repeat' first | (refine borA [] (c_DrawProjectiveGenera false l hb (by omega)) (fun d rt' hd => ?_)) | ((first | refine z0 ?_ | (apply zI; refine zP (hbig) ?_) | (refine And.intro (fun h => ?_) (fun h => ?_) <;> (try simp only [cnt1, ints_length, rows_length, Tb_length, L_length, byts_length] at h) <;> first | (exfalso; first | omega | exact h trivial | (cases h; done)) | skip) | refine zS ?_ | refine zV ?_ | (apply zI; refine zP vObt ?_) | (apply zI; refine zP vObx ?_) | refine zA ?_ | refine Alt.fst ?_ | refine Or.inl ?_) <;> conv => whnf) | fail
    obtain ⟨m, us, hm, hu, rfl, rfl⟩ := hd
    refine ⟨rfl, by simp, ?_⟩
    conv => whnf
    have i1 := fun o => c_IsCharacteristic o m us (by omega)
    have i2 := fun o => c_specIsCharacteristic o m us (by omega)
    cases hch : charB m us with
    | false =>
      have e1 := fun o => c_implProjectiveGenera' o m us (by omega) hch
      have e2 := fun o => c_specProjectiveGenera' o m us (by omega) hch
      rw [show (serB m us && decide (us.getD 0 0 = 1)) = false from hch] at i1 i2
      repeat' first | ((first | refine z0 ?_ | (apply zI; refine zP (e1 _) ?_) | (apply zI; refine zP (e2 _) ?_) | (apply zI; refine zP (i1 _) ?_) | (apply zI; refine zP (i2 _) ?_) | (apply zI; refine zP (c_likeNil) ?_) | (refine And.intro (fun h => ?_) (fun h => ?_) <;> (try simp only [cnt1, ints_length, rows_length, Tb_length, L_length, byts_length] at h) <;> first | (exfalso; first | omega | exact h trivial | (cases h; done)) | skip) | refine zS ?_ | refine zV ?_ | (apply zI; refine zP vObt ?_) | (apply zI; refine zP vObx ?_) | refine zA ?_ | refine Alt.fst ?_ | refine Or.inl ?_) <;> conv => whnf) | fail
      all_goals first | (refine Stg.weak (gen_B l hb hl h0) (wkA (kp := 0) []))
    | true =>
      have e1 := fun o => c_implProjectiveGenera o m us (by omega) hch
      have e2 := fun o => c_specProjectiveGenera o m us (by omega) hch
      rw [show (serB m us && decide (us.getD 0 0 = 1)) = true from hch] at i1 i2
      have e3 := fun o => c_implLogarithmOfGenus o m us (by omega)
      have hs := charB_ser hch
      have hmd := serB_md hs
      have hN := serB_len hs
      by_cases h11 : us.length = 11
      · rw [show shortCode m us = 5 by unfold shortCode; rw [if_pos hch, if_pos h11], serRes, if_neg (by omega)] at e3
        repeat' first | ((first | refine z0 ?_ | (apply zI; refine zP (e1 _) ?_) | (apply zI; refine zP (e2 _) ?_) | (apply zI; refine zP (e3 _) ?_) | (apply zI; refine zP (i1 _) ?_) | (apply zI; refine zP (i2 _) ?_) | (apply zI; refine zP (c_likeInts _ _ _ _ (by first | omega | (simp; omega)) (by first | omega | (simp; omega))) ?_) | (refine And.intro (fun h => ?_) (fun h => ?_) <;> (try simp only [cnt1, ints_length, rows_length, Tb_length, L_length, byts_length] at h) <;> first | (exfalso; first | omega | exact h trivial | (cases h; done)) | skip) | refine zS ?_ | refine zV ?_ | (apply zI; refine zP vObt ?_) | (apply zI; refine zP vObx ?_) | refine zA ?_ | refine Alt.fst ?_ | refine Or.inl ?_) <;> conv => whnf) | fail
        all_goals first | (refine Stg.weak (gen_B l hb hl h0) (wkA (kp := 0) []))
      · rw [show shortCode m us = 0 by unfold shortCode; rw [if_pos hch, if_neg h11], serRes, if_pos rfl] at e3
        have e5 := fun o => c_implExponentialOfGenus o m us (by omega)
        rw [show shortCode m us = 0 by unfold shortCode; rw [if_pos hch, if_neg h11], serRes, if_pos rfl] at e5
        have eL := serB_L hs
        have hq0 := charB_0 hch
        have hgp := gen_proj hmd hq0
        have hline := gen_line hmd hq0 (N := us.length + 1) (by omega)
        have e4 := fun o => c_implDeriveSeries hmd o us.length (by omega) (logG (rd m us))
        rw [derS_dS, ← hgp] at e4
        have e6 := fun o o' => c_implComposeSeries hmd o o' (us.length + 1) (by omega) (logG (rd m us)) (expG (rd m us)) (by unfold expG; rw [C0X, X_mul_zero])
        have e7 := fun o => c_implCharacteristicOfGenera o m (L us.length (projS (rd m us))) (by first | omega | (simp; omega))
        have hline2 : ((compN (logG (rd m us)) (expG (rd m us)) 0 (us.length + 1)).c 1).val = 1 := by rw [hline]; exact Zm.val_one (by have := hmd.1; omega)
        have hcode : codeG m (L us.length (projS (rd m us))) = if unitsB m us.length then 0 else 5 := by
          unfold codeG
          rw [if_pos (codeN_LL hmd us.length _), L_length, if_pos]
          rw [Bool.and_eq_true, decide_eq_true_eq, L_getD _ (by omega)]
          refine ⟨by simp [inB]; omega, ?_⟩
          show ((pw (rd m us) 1).c 0).val = 1
          rw [pw_one, hq0]; exact Zm.val_one (by have := hmd.1; omega)
        rw [hcode] at e7
        simp only [SerD] at e3 e4 e5 e6 e7
        generalize compN (logG (rd m us)) (expG (rd m us)) 0 (us.length + 1) = LN at e6 hline2
        cases hun : unitsB m us.length with
        | false =>
          rw [hun, serRes, if_neg (by decide)] at e7
          generalize logG (rd m us) = G at e3 e4 e6
          generalize expG (rd m us) = E at e5 e6
          repeat' first | ((first | refine z0 ?_ | (apply zI; refine zP (e1 _) ?_) | (apply zI; refine zP (e2 _) ?_) | (apply zI; refine zP (e3 _) ?_) | (apply zI; refine zP (e4 _) ?_) | (apply zI; refine zP (e5 _) ?_) | (apply zI; refine zP (e6 _ _) ?_) | (apply zI; refine zP (e7 _) ?_) | (apply zI; refine zP (i1 _) ?_) | (apply zI; refine zP (i2 _) ?_) | (apply zI; refine zP (c_likeInts _ _ _ _ (by first | omega | (simp; omega)) (by first | omega | (simp; omega))) ?_) | (refine And.intro (fun h => ?_) (fun h => ?_) <;> (try simp only [cnt1, ints_length, rows_length, Tb_length, L_length, byts_length] at h) <;> first | (exfalso; first | omega | exact h trivial | (cases h; done)) | skip) | refine zS ?_ | refine zV ?_ | (apply zI; refine zP vObt ?_) | (apply zI; refine zP vObx ?_) | refine zA ?_ | refine Alt.fst ?_ | refine Or.inl ?_) <;> conv => whnf) | fail
          all_goals first | (refine Stg.weak (gen_B l hb hl h0) (wkA (kp := 0) []))
        | true =>
          have hbk := gen_back hmd hq0 (N := us.length) (by omega) hun
          rw [hun, serRes, if_pos (by rfl), L_length, SerD, hbk, ← eL] at e7
          generalize logG (rd m us) = G at e3 e4 e6
          generalize expG (rd m us) = E at e5 e6
          repeat' first | ((first | refine z0 ?_ | (apply zI; refine zP (e1 _) ?_) | (apply zI; refine zP (e2 _) ?_) | (apply zI; refine zP (e3 _) ?_) | (apply zI; refine zP (e4 _) ?_) | (apply zI; refine zP (e5 _) ?_) | (apply zI; refine zP (e6 _ _) ?_) | (apply zI; refine zP (e7 _) ?_) | (apply zI; refine zP (i1 _) ?_) | (apply zI; refine zP (i2 _) ?_) | (apply zI; refine zP (c_likeInts _ _ _ _ (by first | omega | (simp; omega)) (by first | omega | (simp; omega))) ?_) | (apply zI; refine zP (c_series5 _ _ _ _ _ _ (by first | omega | (simp; omega)) (by first | omega | (simp; omega))) ?_) | (refine And.intro (fun h => ?_) (fun h => ?_) <;> (try simp only [cnt1, ints_length, rows_length, Tb_length, L_length, byts_length] at h) <;> first | (exfalso; first | omega | exact h trivial | (cases h; done)) | skip) | refine zS ?_ | refine zV ?_ | (apply zI; refine zP vObt ?_) | (apply zI; refine zP vObx ?_) | refine zA ?_ | refine Alt.fst ?_ | refine Or.inl ?_) <;> conv => whnf) | fail
          all_goals first | (refine Stg.weak (gen_B l hb hl h0) (wkA (kp := 0) []))

end Go.Proofs

