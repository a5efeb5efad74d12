/- The factor of two extensions of a law: both sides. -/
-- tables
-- rec
import Derived.Test.YthpbaehnkmmkgaaGreatK147
namespace Go.Proofs
open Go Go.Vm Go.Fg Go.Fg.PS
set_option maxRecDepth 100000
set_option maxHeartbeats 4000000
set_option linter.unusedSimpArgs false
set_option linter.unusedVariables false
open Classical in
noncomputable def exC (m : Int) (t : List (List Int)) (m' : Int) (t' : List (List Int)) : Int := if twC m t m' t' = 0 then (if t.length = 2 then 2 else if agr (rd2 m t) (rd2 m t') t.length < t.length - 1 then 5 else 0) else twC m t m' t'
noncomputable def exRes (m : Int) (t : List (List Int)) (m' : Int) (t' : List (List Int)) (x : Nat) : D := if exC m t m' t' = 0 then .tup [dint x, dint 0] else .tup [dint 0, dint (exC m t m' t')]
def FacX (m : Int) (F G : PS (PS (Zm m))) (n x : Nat) : Prop := x < m.toNat ∧ FacP (G - F) n x ∧ ∀ j, j < x → ¬ FacP (G - F) n j
theorem exC_0 {m : Int} {t : List (List Int)} {m' : Int} {t' : List (List Int)} (h : exC m t m' t' = 0) : twC m t m' t' = 0 ∧ t.length ≠ 2 ∧ t.length - 1 ≤ agr (rd2 m t) (rd2 m t') t.length := by
  unfold exC at h
  split at h
  · rename_i h1
    split at h
    · omega
    · rename_i h2
      split at h
      · omega
      · rename_i h3; exact ⟨h1, h2, by omega⟩
  · rename_i h1; exact absurd h h1
theorem facX_ex {m : Int} (hm : Md m) {N : Nat} (hN : 3 ≤ N ∧ N ≤ 11) {F G : PS (PS (Zm m))} (hF : LawP F N) (hG : LawP G N) (h : N - 1 ≤ agr F G N) : ∃ x, FacX m F G (N - 1) x := by
  have hc : CocP (topP (N - 1) fun i => (G.c i).c (N - 1 - i) + -(F.c i).c (N - 1 - i)) (N - 1) := diff_coc hF hG (by omega) (by omega) (fun i j hij => by
    have := agr_all (f := F) (g := G) (N := N) (j := i + j) (by omega) i (by omega)
    rwa [show i + j - i = j by omega] at this)
  obtain ⟨x, h1, h2, h3⟩ := fac_ex hm ⟨by omega, by omega⟩ hc
  have e : ∀ y, FacP (topP (N - 1) fun i => (G.c i).c (N - 1 - i) + -(F.c i).c (N - 1 - i)) (N - 1) y ↔ FacP (G - F) (N - 1) y := fun y => FacP.congr (fun i hi => by
    unfold tpc
    rw [topP_cc, if_pos (by omega)]; rfl)
  exact ⟨x, h1, (e x).1 h2, fun j hj hf => h3 j hj ((e j).2 hf)⟩
theorem c_implExtensionFactorN (o p o' p' : Bool) (m : Int) (t : List (List Int)) (hl : t.length ≤ 1048576) (hr : lensOk t) (m' : Int) (t' : List (List Int)) (hl' : t'.length ≤ 1048576) (hr' : lensOk t') (h : twC m t m' t' ≠ 0) (x : Nat) :
    PureCall Tryz.prog 106 [.agg [dint m, .list o 1 (rows p t)], .agg [dint m', .list o' 1 (rows p' t')]] (exRes m t m' t' x) := by
  have key := c_bothLaws o p o' p' m t hl hr m' t' hl' hr'
  have e : exC m t m' t' = twC m t m' t' := by unfold exC; rw [if_neg h]
  rw [exRes, if_neg (by rw [e]; exact h), e]
  refine pure_of_vcR Tryz.tabOk mixOrd Tryz.func106 rfl rfl ?_
  conv => whnf
  repeat' first | ((first | refine z0 ?_ | (apply zI; refine zP (key) ?_) | (refine And.intro (fun h => ?_) (fun h => ?_) <;> (try simp only [cnt1, ints_length, rows_length, Tb_length, L_length, byts_length] at h) <;> first | (exfalso; first | omega | exact h trivial | (cases h; done)) | skip) | refine zS ?_ | refine zV ?_ | (apply zI; refine zP vObt ?_) | (apply zI; refine zP vObx ?_) | refine zA ?_ | refine Alt.fst ?_ | refine Or.inl ?_) <;> conv => whnf) | fail
theorem c_specExtensionFactorN (o p o' p' : Bool) (m : Int) (t : List (List Int)) (hl : t.length ≤ 1048576) (hr : lensOk t) (m' : Int) (t' : List (List Int)) (hl' : t'.length ≤ 1048576) (hr' : lensOk t') (h : twC m t m' t' ≠ 0) (x : Nat) :
    PureCall Tryz.prog 107 [.agg [dint m, .list o 1 (rows p t)], .agg [dint m', .list o' 1 (rows p' t')]] (exRes m t m' t' x) := by
  have key := c_l04Two o p o' p' m t hl hr m' t' hl' hr'
  have e : exC m t m' t' = twC m t m' t' := by unfold exC; rw [if_neg h]
  rw [exRes, if_neg (by rw [e]; exact h), e]
  refine pure_of_vcR Tryz.tabOk mixOrd Tryz.func107 rfl rfl ?_
  conv => whnf
  repeat' first | ((first | refine z0 ?_ | (apply zI; refine zP (key) ?_) | (refine And.intro (fun h => ?_) (fun h => ?_) <;> (try simp only [cnt1, ints_length, rows_length, Tb_length, L_length, byts_length] at h) <;> first | (exfalso; first | omega | exact h trivial | (cases h; done)) | skip) | refine zS ?_ | refine zV ?_ | (apply zI; refine zP vObt ?_) | (apply zI; refine zP vObx ?_) | refine zA ?_ | refine Alt.fst ?_ | refine Or.inl ?_) <;> conv => whnf) | fail
theorem c_l03DegreeA (o p : Bool) (m : Int) (t : List (List Int)) (hl : t.length ≤ 1048576) : PureCall Tryz.prog 298 [.agg [dint m, .list o 1 (rows p t)]] (dint ((t.length : Int) - 1)) := by
  refine pure_of_vcR Tryz.tabOk mixOrd Tryz.func298 rfl rfl ?_
  conv => whnf
  repeat' first | ((first | refine z0 ?_ | (refine And.intro (fun h => ?_) (fun h => ?_) <;> (try simp only [cnt1, ints_length] at h)) | refine zS ?_ | refine zV ?_ | (apply zI; refine zP vObt ?_) | (apply zI; refine zP vObx ?_) | refine zA ?_ | refine Alt.fst ?_ | refine Or.inl ?_) <;> conv => whnf) | fail
  simp [cnt1]
theorem c_l07Gap {m : Int} (hm : Md m) (o p o' p' : Bool) (n : Nat) (hn : 1 ≤ n ∧ n ≤ 100) (f g : PS (PS (Zm m))) : PureCall Tryz.prog 306 [dint m, TbD o p n f, TbD o' p' n g] (TbD true true n (g + PS.C (PS.C (Zm.mk m (m - 1))) * f)) := by
  have hm1 := hm.1
  have hm2 := hm.2
  refine pure_of_vcR Tryz.tabOk mixOrd Tryz.func306 rfl rfl ?_
  conv => whnf
  repeat' first | ((first | refine z0 ?_ | (apply zI; refine zP (c_l03Scale hm _ _ n hn (Zm.mk m (m - 1)) (Int.emod_eq_of_lt (by omega) (by omega)).symm f) ?_) | (apply zI; refine zP (c_l03Add hm _ _ _ _ n hn _ _) ?_) | (refine And.intro (fun h => ?_) (fun h => ?_) <;> (try simp only [cnt1, ints_length] at h)) | refine zS ?_ | refine zV ?_ | (apply zI; refine zP vObt ?_) | (apply zI; refine zP vObx ?_) | refine zA ?_ | refine Alt.fst ?_ | refine Or.inl ?_) <;> conv => whnf) | fail
theorem c_implExtensionFactor (o p o' p' : Bool) (m : Int) (t : List (List Int)) (hl : t.length ≤ 1048576) (hr : lensOk t) (m' : Int) (t' : List (List Int)) (hl' : t'.length ≤ 1048576) (hr' : lensOk t') (x : Nat) (hx : exC m t m' t' = 0 → FacX m (rd2 m t) (rd2 m t') (t.length - 1) x) :
    PureCall Tryz.prog 106 [.agg [dint m, .list o 1 (rows p t)], .agg [dint m', .list o' 1 (rows p' t')]] (exRes m t m' t' x) := by
  by_cases hc : twC m t m' t' = 0
  · have key := c_bothLaws o p o' p' m t hl hr m' t' hl' hr'
    have hdg := c_degreeA o p m t hl
    rw [hc] at key
    obtain ⟨h1, h2, rfl, hlen⟩ := twC_0 hc
    obtain ⟨⟨hmd, hn⟩, eT, hL⟩ := lawB_Tb h1
    obtain ⟨_, eT', hL'⟩ := lawB_Tb h2
    rw [← hlen] at eT' hL'
    have hag := c_agreement o p o' p' t.length hn (rd2 m t) (rd2 m t')
    simp only [PlD, eT, eT'] at hag
    unfold exRes
    by_cases h22 : t.length = 2
    · have e : exC m t m t' = 2 := by unfold exC; rw [if_pos hc, if_pos h22]
      rw [e, if_neg (by omega)]
      refine pure_of_vcR Tryz.tabOk mixOrd Tryz.func106 rfl rfl ?_
      conv => whnf
      repeat' first | ((first | refine z0 ?_ | (apply zI; refine zP (key) ?_) | (apply zI; refine zP (hdg) ?_) | (refine And.intro (fun h => ?_) (fun h => ?_) <;> (try simp only [cnt1, ints_length, rows_length, Tb_length, L_length, byts_length] at h) <;> first | (exfalso; first | omega | exact h trivial | (cases h; done)) | skip) | refine zS ?_ | refine zV ?_ | (apply zI; refine zP vObt ?_) | (apply zI; refine zP vObx ?_) | refine zA ?_ | refine Alt.fst ?_ | refine Or.inl ?_) <;> conv => whnf) | fail
    · by_cases ha : agr (rd2 m t) (rd2 m t') t.length < t.length - 1
      · have e : exC m t m t' = 5 := by unfold exC; rw [if_pos hc, if_neg h22, if_pos ha]
        rw [e, if_neg (by omega)]
        refine pure_of_vcR Tryz.tabOk mixOrd Tryz.func106 rfl rfl ?_
        conv => whnf
        repeat' first | ((first | refine z0 ?_ | (apply zI; refine zP (key) ?_) | (apply zI; refine zP (hdg) ?_) | (apply zI; refine zP (hag) ?_) | (refine And.intro (fun h => ?_) (fun h => ?_) <;> (try simp only [cnt1, ints_length, rows_length, Tb_length, L_length, byts_length] at h) <;> first | (exfalso; first | omega | exact h trivial | (cases h; done)) | skip) | refine zS ?_ | refine zV ?_ | (apply zI; refine zP vObt ?_) | (apply zI; refine zP vObx ?_) | refine zA ?_ | refine Alt.fst ?_ | refine Or.inl ?_) <;> conv => whnf) | fail
      · have e : exC m t m t' = 0 := by unfold exC; rw [if_pos hc, if_neg h22, if_neg ha]
        rw [e, if_pos rfl]
        obtain ⟨x1, x2, x3⟩ := hx e
        have hmi := c_minusP hmd o' p' o p t.length (by omega) (rd2 m t') (rd2 m t)
        have htp := fun o p => c_top o p t.length hn (rd2 m t' - rd2 m t)
        have hfa := fun o => c_factorOf hmd o t.length (by omega) (rd2 m t' - rd2 m t) x x1 x2 x3
        simp only [PlD, eT, eT'] at hmi
        refine pure_of_vcR Tryz.tabOk mixOrd Tryz.func106 rfl rfl ?_
        conv => whnf
        repeat' first | ((first | refine z0 ?_ | (apply zI; refine zP (key) ?_) | (apply zI; refine zP (hdg) ?_) | (apply zI; refine zP (hag) ?_) | (apply zI; refine zP (hmi) ?_) | (apply zI; refine zP (htp _ _) ?_) | (apply zI; refine zP (hfa _) ?_) | (refine And.intro (fun h => ?_) (fun h => ?_) <;> (try simp only [cnt1, ints_length, rows_length, Tb_length, L_length, byts_length] at h) <;> first | (exfalso; first | omega | exact h trivial | (cases h; done)) | skip) | refine zS ?_ | refine zV ?_ | (apply zI; refine zP vObt ?_) | (apply zI; refine zP vObx ?_) | refine zA ?_ | refine Alt.fst ?_ | refine Or.inl ?_) <;> conv => whnf) | fail
  · exact c_implExtensionFactorN o p o' p' m t hl hr m' t' hl' hr' hc x
theorem c_specExtensionFactor (o p o' p' : Bool) (m : Int) (t : List (List Int)) (hl : t.length ≤ 1048576) (hr : lensOk t) (m' : Int) (t' : List (List Int)) (hl' : t'.length ≤ 1048576) (hr' : lensOk t') (x : Nat) (hx : exC m t m' t' = 0 → FacX m (rd2 m t) (rd2 m t') (t.length - 1) x) :
    PureCall Tryz.prog 107 [.agg [dint m, .list o 1 (rows p t)], .agg [dint m', .list o' 1 (rows p' t')]] (exRes m t m' t' x) := by
  by_cases hc : twC m t m' t' = 0
  · have key := c_l04Two o p o' p' m t hl hr m' t' hl' hr'
    have hdg := c_l03DegreeA o p m t hl
    rw [hc] at key
    obtain ⟨h1, h2, rfl, hlen⟩ := twC_0 hc
    obtain ⟨⟨hmd, hn⟩, eT, hL⟩ := lawB_Tb h1
    obtain ⟨_, eT', hL'⟩ := lawB_Tb h2
    rw [← hlen] at eT' hL'
    have hag := c_l04Agreement o p o' p' t.length hn (rd2 m t) (rd2 m t') (law_00b hn.1 hL hL')
    simp only [PlD, eT, eT'] at hag
    unfold exRes
    by_cases h22 : t.length = 2
    · have e : exC m t m t' = 2 := by unfold exC; rw [if_pos hc, if_pos h22]
      rw [e, if_neg (by omega)]
      refine pure_of_vcR Tryz.tabOk mixOrd Tryz.func107 rfl rfl ?_
      conv => whnf
      repeat' first | ((first | refine z0 ?_ | (apply zI; refine zP (key) ?_) | (apply zI; refine zP (hdg) ?_) | (refine And.intro (fun h => ?_) (fun h => ?_) <;> (try simp only [cnt1, ints_length, rows_length, Tb_length, L_length, byts_length] at h) <;> first | (exfalso; first | omega | exact h trivial | (cases h; done)) | skip) | refine zS ?_ | refine zV ?_ | (apply zI; refine zP vObt ?_) | (apply zI; refine zP vObx ?_) | refine zA ?_ | refine Alt.fst ?_ | refine Or.inl ?_) <;> conv => whnf) | fail
    · by_cases ha : agr (rd2 m t) (rd2 m t') t.length < t.length - 1
      · have e : exC m t m t' = 5 := by unfold exC; rw [if_pos hc, if_neg h22, if_pos ha]
        rw [e, if_neg (by omega)]
        refine pure_of_vcR Tryz.tabOk mixOrd Tryz.func107 rfl rfl ?_
        conv => whnf
        repeat' first | ((first | refine z0 ?_ | (apply zI; refine zP (key) ?_) | (apply zI; refine zP (hdg) ?_) | (apply zI; refine zP (hag) ?_) | (refine And.intro (fun h => ?_) (fun h => ?_) <;> (try simp only [cnt1, ints_length, rows_length, Tb_length, L_length, byts_length] at h) <;> first | (exfalso; first | omega | exact h trivial | (cases h; done)) | skip) | refine zS ?_ | refine zV ?_ | (apply zI; refine zP vObt ?_) | (apply zI; refine zP vObx ?_) | refine zA ?_ | refine Alt.fst ?_ | refine Or.inl ?_) <;> conv => whnf) | fail
      · have e : exC m t m t' = 0 := by unfold exC; rw [if_pos hc, if_neg h22, if_neg ha]
        rw [e, if_pos rfl]
        obtain ⟨x1, x2, x3⟩ := hx e
        have hmi := c_l07Gap hmd o p o' p' t.length (by omega) (rd2 m t) (rd2 m t')
        have hfa := fun o p => c_l07Factor hmd o p t.length (by omega) (rd2 m t' + PS.C (PS.C (Zm.mk m (m - 1))) * rd2 m t) x x1 (gap_fac.2 x2) (fun j hj hf => x3 j hj (gap_fac.1 hf))
        simp only [TbD, eT, eT'] at hmi
        refine pure_of_vcR Tryz.tabOk mixOrd Tryz.func107 rfl rfl ?_
        conv => whnf
        repeat' first | ((first | refine z0 ?_ | (apply zI; refine zP (key) ?_) | (apply zI; refine zP (hdg) ?_) | (apply zI; refine zP (hag) ?_) | (apply zI; refine zP (hmi) ?_) | (apply zI; refine zP (hfa _ _) ?_) | (refine And.intro (fun h => ?_) (fun h => ?_) <;> (try simp only [cnt1, ints_length, rows_length, Tb_length, L_length, byts_length] at h) <;> first | (exfalso; first | omega | exact h trivial | (cases h; done)) | skip) | refine zS ?_ | refine zV ?_ | (apply zI; refine zP vObt ?_) | (apply zI; refine zP vObx ?_) | refine zA ?_ | refine Alt.fst ?_ | refine Or.inl ?_) <;> conv => whnf) | fail
  · exact c_specExtensionFactorN o p o' p' m t hl hr m' t' hl' hr' hc x
end Go.Proofs

