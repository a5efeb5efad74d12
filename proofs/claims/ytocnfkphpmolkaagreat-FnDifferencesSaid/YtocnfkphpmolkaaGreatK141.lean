/- The law of first differences. -/
-- tables
-- rec
import Derived.Test.YtocnfkphpmolkaaGreatK136
import Derived.Test.YtocnfkphpmolkaaGreatK137
import Derived.Test.YtocnfkphpmolkaaGreatKW
namespace Go.Proofs
open Go Go.Vm Go.Fg Go.Fg.PS
set_option maxRecDepth 100000
set_option maxHeartbeats 4000000
set_option linter.unusedSimpArgs false
set_option linter.unusedVariables false
theorem row_dfP {m : Int} (F G : PS (PS (Zm m))) {k i : Nat} (h : i ≤ k) {a b : Nat} (ha : a = k + 1 - i) (hb : b = k - i) : (List.replicate a (0 : Int)).set b ((fdL F G k (k + 1)).getD i 0) = L (k + 1 - i) ((dfP F G k).c i) := by
  subst ha
  subst hb
  rw [← L_zero (m := m)]
  refine L_set_eq (tpc (dfP F G k) k i) (fdL_at h) (fun j hj => ?_)
  rw [upd_c]
  by_cases e : j = k - i
  · rw [if_pos e, e]; rfl
  · rw [if_neg e]
    show (0 : Zm m) = ((dfP F G k).c i).c j
    unfold dfP
    rw [topP_cc, if_neg (by omega)]
theorem fac_at {m : Int} (hm : Md m) {F G : PS (PS (Zm m))} {k x j : Nat} (hx : x < m.toNat) (h : FacP (dfP F G k) k x) (hj : j ≤ k) : (fdL F G k (k + 1)).getD j 0 = ((x : Int) * (Zm.mk m (lazV k j)).val).tmod m := by
  have h1 := Zm.val_range hm.pos (Zm.mk m (lazV k j))
  rw [fdL_at hj, ← h j hj]
  exact (Zm.tmod_val (Int.mul_nonneg (by omega) h1.1) (by rw [Zm.mk_mul, Zm.mk_val])).symm
theorem c_FnDifferences (hW : Wei) (l : List Nat) (hb : ∀ b ∈ l, b < 256) (hl : l.length ≤ 9223372036854775807) : PureCall Tryz.prog 4 [.list false 1 (byts l)] (dbool true) := by
  have hbig := c_big false l hl
  by_cases h0 : 4096 < l.length
  · rw [show decide (4096 < l.length) = true by simp [h0]] at hbig
    refine pure_of_vcR Tryz.tabOk mixOrd Tryz.func4 rfl rfl ?_
    conv => whnf
    repeat' first | ((exfalso; cases (by assumption : true = false))) | ((first | refine And.intro (Or.inl rfl) ?_ | (apply Exists.intro; refine And.intro (hbig) ?_) | (refine And.intro (fun h => ?_) (fun h => ?_) <;> (try simp only [cnt1, ints_length] at h)) | refine And.intro (show slotsOk _ = true by decide +kernel) ?_ | refine And.intro vOb ?_ | (apply Exists.intro; refine And.intro vObt ?_) | (apply Exists.intro; refine And.intro vObx ?_) | refine And.intro vArT ?_ | refine Alt.fst ?_ | refine Or.inl ?_) <;> conv => whnf) | fail
  · rw [show decide (4096 < l.length) = false by simp [h0]] at hbig
    refine pure_of_vcR Tryz.tabOk mixOrd Tryz.func4 rfl rfl ?_
    conv => whnf
    repeat' first | ((exfalso; cases (by assumption : false = true))) | (refine bor_of [] (c_DrawFirstDifference hW false l hb (by omega)) (by decide) ?_ (fun d rt' hd => ?_); (focus ((conv => whnf); (repeat' ((first | refine And.intro rfl ?_ | refine And.intro (eqV_int vAr) ?_ | refine And.intro vOb ?_ | exact trivial) <;> (conv => whnf))); done))) | ((first | refine And.intro (Or.inl rfl) ?_ | (apply Exists.intro; refine And.intro (hbig) ?_) | (refine And.intro (fun h => ?_) (fun h => ?_) <;> (try simp only [cnt1, ints_length] at h)) | refine And.intro (show slotsOk _ = true by decide +kernel) ?_ | refine And.intro vOb ?_ | (apply Exists.intro; refine And.intro vObt ?_) | (apply Exists.intro; refine And.intro vObx ?_) | refine And.intro vArT ?_ | refine Alt.fst ?_ | refine Or.inl ?_) <;> conv => whnf) | fail
    obtain ⟨m, t, m', t', ⟨hm, ht⟩, ⟨hm', ht'⟩, rfl, rfl⟩ := hd
    refine ⟨rfl, by simp, ?_⟩
    conv => whnf
    have s1 := smT_lens ht
    have s2 := smT_lens ht'
    have e1 := fun o p o' p' => c_implFirstDifference o p o' p' m t s1.1 s1.2 m' t' s2.1 s2.2
    have e2 := fun o p o' p' => c_specFirstDifference o p o' p' m t s1.1 s1.2 m' t' s2.1 s2.2
    have e3 := fun o p o' p' => c_implAgreementOf o p o' p' m t s1.1 s1.2 m' t' s2.1 s2.2
    have e4 := fun o p o' p' => c_specAgreementOf o p o' p' m t s1.1 s1.2 m' t' s2.1 s2.2
    by_cases hc : twC m t m' t' = 0
    · rw [fdRes, if_pos hc] at e1 e2
      rw [agRes, if_pos hc] at e3 e4
      obtain ⟨h1, h2, rfl, hlen⟩ := twC_0 hc
      obtain ⟨⟨hmd, hn⟩, eT, hL⟩ := lawB_Tb h1
      obtain ⟨_, eT', hL'⟩ := lawB_Tb h2
      rw [← hlen] at eT' hL'
      generalize hN : t.length = N at *
      generalize rd2 m t = F at *
      generalize rd2 m t' = G at *
      subst eT
      subst eT'
      have hk := agr_le F G N
      by_cases hkN : agr F G N = N
      · rw [fd0, if_pos hkN] at e1 e2
        have hq := c_plane9 false false false false N (by omega) F G
        rw [show eqTB N F G = true by simp [eqTB, eqT_agr.2 hkN]] at hq
        rw [hkN] at e3 e4
        repeat' first | ((first | refine And.intro (Or.inl rfl) ?_ | (apply Exists.intro; refine And.intro (e1 _ _ _ _) ?_) | (apply Exists.intro; refine And.intro (e2 _ _ _ _) ?_) | (apply Exists.intro; refine And.intro (e3 _ _ _ _) ?_) | (apply Exists.intro; refine And.intro (e4 _ _ _ _) ?_) | (apply Exists.intro; refine And.intro (c_likeNil) ?_) | (apply Exists.intro; refine And.intro (hq) ?_) | (refine And.intro (fun h => ?_) (fun h => ?_) <;> (try simp only [cnt1, ints_length, rows_length, Tb_length, L_length, byts_length] at h) <;> first | (exfalso; first | omega | exact h trivial | (cases h; done)) | skip) | refine And.intro (show slotsOk _ = true by decide +kernel) ?_ | refine And.intro vOb ?_ | (apply Exists.intro; refine And.intro vObt ?_) | (apply Exists.intro; refine And.intro vObx ?_) | refine And.intro vArT ?_ | refine Alt.fst ?_ | refine Or.inl ?_) <;> conv => whnf) | fail
      · rw [fd0, if_neg hkN] at e1 e2
        have hq := c_plane9 false false false false N (by omega) F G
        rw [show eqTB N F G = false by simp [eqTB, eqT_agr, hkN]] at hq
        generalize hkk : agr F G N = k at *
        have hk2 := agr_two hn.1 hL hL'
        rw [hkk] at hk2
        have e5 := c_implLazardCocycle m ((k : Int) - 1 + 1)
        rw [show lazCode m ((k : Int) - 1 + 1) = 0 by unfold lazCode; simp [inB, Md] at *; omega, plRes, if_pos rfl, show ((k : Int) - 1 + 1).toNat = k by omega] at e5
        repeat' first | ((first | refine And.intro (Or.inl rfl) ?_ | (apply Exists.intro; refine And.intro (e1 _ _ _ _) ?_) | (apply Exists.intro; refine And.intro (e2 _ _ _ _) ?_) | (apply Exists.intro; refine And.intro (e3 _ _ _ _) ?_) | (apply Exists.intro; refine And.intro (e4 _ _ _ _) ?_) | (apply Exists.intro; refine And.intro (c_likeInts _ _ _ _ (by simp; omega) (by simp; omega)) ?_) | (apply Exists.intro; refine And.intro (hq) ?_) | (apply Exists.intro; refine And.intro (e5) ?_) | (refine And.intro (fun h => ?_) (fun h => ?_) <;> (try simp only [cnt1, ints_length, rows_length, Tb_length, L_length, byts_length] at h) <;> first | (exfalso; first | omega | exact h trivial | (cases h; done)) | skip) | refine And.intro (show slotsOk _ = true by decide +kernel) ?_ | refine And.intro vOb ?_ | (apply Exists.intro; refine And.intro vObt ?_) | (apply Exists.intro; refine And.intro vObx ?_) | refine And.intro vArT ?_ | refine Alt.fst ?_ | refine Or.inl ?_) <;> conv => whnf) | fail
        · exfalso; simp only [fdL_length] at h; omega
        have hcP : CocP (dfP F G k) k := by
          have := df_coc hn hL hL' (show agr F G N < N by omega)
          rwa [hkk] at this
        have hcT := cocP_Tb (N := k + 1) (by omega) hcP
        have hcB : cocB m (Tb (k + 1) (dfP F G k)) = true := by
          rw [cocB_yes (plB_TbT hmd (by omega) _), Tb_length, Nat.add_sub_cancel]
          exact tr_yes hcT
        obtain ⟨x, hx, hf, hmin⟩ := fac_ex hmd ⟨hk2, by omega⟩ hcT
        have e6 : ∀ o p, PureCall Tryz.prog 39 [.agg [dint m, .list o 1 (rows p (TbP (k + 1) (k + 1) (dfP F G k)))]] (.tup [dint x, dint 0]) := fun o p => c_implCocycleFactorY o p m (Tb (k + 1) (dfP F G k)) (by simp; omega) (lensOk_Tb (by omega) _) hcB x hx (by rw [Tb_length, Nat.add_sub_cancel]; exact hf) (by rw [Tb_length, Nat.add_sub_cancel]; exact hmin)
        have hf2 := (facP_Tb (show k < k + 1 by omega)).1 hf
        clear hmin hf hcT hcB hcP e1 e2 e3 e4 e5 hq h1 h2 hc ht ht' s1 s2
        refine loop_cutR Tryz.tabOk mixOrd 22 (α := Nat) (fun i => [(17, dint i), (18, .undef)]) (fun i => [(17, some ⟨true, 1, [dint m, .ref 18 [] 1 0 i]⟩), (18, some ⟨false, 1, rows true (TbP (k + 1) i (dfP F G k))⟩)]) (fun i => i ≤ k + 1) (fun i => k + 1 - i) (0) ?_ ?_ ?_
        · omega
        · conv => whnf
          first | refine WeakS.autoR ?_ | refine Weak.autoR ?_
          conv => whnf
          repeat' ((first | refine And.intro rfl ?_ | refine And.intro (eqV_int vAr) ?_ | refine And.intro vOb ?_ | refine And.intro vRepl ?_ | refine And.intro vReplL ?_ | refine And.intro ?_ ?_ | exact trivial) <;> try (conv => whnf))
        intro i hi
        conv => whnf
        repeat' first | ((first | refine And.intro (Or.inl rfl) ?_ | (refine And.intro (fun h => ?_) (fun h => ?_) <;> (try simp only [cnt1, ints_length, rows_length, Tb_length, L_length, byts_length] at h) <;> first | (exfalso; first | omega | exact h trivial | (cases h; done)) | skip) | refine And.intro (show slotsOk _ = true by decide +kernel) ?_ | refine And.intro vOb ?_ | (apply Exists.intro; refine And.intro vObt ?_) | (apply Exists.intro; refine And.intro vObx ?_) | refine And.intro vArT ?_ | refine Alt.fst ?_ | refine Or.inl ?_) <;> conv => whnf) | fail
        · refine Exists.intro (i + 1) (And.intro (by omega) (And.intro (by omega) ?_))
          first | refine WeakS.autoR ?_ | refine Weak.autoR ?_
          conv => whnf
          repeat' ((first | refine And.intro rfl ?_ | refine And.intro (eqV_int vAr) ?_ | refine And.intro vOb ?_ | refine And.intro vRepl ?_ | refine And.intro vReplL ?_ | refine And.intro ?_ ?_ | exact trivial) <;> try (conv => whnf))
          all_goals exact rows_congr (TbP_push (row_dfP F G (by omega) (by omega) (by omega)))
        have hik : i = k + 1 := by omega
        subst hik
        refine Exists.intro _ (And.intro (e6 _ _) ?_)
        conv => whnf
        repeat' first | ((first | refine And.intro (Or.inl rfl) ?_ | (refine And.intro (fun h => ?_) (fun h => ?_) <;> (try simp only [cnt1, ints_length, rows_length, Tb_length, L_length, byts_length] at h) <;> first | (exfalso; first | omega | exact h trivial | (cases h; done)) | skip) | refine And.intro (show slotsOk _ = true by decide +kernel) ?_ | refine And.intro vOb ?_ | (apply Exists.intro; refine And.intro vObt ?_) | (apply Exists.intro; refine And.intro vObx ?_) | refine And.intro vArT ?_ | refine Alt.fst ?_ | refine Or.inl ?_) <;> conv => whnf) | fail
        refine loop_cutR Tryz.tabOk mixOrd 22 (α := Nat) (fun i => [(21, dint i)]) (fun i => []) (fun i => i ≤ k + 1) (fun i => k + 1 - i) (0) ?_ ?_ ?_
        · omega
        · conv => whnf
          first | refine WeakS.autoR ?_ | refine Weak.autoR ?_
          conv => whnf
          repeat' ((first | refine And.intro rfl ?_ | refine And.intro (eqV_int vAr) ?_ | refine And.intro vOb ?_ | refine And.intro vRepl ?_ | refine And.intro vReplL ?_ | refine And.intro ?_ ?_ | exact trivial) <;> try (conv => whnf))
        intro j hj
        conv => whnf
        by_cases hjk : j ≤ k
        · have hfa := fac_at hmd hx hf2 hjk
          have hb2 := hmd.mul (Zm.mk m x) (Zm.mk m (lazV k j))
          rw [Zm.val_of_range (show 0 ≤ (x : Int) ∧ (x : Int) < m by have := hmd.1; omega)] at hb2
          have e9 : ((topP k fun i => Zm.mk m (lazV k i : Nat)).c j).c ((k : Int) - 1 + 1 - (j : Int)).toNat = Zm.mk m (lazV k j : Nat) := by
            rw [show ((k : Int) - 1 + 1 - (j : Int)).toNat = k - j by omega, topP_cc, if_pos (by omega)]
          have hin : inR IntKind.i64 ((x : Int) * (((topP k fun i => Zm.mk m (lazV k i : Nat)).c j).c ((k : Int) - 1 + 1 - (j : Int)).toNat).val) := by
            rw [e9]; exact inR64 (by omega) (by omega)
          rw [← e9] at hfa
          repeat' first | ((first | refine And.intro (Or.inl rfl) ?_ | (refine And.intro (fun h => ?_) (fun h => ?_) <;> (try simp only [cnt1, ints_length, rows_length, Tb_length, L_length, byts_length] at h) <;> first | (exfalso; first | omega | exact h trivial | (cases h; done)) | skip) | refine And.intro (show slotsOk _ = true by decide +kernel) ?_ | refine And.intro vOb ?_ | (apply Exists.intro; refine And.intro vObt ?_) | (apply Exists.intro; refine And.intro vObx ?_) | refine And.intro vArT ?_ | refine And.intro (hin) ?_ | refine Alt.fst ?_ | refine Or.inl ?_) <;> conv => whnf) | fail
          refine Exists.intro (j + 1) (And.intro (by omega) (And.intro (by omega) ?_))
          first | refine WeakS.autoR ?_ | refine Weak.autoR ?_
          conv => whnf
          repeat' ((first | refine And.intro rfl ?_ | refine And.intro (eqV_int vAr) ?_ | refine And.intro vOb ?_ | refine And.intro vRepl ?_ | refine And.intro vReplL ?_ | refine And.intro ?_ ?_ | exact trivial) <;> try (conv => whnf))
        · repeat' first | ((first | refine And.intro (Or.inl rfl) ?_ | (refine And.intro (fun h => ?_) (fun h => ?_) <;> (try simp only [cnt1, ints_length, rows_length, Tb_length, L_length, byts_length] at h) <;> first | (exfalso; first | omega | exact h trivial | (cases h; done)) | skip) | refine And.intro (show slotsOk _ = true by decide +kernel) ?_ | refine And.intro vOb ?_ | (apply Exists.intro; refine And.intro vObt ?_) | (apply Exists.intro; refine And.intro vObx ?_) | refine And.intro vArT ?_ | refine Alt.fst ?_ | refine Or.inl ?_) <;> conv => whnf) | fail
    · rw [fdRes, if_neg hc] at e1 e2
      rw [agRes, if_neg hc] at e3 e4
      repeat' first | ((first | refine And.intro (Or.inl rfl) ?_ | (apply Exists.intro; refine And.intro (e1 _ _ _ _) ?_) | (apply Exists.intro; refine And.intro (e2 _ _ _ _) ?_) | (apply Exists.intro; refine And.intro (e3 _ _ _ _) ?_) | (apply Exists.intro; refine And.intro (e4 _ _ _ _) ?_) | (apply Exists.intro; refine And.intro (c_likeNil) ?_) | (refine And.intro (fun h => ?_) (fun h => ?_) <;> (try simp only [cnt1, ints_length, rows_length, Tb_length, L_length, byts_length] at h) <;> first | (exfalso; first | omega | exact h trivial | (cases h; done)) | skip) | refine And.intro (show slotsOk _ = true by decide +kernel) ?_ | refine And.intro vOb ?_ | (apply Exists.intro; refine And.intro vObt ?_) | (apply Exists.intro; refine And.intro vObx ?_) | refine And.intro vArT ?_ | refine Alt.fst ?_ | refine Or.inl ?_) <;> conv => whnf) | fail
end Go.Proofs

