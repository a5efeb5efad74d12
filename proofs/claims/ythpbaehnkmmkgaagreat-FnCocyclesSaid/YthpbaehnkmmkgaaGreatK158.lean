/- Draws of cocycles, of extensions and of numbers of laws. -/
-- tables
-- rec
import Derived.Test.YthpbaehnkmmkgaaGreatK157
import Derived.Test.YthpbaehnkmmkgaaGreatK21
import Derived.Test.YthpbaehnkmmkgaaGreatK154
namespace Go.Proofs
open Go Go.Vm Go.Fg Go.Fg.PS
set_option maxRecDepth 100000
set_option maxHeartbeats 4000000
set_option linter.unusedSimpArgs false
set_option linter.unusedVariables false
variable {m : Int}
theorem triP_Tb (n : Nat) (f : PS (PS (Zm m))) : triP n (Tb n f) ∧ (Tb n f).length = n := by
  refine ⟨⟨by simp, fun i hi => ?_⟩, by simp⟩
  rw [Tb_length] at hi
  rw [Tb_getD f hi]; simp
theorem setT_row (t : List (List Int)) (i j k : Nat) (x : Int) : ((setT t i j x).getD k []).length = (t.getD k []).length := by
  unfold setT
  by_cases e : i = k
  · subst e
    by_cases h : i < t.length
    · simp [List.getD_eq_getElem?_getD, h]
    · simp [List.getD_eq_getElem?_getD, h]
  · simp [List.getD_eq_getElem?_getD, e]
theorem c_l07Draw (o : Bool) (l : List Nat) (hb : ∀ b ∈ l, b < 256) (hl : l.length ≤ 4611686018427387904) (a : Nat) (ha : a ≤ l.length) (hs : Int) :
    CallsTo Tryz.prog 277 2 [.ptr 1 [] 0] [none, some (srcR o l a hs)]
      (fun d rt => ∃ (m : Int) (t : List (List Int)) (a' : Nat) (h' : Int), (0 ≤ m ∧ m ≤ 10001) ∧ smT t ∧ a' ≤ l.length ∧ d = plF m t ∧ rt = [none, some (srcR o l a' h')]) := by
  refine callsTo_of Tryz.tabOk mixOrd 2 _ Tryz.func277 rfl rfl ?_
  conv => whnf
  repeat' first | (refine borA [1] (c_l01DrawModulus o l hb hl a ha hs) (fun d rt' hd => ?_)) | ((first | refine z0 ?_ | refine Alt.snd (And.intro (show mixOk _ _ = true by decide +kernel) ?_) | refine And.intro (show (_ : List (Option Root))[_]? = _ from rfl) ?_ | (refine And.intro (fun h => ?_) (fun h => ?_) <;> (try simp only [cnt1, ints_length] at h)) | refine zS ?_ | refine zV ?_ | (apply zI; refine zP vObt ?_) | (apply zI; refine zP vObx ?_) | refine zA ?_ | refine Alt.fst ?_ | refine Or.inl ?_) <;> conv => whnf) | fail
  obtain ⟨m, a1, h1, hm0, ha1, rfl, rfl⟩ := hd
  refine ⟨rfl, by simp, ?_⟩
  conv => whnf
  have hm : Md m := ⟨hm0.1, hm0.2⟩
  repeat' first | (refine borA [1] (c_l01Next o l hb hl a1 ha1 h1 9) (fun d rt' hd => ?_)) | ((first | refine z0 ?_ | refine Alt.snd (And.intro (show mixOk _ _ = true by decide +kernel) ?_) | refine And.intro (show (_ : List (Option Root))[_]? = _ from rfl) ?_ | (refine And.intro (fun h => ?_) (fun h => ?_) <;> (try simp only [cnt1, ints_length] at h)) | refine zS ?_ | refine zV ?_ | (apply zI; refine zP vObt ?_) | (apply zI; refine zP vObx ?_) | refine zA ?_ | refine Alt.fst ?_ | refine Or.inl ?_) <;> conv => whnf) | fail
  obtain ⟨y, a2, h2, hy, ha2, rfl, rfl⟩ := hd
  refine ⟨rfl, by simp, ?_⟩
  conv => whnf
  have hy2 := hy.2 (by omega)
  repeat' first | (refine borA [1] (c_l01Next o l hb hl a2 ha2 h2 m) (fun d rt' hd => ?_)) | ((first | refine z0 ?_ | refine Alt.snd (And.intro (show mixOk _ _ = true by decide +kernel) ?_) | refine And.intro (show (_ : List (Option Root))[_]? = _ from rfl) ?_ | (refine And.intro (fun h => ?_) (fun h => ?_) <;> (try simp only [cnt1, ints_length] at h)) | refine zS ?_ | refine zV ?_ | (apply zI; refine zP vObt ?_) | (apply zI; refine zP vObx ?_) | refine zA ?_ | refine And.intro ((inR64 (by omega) (by omega))) ?_ | refine Alt.fst ?_ | refine Or.inl ?_) <;> conv => whnf) | fail
  obtain ⟨z, a3, h3, hz, ha3, rfl, rfl⟩ := hd
  refine ⟨rfl, by simp, ?_⟩
  conv => whnf
  have hz2 := hz.2 (by omega)
  have key := fun o p => c_l03Scale hm o p ((y + 2).toNat + 1) (by omega) (Zm.mk m z) (Z := z) (by rw [Zm.val_mk, Int.emod_eq_of_lt hz2.1 hz2.2]) (topP (y + 2).toNat (fun i => Zm.mk m (lazV (y + 2).toNat i)))
  obtain ⟨N, hN⟩ : ∃ N, N = (y + 2).toNat := ⟨_, rfl⟩
  rw [← hN] at key
  obtain ⟨t, ⟨ht1, ht2⟩, key2⟩ : ∃ t, (triP (N + 1) t ∧ t.length = N + 1) ∧ ∀ o p, PureCall Tryz.prog 300 [dint m, dint z, TbD o p (N + 1) (topP N fun i => Zm.mk m ↑(lazV N i))] (.list true 1 (rows true t)) := ⟨_, triP_Tb _ _, fun o p => key o p⟩
  clear key
  have hsm := triP_smT (by omega) ht1
  repeat' first | (refine borA [1] (c_l01Next o l hb hl a3 ha3 h3 10) (fun d rt' hd => ?_)) | ((first | refine z0 ?_ | refine Alt.snd (And.intro (show mixOk _ _ = true by decide +kernel) ?_) | refine And.intro (show (_ : List (Option Root))[_]? = _ from rfl) ?_ | (apply zI; refine zP (c_l07Cocycle hm N (by omega) (by omega)) ?_) | (apply zI; refine zP (key2 _ _) ?_) | (refine And.intro (fun h => ?_) (fun h => ?_) <;> (try simp only [cnt1, ints_length] at h)) | refine zS ?_ | refine zV ?_ | (apply zI; refine zP vObt ?_) | (apply zI; refine zP vObx ?_) | refine zA ?_ | refine Alt.fst ?_ | refine Or.inl ?_) <;> conv => whnf) | fail
  obtain ⟨x, a4, h4, hx, ha4, rfl, rfl⟩ := hd
  refine ⟨rfl, by simp, ?_⟩
  conv => whnf
  have hx2 := hx.2 (by omega)
  repeat' first | (refine borA [1] (c_l01Next o l hb hl a4 ha4 h4 (2 + y)) (fun d rt' hd => ?_)) | (refine borA [1] (c_l01Next o l hb hl a4 ha4 h4 (2 + y - 1)) (fun d rt' hd => ?_)) | (refine borA [1] (c_l03Spoil o l hb hl a4 ha4 h4) (fun d rt' hd => ?_)) | ((first | refine z0 ?_ | refine Alt.snd (And.intro (show mixOk _ _ = true by decide +kernel) ?_) | refine And.intro (show (_ : List (Option Root))[_]? = _ from rfl) ?_ | refine Or.inl (Or.inr (And.intro (mk_l03Make) ?_)) | refine Or.inr (And.intro (mk_l03Make) ?_) | (refine And.intro (fun h => ?_) (fun h => ?_) <;> (try simp only [cnt1, ints_length, rows_length, Tb_length, L_length, byts_length] at h) <;> first | (exfalso; first | omega | exact h trivial | (cases h; done)) | skip) | refine zS ?_ | refine zV ?_ | (apply zI; refine zP vObt ?_) | (apply zI; refine zP vObx ?_) | refine zA ?_ | refine And.intro ((inR64 (by omega) (by omega))) ?_ | refine Alt.fst ?_ | refine Or.inl ?_) <;> conv => whnf) | fail
  · obtain ⟨i, a5, h5, hi, ha5, rfl, rfl⟩ := hd
    refine ⟨rfl, by simp, ?_⟩
    conv => whnf
    have hi2 := hi.2 (by omega)
    have e1 : cnt 1 (ints (t.getD i.toNat [])) = N + 1 - i.toNat := by
      rw [← ht1.2 i.toNat (by omega)]; simp [cnt, ints]
    repeat' first | (refine borA [1] (c_l01Next o l hb hl a5 ha5 h5 ((cnt 1 (ints (t.getD i.toNat []))) : Nat)) (fun d rt' hd => ?_)) | ((first | refine z0 ?_ | refine Alt.snd (And.intro (show mixOk _ _ = true by decide +kernel) ?_) | refine And.intro (show (_ : List (Option Root))[_]? = _ from rfl) ?_ | (refine And.intro (fun h => ?_) (fun h => ?_) <;> (try simp only [cnt1, ints_length, rows_length, Tb_length, L_length, byts_length] at h) <;> first | (exfalso; first | omega | exact h trivial | (cases h; done)) | skip) | refine zS ?_ | refine zV ?_ | (apply zI; refine zP vObt ?_) | (apply zI; refine zP vObx ?_) | refine zA ?_ | refine Alt.fst ?_ | refine Or.inl ?_) <;> conv => whnf) | fail
    obtain ⟨j, a6, h6, hj, ha6, rfl, rfl⟩ := hd
    refine ⟨rfl, by simp, ?_⟩
    conv => whnf
    have hj2 := hj.2 (by omega)
    repeat' first | (refine borA [1] (c_l01Next o l hb hl a6 ha6 h6 m) (fun d rt' hd => ?_)) | ((first | refine z0 ?_ | refine Alt.snd (And.intro (show mixOk _ _ = true by decide +kernel) ?_) | refine And.intro (show (_ : List (Option Root))[_]? = _ from rfl) ?_ | (refine And.intro (fun h => ?_) (fun h => ?_) <;> (try simp only [cnt1, ints_length, rows_length, Tb_length, L_length, byts_length] at h) <;> first | (exfalso; first | omega | exact h trivial | (cases h; done)) | skip) | refine zS ?_ | refine zV ?_ | (apply zI; refine zP vObt ?_) | (apply zI; refine zP vObx ?_) | refine zA ?_ | refine Alt.fst ?_ | refine Or.inl ?_) <;> conv => whnf) | fail
    obtain ⟨v, a7, h7, hv, ha7, rfl, rfl⟩ := hd
    refine ⟨rfl, by simp, ?_⟩
    conv => whnf
    repeat' first | ((first | refine z0 ?_ | refine Alt.snd (And.intro (show mixOk _ _ = true by decide +kernel) ?_) | refine And.intro (show (_ : List (Option Root))[_]? = _ from rfl) ?_ | (apply zI; refine zP (exact hj2) ?_) | refine Or.inl (Or.inr (And.intro (mk_l03Make) ?_)) | refine Or.inr (And.intro (mk_l03Make) ?_) | (refine And.intro (fun h => ?_) (fun h => ?_) <;> (try simp only [cnt1, ints_length, rows_length, Tb_length, L_length, byts_length] at h) <;> first | (exfalso; first | omega | exact h trivial | (cases h; done)) | skip) | refine zS ?_ | refine zV ?_ | (apply zI; refine zP vObt ?_) | (apply zI; refine zP vObx ?_) | refine zA ?_ | refine And.intro (rows_plain _) ?_ | refine Alt.fst ?_ | refine Or.inl ?_) <;> conv => whnf) | fail
    first
      | (refine ⟨.agg [dint m, .list false 1 (rows false (setT t i.toNat j.toNat v))], [none, some (srcR o l a7 h7)], ⟨m, setT t i.toNat j.toNat v, a7, h7, by omega, smT_set hsm _ _ _, ha7, rfl, rfl⟩, Weak.trans (Weak.freezeR (kp := 2) (r := 4) (s0 := 1) (env' := [.agg [dint m, .list false 1 (rows false (setT t i.toNat j.toNat v))]]) rfl rfl (fz_one (fz_pl (by simp only [cnt1, rows_length, setT_length]; omega) (by rw [List.drop_zero, List.take_of_length_le (by simp only [cnt1, rows_length, setT_length]; omega)])))) (wkA (kp := 2) [none, some 1])⟩)
  · obtain ⟨i, a5, h5, hi, ha5, rfl, rfl⟩ := hd
    refine ⟨rfl, by simp, ?_⟩
    conv => whnf
    have hi2 := hi.2 (by omega)
    have e1 : cnt 1 (ints (t.getD (1 + i).toNat [])) = N + 1 - (1 + i).toNat := by
      rw [← ht1.2 (1 + i).toNat (by omega)]; simp [cnt, ints]
    have e2 : 0 ≤ 1 + i ∧ 1 + i < ((cnt 1 (ints (t.getD (2 + y - (1 + i)).toNat []))) : Nat) := by
      have : cnt 1 (ints (t.getD (2 + y - (1 + i)).toNat [])) = N + 1 - (2 + y - (1 + i)).toNat := by
        rw [← ht1.2 (2 + y - (1 + i)).toNat (by omega)]; simp [cnt, ints]
      omega
    repeat' first | ((first | refine z0 ?_ | refine Alt.snd (And.intro (show mixOk _ _ = true by decide +kernel) ?_) | refine And.intro (show (_ : List (Option Root))[_]? = _ from rfl) ?_ | refine Or.inl (Or.inr (And.intro (mk_l03Make) ?_)) | refine Or.inr (And.intro (mk_l03Make) ?_) | (apply zI; refine zP (exact e2) ?_) | (apply zI; refine zP (vStoreR (i := (2 + y - (1 + i)).toNat) (j := (1 + i).toNat) _ vIx vIx (by rw [setT_length]; omega) (by rw [setT_row, ht1.2 _ (by omega)]; omega)) ?_) | (refine And.intro (fun h => ?_) (fun h => ?_) <;> (try simp only [cnt1, ints_length, rows_length, Tb_length, L_length, byts_length] at h) <;> first | (exfalso; first | omega | exact h trivial | (cases h; done)) | skip) | refine zS ?_ | refine zV ?_ | (apply zI; refine zP vObt ?_) | (apply zI; refine zP vObx ?_) | refine zA ?_ | refine And.intro (rows_plain _) ?_ | refine And.intro ((inR64 (by omega) (by omega))) ?_ | refine Alt.fst ?_ | refine Or.inl ?_) <;> conv => whnf) | fail
    first
      | (refine ⟨.agg [dint m, .list false 1 (rows false (setT (setT t (1 + i).toNat (2 + y - (1 + i)).toNat 1) (2 + y - (1 + i)).toNat (1 + i).toNat 1))], [none, some (srcR o l a5 h5)], ⟨m, setT (setT t (1 + i).toNat (2 + y - (1 + i)).toNat 1) (2 + y - (1 + i)).toNat (1 + i).toNat 1, a5, h5, by omega, smT_set (smT_set hsm _ _ _) _ _ _, ha5, rfl, rfl⟩, Weak.trans (Weak.freezeR (kp := 2) (r := 4) (s0 := 1) (env' := [.agg [dint m, .list false 1 (rows false (setT (setT t (1 + i).toNat (2 + y - (1 + i)).toNat 1) (2 + y - (1 + i)).toNat (1 + i).toNat 1))]]) rfl rfl (fz_one (fz_pl (by simp only [cnt1, rows_length, setT_length]; omega) (by rw [List.drop_zero, List.take_of_length_le (by simp only [cnt1, rows_length, setT_length]; omega)])))) (wkA (kp := 2) [none, some 1])⟩)
  · obtain ⟨m', t', a5, h5, hm', ht', ha5, rfl, rfl⟩ := hd
    refine ⟨rfl, by simp, ?_⟩
    conv => whnf
    repeat' first | ((first | refine z0 ?_ | refine Alt.snd (And.intro (show mixOk _ _ = true by decide +kernel) ?_) | refine And.intro (show (_ : List (Option Root))[_]? = _ from rfl) ?_ | (refine And.intro (fun h => ?_) (fun h => ?_) <;> (try simp only [cnt1, ints_length, rows_length, Tb_length, L_length, byts_length] at h) <;> first | (exfalso; first | omega | exact h trivial | (cases h; done)) | skip) | refine zS ?_ | refine zV ?_ | (apply zI; refine zP vObt ?_) | (apply zI; refine zP vObx ?_) | refine zA ?_ | refine Alt.fst ?_ | refine Or.inl ?_) <;> conv => whnf) | fail
    refine ⟨plF m' t', [none, some (srcR o l a5 h5)], ⟨m', t', a5, h5, hm', ht', ha5, rfl, rfl⟩, Weak.of (kp := 2) [none, some 1] ?_⟩
    conv => whnf
    repeat' ((first | refine z1 ?_ | refine z2 ?_ | refine zV ?_ | refine And.intro ?_ ?_ | exact trivial) <;> try (conv => whnf))
  · first
      | (refine ⟨.agg [dint m, .list false 1 (rows false t)], [none, some (srcR o l a4 h4)], ⟨m, t, a4, h4, by omega, hsm, ha4, rfl, rfl⟩, Weak.trans (Weak.freezeR (kp := 2) (r := 4) (s0 := 1) (env' := [.agg [dint m, .list false 1 (rows false t)]]) rfl rfl (fz_one (fz_pl (by simp only [cnt1, rows_length, setT_length]; omega) (by rw [List.drop_zero, List.take_of_length_le (by simp only [cnt1, rows_length, setT_length]; omega)])))) (wkA (kp := 2) [none, some 1])⟩)
end Go.Proofs

