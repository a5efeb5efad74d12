/- Draws of planes, seldom spoilt. -/
-- tables
-- rec
import Derived.Test.YthpbaehnkmmkgaaGreatK156
namespace Go.Proofs
open Go Go.Vm Go.Fg Go.Fg.PS
set_option maxRecDepth 100000
set_option maxHeartbeats 4000000
set_option linter.unusedSimpArgs false
set_option linter.unusedVariables false
variable {m : Int}
theorem triP_smT {n : Nat} {t : List (List Int)} (hn : n ≤ 11) (h : triP n t) : smT t := by
  refine ⟨by have := h.1; omega, fun k => ?_⟩
  by_cases hk : k < t.length
  · rw [h.2 k hk]; omega
  · simp [List.getD_eq_getElem?_getD, hk]
theorem smT_take {t : List (List Int)} (h : smT t) (k : Nat) : smT (t.take k) := by
  refine ⟨by rw [List.length_take]; have := h.1; omega, fun i => ?_⟩
  by_cases hi : i < k
  · rw [List.getD_eq_getElem?_getD, List.getElem?_take_of_lt hi, ← List.getD_eq_getElem?_getD]; exact h.2 i
  · rw [List.getD_eq_getElem?_getD, List.getElem?_take_eq_none (by omega)]; simp
theorem c_l03Draw (o : Bool) (l : List Nat) (hb : ∀ b ∈ l, b < 256) (hl : l.length ≤ 4611686018427387904) (a : Nat) (ha : a ≤ l.length) (hs : Int) :
    CallsTo Tryz.prog 440 2 [.ptr 1 [] 0] [none, some (srcR o l a hs)]
      (fun d rt => ∃ (m : Int) (n : Nat) (t : List (List Int)) (a' : Nat) (h' : Int), (2 ≤ m ∧ m ≤ 10000) ∧ (2 ≤ n ∧ n ≤ 11) ∧ (triP n t ∧ t.length = n) ∧ a' ≤ l.length ∧ d = .agg [dint m, .ref 2 [] 1 0 n] ∧ rt = [none, some (srcR o l a' h'), some ⟨false, 1, rows true t⟩]) := by
  refine callsTo_of Tryz.tabOk mixOrd 2 _ Tryz.func440 rfl rfl ?_
  conv => whnf
  repeat' first | (refine borA [1] (c_l01DrawModulus o l hb hl a ha hs) (fun d rt' hd => ?_)) | ((first | refine z0 ?_ | refine Alt.snd (And.intro (show mixOk _ _ = true by decide +kernel) ?_) | refine And.intro (show (_ : List (Option Root))[_]? = _ from rfl) ?_ | (refine And.intro (fun h => ?_) (fun h => ?_) <;> (try simp only [cnt1, ints_length] at h)) | refine zS ?_ | refine zV ?_ | (apply zI; refine zP vObt ?_) | (apply zI; refine zP vObx ?_) | refine zA ?_ | refine Alt.fst ?_ | refine Or.inl ?_) <;> conv => whnf) | fail
  obtain ⟨m, a1, h1, hm0, ha1, rfl, rfl⟩ := hd
  refine ⟨rfl, by simp, ?_⟩
  conv => whnf
  repeat' first | (refine borA [1] (c_l01Next o l hb hl a1 ha1 h1 4) (fun d rt' hd => ?_)) | ((first | refine z0 ?_ | refine Alt.snd (And.intro (show mixOk _ _ = true by decide +kernel) ?_) | refine And.intro (show (_ : List (Option Root))[_]? = _ from rfl) ?_ | (refine And.intro (fun h => ?_) (fun h => ?_) <;> (try simp only [cnt1, ints_length] at h)) | refine zS ?_ | refine zV ?_ | (apply zI; refine zP vObt ?_) | (apply zI; refine zP vObx ?_) | refine zA ?_ | refine Alt.fst ?_ | refine Or.inl ?_) <;> conv => whnf) | fail
  obtain ⟨x, a2, h2, hx, ha2, rfl, rfl⟩ := hd
  refine ⟨rfl, by simp, ?_⟩
  conv => whnf
  have hx2 := hx.2 (by omega)
  repeat' first | (refine borA [1] (c_l01Next o l hb hl a2 ha2 h2 6) (fun d rt' hd => ?_)) | ((first | refine z0 ?_ | refine Alt.snd (And.intro (show mixOk _ _ = true by decide +kernel) ?_) | refine And.intro (show (_ : List (Option Root))[_]? = _ from rfl) ?_ | (refine And.intro (fun h => ?_) (fun h => ?_) <;> (try simp only [cnt1, ints_length] at h)) | refine zS ?_ | refine zV ?_ | (apply zI; refine zP vObt ?_) | (apply zI; refine zP vObx ?_) | refine zA ?_ | refine Alt.fst ?_ | refine Or.inl ?_) <;> conv => whnf) | fail
  obtain ⟨y, a3, h3, hy, ha3, rfl, rfl⟩ := hd
  refine ⟨rfl, by simp, ?_⟩
  conv => whnf
  have hy2 := hy.2 (by omega)
  repeat' first | (refine borA [1] (c_l01Next o l hb hl a3 ha3 h3 10) (fun d rt' hd => ?_)) | ((first | refine z0 ?_ | refine Alt.snd (And.intro (show mixOk _ _ = true by decide +kernel) ?_) | refine And.intro (show (_ : List (Option Root))[_]? = _ from rfl) ?_ | (refine And.intro (fun h => ?_) (fun h => ?_) <;> (try simp only [cnt1, ints_length] at h)) | refine zS ?_ | refine zV ?_ | (apply zI; refine zP vObt ?_) | (apply zI; refine zP vObx ?_) | refine zA ?_ | refine Alt.fst ?_ | refine Or.inl ?_) <;> conv => whnf) | fail
  obtain ⟨z, a4, h4, hz, ha4, rfl, rfl⟩ := hd
  refine ⟨rfl, by simp, ?_⟩
  conv => whnf
  have hz2 := hz.2 (by omega)
  repeat' first | (refine borA [1, 2] (c_l01Pick o l hb hl a4 ha4 h4 [x, y, z] (by simp)) (fun d rt' hd => ?_)) | (refine borA [1, 3] (c_l01Pick o l hb hl a4 ha4 h4 [x, y, z] (by simp)) (fun d rt' hd => ?_)) | (refine borA [1, 4] (c_l01Pick o l hb hl a4 ha4 h4 [x, y, z] (by simp)) (fun d rt' hd => ?_)) | (refine borA [1, 5] (c_l01Pick o l hb hl a4 ha4 h4 [x, y, z] (by simp)) (fun d rt' hd => ?_)) | (refine borA [1, 6] (c_l01Pick o l hb hl a4 ha4 h4 [x, y, z] (by simp)) (fun d rt' hd => ?_)) | (refine borA [1, 7] (c_l01Pick o l hb hl a4 ha4 h4 [x, y, z] (by simp)) (fun d rt' hd => ?_)) | ((first | refine z0 ?_ | refine Alt.snd (And.intro (show mixOk _ _ = true by decide +kernel) ?_) | refine And.intro (show (_ : List (Option Root))[_]? = _ from rfl) ?_ | (refine And.intro (fun h => ?_) (fun h => ?_) <;> (try simp only [cnt1, ints_length] at h)) | refine zS ?_ | refine zV ?_ | (apply zI; refine zP vObt ?_) | (apply zI; refine zP vObx ?_) | refine zA ?_ | refine Alt.fst ?_ | refine Or.inl ?_) <;> conv => whnf) | fail
  obtain ⟨v, a5, h5, hv, ha5, rfl, rfl⟩ := hd
  refine ⟨rfl, by simp, ?_⟩
  conv => whnf
  have hv2 : 0 ≤ v ∧ v ≤ 9 := by
    simp only [List.mem_cons, List.not_mem_nil, or_false] at hv
    omega
  repeat' first | (refine borA [1] (c_l03With o l hb hl a5 ha5 h5 m (by omega) (v + 2).toNat (by omega) (dg := 1 + v) (by omega)) (fun d rt' hd => ?_)) | ((first | refine z0 ?_ | refine Alt.snd (And.intro (show mixOk _ _ = true by decide +kernel) ?_) | refine And.intro (show (_ : List (Option Root))[_]? = _ from rfl) ?_ | (refine And.intro (fun h => ?_) (fun h => ?_) <;> (try simp only [cnt1, ints_length] at h)) | refine zS ?_ | refine zV ?_ | (apply zI; refine zP vObt ?_) | (apply zI; refine zP vObx ?_) | refine zA ?_ | refine And.intro ((inR64 (by omega) (by omega))) ?_ | refine Alt.fst ?_ | refine Or.inl ?_) <;> conv => whnf) | fail
  obtain ⟨t, a6, h6, ht, ha6, rfl, rfl⟩ := hd
  refine ⟨rfl, by simp, ?_⟩
  conv => whnf
  repeat' first | ((first | refine z0 ?_ | refine Alt.snd (And.intro (show mixOk _ _ = true by decide +kernel) ?_) | refine And.intro (show (_ : List (Option Root))[_]? = _ from rfl) ?_ | (refine And.intro (fun h => ?_) (fun h => ?_) <;> (try simp only [cnt1, ints_length] at h)) | refine zS ?_ | refine zV ?_ | (apply zI; refine zP vObt ?_) | (apply zI; refine zP vObx ?_) | refine zA ?_ | refine Alt.fst ?_ | refine Or.inl ?_) <;> conv => whnf) | fail
  first
    | (refine ⟨.agg [dint m, .ref 2 [] 1 0 (v + 2).toNat], [none, some (srcR o l a6 h6), some ⟨false, 1, rows true t⟩], ⟨m, (v + 2).toNat, t, a6, h6, hm0, by omega, ht, ha6, rfl, rfl⟩, wkA (kp := 2) [none, some 1, some 4]⟩)
theorem c_l03Spoil (o : Bool) (l : List Nat) (hb : ∀ b ∈ l, b < 256) (hl : l.length ≤ 4611686018427387904) (a : Nat) (ha : a ≤ l.length) (hs : Int) :
    CallsTo Tryz.prog 387 2 [.ptr 1 [] 0] [none, some (srcR o l a hs)]
      (fun d rt => ∃ (m : Int) (t : List (List Int)) (a' : Nat) (h' : Int), (0 ≤ m ∧ m ≤ 10001) ∧ smT t ∧ a' ≤ l.length ∧ d = .agg [dint m, .list false 1 (rows false t)] ∧ rt = [none, some (srcR o l a' h')]) := by
  refine callsTo_of Tryz.tabOk mixOrd 2 _ Tryz.func387 rfl rfl ?_
  conv => whnf
  repeat' first | (refine borA [1] (c_l03Draw o l hb hl a ha hs) (fun d rt' hd => ?_)) | ((first | refine z0 ?_ | (refine And.intro (fun h => ?_) (fun h => ?_) <;> (try simp only [cnt1, ints_length] at h)) | refine zS ?_ | refine zV ?_ | (apply zI; refine zP vObt ?_) | (apply zI; refine zP vObx ?_) | refine zA ?_ | refine Alt.fst ?_ | refine Or.inl ?_) <;> conv => whnf) | fail
  obtain ⟨m, n, t, a1, h1, hm, hn, ht, ha1, rfl, rfl⟩ := hd
  refine ⟨rfl, by simp, ?_⟩
  conv => whnf
  have hsm := triP_smT hn.2 ht.1
  obtain ⟨ht1, ht2⟩ := ht
  repeat' first | (refine borA [1] (c_l01Next o l hb hl a1 ha1 h1 30) (fun d rt' hd => ?_)) | ((first | refine z0 ?_ | (refine And.intro (fun h => ?_) (fun h => ?_) <;> (try simp only [cnt1, ints_length] at h)) | refine zS ?_ | refine zV ?_ | (apply zI; refine zP vObt ?_) | (apply zI; refine zP vObx ?_) | refine zA ?_ | refine Alt.fst ?_ | refine Or.inl ?_) <;> conv => whnf) | fail
  obtain ⟨x, a2, h2, hx, ha2, rfl, rfl⟩ := hd
  refine ⟨rfl, by simp, ?_⟩
  conv => whnf
  have hx2 := hx.2 (by omega)
  repeat' first | (refine borA [1, 2] (c_l01Pick o l hb hl a2 ha2 h2 [0, 1, 10001, 2] (by simp)) (fun d rt' hd => ?_)) | (refine borA [1, 3] (c_l01Pick o l hb hl a2 ha2 h2 [0, 1, 10001, 2] (by simp)) (fun d rt' hd => ?_)) | (refine borA [1, 4] (c_l01Pick o l hb hl a2 ha2 h2 [0, 1, 10001, 2] (by simp)) (fun d rt' hd => ?_)) | (refine borA [1, 5] (c_l01Pick o l hb hl a2 ha2 h2 [0, 1, 10001, 2] (by simp)) (fun d rt' hd => ?_)) | (refine borA [1, 6] (c_l01Pick o l hb hl a2 ha2 h2 [0, 1, 10001, 2] (by simp)) (fun d rt' hd => ?_)) | (refine borA [1, 7] (c_l01Pick o l hb hl a2 ha2 h2 [0, 1, 10001, 2] (by simp)) (fun d rt' hd => ?_)) | (refine borA [1, 8] (c_l01Pick o l hb hl a2 ha2 h2 [0, 1, 10001, 2] (by simp)) (fun d rt' hd => ?_)) | (refine borA [1] (c_l01Next o l hb hl a2 ha2 h2 n) (fun d rt' hd => ?_)) | ((first | refine z0 ?_ | refine Alt.snd (And.intro (show mixOk _ _ = true by decide +kernel) ?_) | refine And.intro (show (_ : List (Option Root))[_]? = _ from rfl) ?_ | (refine And.intro (fun h => ?_) (fun h => ?_) <;> (try simp only [cnt1, ints_length, rows_length, Tb_length, L_length, byts_length] at h) <;> first | (exfalso; first | omega | exact h trivial | (cases h; done)) | skip) | refine zS ?_ | refine zV ?_ | (apply zI; refine zP vObt ?_) | (apply zI; refine zP vObx ?_) | refine zA ?_ | refine Alt.fst ?_ | refine Or.inl ?_) <;> conv => whnf) | fail
  · obtain ⟨y, a3, h3, hy, ha3, rfl, rfl⟩ := hd
    refine ⟨rfl, by simp, ?_⟩
    conv => whnf
    have hy2 : 0 ≤ y ∧ y ≤ 10001 := by
      simp only [List.mem_cons, List.not_mem_nil, or_false] at hy
      omega
    repeat' first | ((first | refine z0 ?_ | refine Alt.snd (And.intro (show mixOk _ _ = true by decide +kernel) ?_) | refine And.intro (show (_ : List (Option Root))[_]? = _ from rfl) ?_ | (refine And.intro (fun h => ?_) (fun h => ?_) <;> (try simp only [cnt1, ints_length, rows_length, Tb_length, L_length, byts_length] at h) <;> first | (exfalso; first | omega | exact h trivial | (cases h; done)) | skip) | refine zS ?_ | refine zV ?_ | (apply zI; refine zP vObt ?_) | (apply zI; refine zP vObx ?_) | refine zA ?_ | refine Alt.fst ?_ | refine Or.inl ?_) <;> conv => whnf) | fail
    first
      | (refine ⟨.agg [dint y, .list false 1 (rows false t)], [none, some (srcR o l a3 h3)], ⟨y, t, a3, h3, hy2, hsm, ha3, rfl, rfl⟩, Weak.trans (Weak.freezeR (kp := 2) (r := 3) (s0 := 1) (env' := [.agg [dint y, .list false 1 (rows false t)]]) rfl rfl (fz_one (fz_pl (by omega) (by rw [List.drop_zero, List.take_of_length_le (by omega)])))) (wkA (kp := 2) [none, some 1])⟩)
  · first
      | (refine ⟨.agg [dint m, .list false 1 (rows false (t.take 1))], [none, some (srcR o l a2 h2)], ⟨m, t.take 1, a2, h2, by omega, smT_take hsm 1, ha2, rfl, rfl⟩, Weak.trans (Weak.freezeR (kp := 2) (r := 3) (s0 := 1) (env' := [.agg [dint m, .list false 1 (rows false (t.take 1))]]) rfl rfl (fz_one (fz_pl (by omega) (by simp)))) (wkA (kp := 2) [none, some 1])⟩)
  · first
      | (refine ⟨.agg [dint m, .list false 1 (rows false (t.drop 1))], [none, some (srcR o l a2 h2)], ⟨m, t.drop 1, a2, h2, by omega, smT_drop hsm, ha2, rfl, rfl⟩, Weak.trans (Weak.freezeR (kp := 2) (r := 3) (s0 := 1) (env' := [.agg [dint m, .list false 1 (rows false (t.drop 1))]]) rfl rfl (fz_one (fz_pl (by omega) (by show List.take _ (List.drop (0 + 1) t) = _; rw [Nat.zero_add, List.take_of_length_le (by simp; omega)])))) (wkA (kp := 2) [none, some 1])⟩)
  · obtain ⟨y, a3, h3, hy, ha3, rfl, rfl⟩ := hd
    refine ⟨rfl, by simp, ?_⟩
    conv => whnf
    have hy2 := hy.2 (by omega)
    repeat' first | (refine borA [1, 2] (c_l01Pick o l hb hl a3 ha3 h3 [-1, m, 1099511627776] (by simp)) (fun d rt' hd => ?_)) | (refine borA [1, 3] (c_l01Pick o l hb hl a3 ha3 h3 [-1, m, 1099511627776] (by simp)) (fun d rt' hd => ?_)) | (refine borA [1, 4] (c_l01Pick o l hb hl a3 ha3 h3 [-1, m, 1099511627776] (by simp)) (fun d rt' hd => ?_)) | (refine borA [1, 5] (c_l01Pick o l hb hl a3 ha3 h3 [-1, m, 1099511627776] (by simp)) (fun d rt' hd => ?_)) | (refine borA [1, 6] (c_l01Pick o l hb hl a3 ha3 h3 [-1, m, 1099511627776] (by simp)) (fun d rt' hd => ?_)) | (refine borA [1, 7] (c_l01Pick o l hb hl a3 ha3 h3 [-1, m, 1099511627776] (by simp)) (fun d rt' hd => ?_)) | (refine borA [1, 8] (c_l01Pick o l hb hl a3 ha3 h3 [-1, m, 1099511627776] (by simp)) (fun d rt' hd => ?_)) | ((first | refine z0 ?_ | refine Alt.snd (And.intro (show mixOk _ _ = true by decide +kernel) ?_) | refine And.intro (show (_ : List (Option Root))[_]? = _ from rfl) ?_ | (refine And.intro (fun h => ?_) (fun h => ?_) <;> (try simp only [cnt1, ints_length, rows_length, Tb_length, L_length, byts_length] at h) <;> first | (exfalso; first | omega | exact h trivial | (cases h; done)) | skip) | refine zS ?_ | refine zV ?_ | (apply zI; refine zP vObt ?_) | (apply zI; refine zP vObx ?_) | refine zA ?_ | refine Alt.fst ?_ | refine Or.inl ?_) <;> conv => whnf) | fail
    obtain ⟨z, a4, h4, hz, ha4, rfl, rfl⟩ := hd
    refine ⟨rfl, by simp, ?_⟩
    conv => whnf
    have e1 : cnt 1 (ints (t.getD y.toNat [])) = n - y.toNat := by
      rw [← ht1.2 y.toNat (by omega)]; simp [cnt, ints]
    have e0 : (0 : Int) ≤ 0 ∧ (0 : Int) < ((cnt 1 (ints (t.getD y.toNat []))) : Nat) := by rw [e1]; omega
    repeat' first | ((first | refine z0 ?_ | refine Alt.snd (And.intro (show mixOk _ _ = true by decide +kernel) ?_) | refine And.intro (show (_ : List (Option Root))[_]? = _ from rfl) ?_ | (apply zI; refine zP (exact e0) ?_) | (refine And.intro (fun h => ?_) (fun h => ?_) <;> (try simp only [cnt1, ints_length, rows_length, Tb_length, L_length, byts_length] at h) <;> first | (exfalso; first | omega | exact h trivial | (cases h; done)) | skip) | refine zS ?_ | refine zV ?_ | (apply zI; refine zP vObt ?_) | (apply zI; refine zP vObx ?_) | refine zA ?_ | refine And.intro (rows_plain _) ?_ | refine Alt.fst ?_ | refine Or.inl ?_) <;> conv => whnf) | fail
    first
      | (refine ⟨.agg [dint m, .list false 1 (rows false (setT t y.toNat 0 z))], [none, some (srcR o l a4 h4)], ⟨m, setT t y.toNat 0 z, a4, h4, by omega, smT_set hsm _ _ _, ha4, rfl, rfl⟩, Weak.trans (Weak.freezeR (kp := 2) (r := 3) (s0 := 1) (env' := [.agg [dint m, .list false 1 (rows false (setT t y.toNat 0 z))]]) rfl rfl (fz_one (fz_pl (by rw [setT_length]; omega) (by rw [List.drop_zero, List.take_of_length_le (by rw [setT_length]; omega)])))) (wkA (kp := 2) [none, some 1])⟩)
  · first
      | (refine ⟨.agg [dint m, .list false 1 (rows false t)], [none, some (srcR o l a2 h2)], ⟨m, t, a2, h2, by omega, hsm, ha2, rfl, rfl⟩, Weak.trans (Weak.freezeR (kp := 2) (r := 3) (s0 := 1) (env' := [.agg [dint m, .list false 1 (rows false t)]]) rfl rfl (fz_one (fz_pl (by omega) (by rw [List.drop_zero, List.take_of_length_le (by omega)])))) (wkA (kp := 2) [none, some 1])⟩)
end Go.Proofs

