/- Draws for the law of cocycles. -/
-- tables
-- rec
import Derived.Test.YthpbaehnkmmkgaaGreatK158
namespace Go.Proofs
open Go Go.Vm Go.Fg Go.Fg.PS
set_option maxRecDepth 100000
set_option maxHeartbeats 4000000
set_option linter.unusedSimpArgs false
set_option linter.unusedVariables false
variable {m : Int}
theorem c_DrawCocycleFactor (o : Bool) (l : List Nat) (hb : ∀ b ∈ l, b < 256) (hl : l.length ≤ 4611686018427387904) :
    CallsTo Tryz.prog 92 1 [.list o 1 (byts l)] [none]
      (fun d rt => ∃ (m : Int) (t : List (List Int)), ((0 ≤ m ∧ m ≤ 10001) ∧ smT t) ∧ d = plF m t ∧ rt = [none]) := by
  refine callsTo_of Tryz.tabOk mixOrd 1 _ Tryz.func92 rfl rfl ?_
  conv => whnf
  repeat' first | (refine borA [] (c_l01From o l hb hl) (fun d rt' hd => ?_)) | ((first | refine z0 ?_ | (refine And.intro (fun h => ?_) (fun h => ?_) <;> (try simp only [cnt1, ints_length] at h)) | refine zS ?_ | refine zV ?_ | (apply zI; refine zP vObt ?_) | (apply zI; refine zP vObx ?_) | refine zA ?_ | refine Alt.fst ?_ | refine Or.inl ?_) <;> conv => whnf) | fail
  obtain ⟨h0, rfl, rfl⟩ := hd
  refine ⟨rfl, by simp, ?_⟩
  conv => whnf
  repeat' first | (refine borA [1] (c_l07Draw o l hb hl 0 (by omega) h0) (fun d rt' hd => ?_)) | (refine borA [2] (c_l07Draw o l hb hl 0 (by omega) h0) (fun d rt' hd => ?_)) | (refine borA [3] (c_l07Draw o l hb hl 0 (by omega) h0) (fun d rt' hd => ?_)) | (refine borA [4] (c_l07Draw o l hb hl 0 (by omega) h0) (fun d rt' hd => ?_)) | (refine borA [5] (c_l07Draw o l hb hl 0 (by omega) h0) (fun d rt' hd => ?_)) | (refine borA [6] (c_l07Draw o l hb hl 0 (by omega) h0) (fun d rt' hd => ?_)) | (refine borA [7] (c_l07Draw o l hb hl 0 (by omega) h0) (fun d rt' hd => ?_)) | (refine borA [8] (c_l07Draw o l hb hl 0 (by omega) h0) (fun d rt' hd => ?_)) | ((first | refine z0 ?_ | refine Alt.snd (And.intro (show mixOk _ _ = true by decide +kernel) ?_) | refine And.intro (show (_ : List (Option Root))[_]? = _ from rfl) ?_ | (refine And.intro (fun h => ?_) (fun h => ?_) <;> (try simp only [cnt1, ints_length] at h)) | refine zS ?_ | refine zV ?_ | (apply zI; refine zP vObt ?_) | (apply zI; refine zP vObx ?_) | refine zA ?_ | refine Alt.fst ?_ | refine Or.inl ?_) <;> conv => whnf) | fail
  obtain ⟨m, t, a1, h1, hm, ht, ha1, rfl, rfl⟩ := hd
  refine ⟨rfl, by simp, ?_⟩
  conv => whnf
  repeat' first | ((first | refine z0 ?_ | refine Alt.snd (And.intro (show mixOk _ _ = true by decide +kernel) ?_) | refine And.intro (show (_ : List (Option Root))[_]? = _ from rfl) ?_ | (refine And.intro (fun h => ?_) (fun h => ?_) <;> (try simp only [cnt1, ints_length] at h)) | refine zS ?_ | refine zV ?_ | (apply zI; refine zP vObt ?_) | (apply zI; refine zP vObx ?_) | refine zA ?_ | refine Alt.fst ?_ | refine Or.inl ?_) <;> conv => whnf) | fail
  refine ⟨plF m t, [none], ⟨m, t, ⟨hm, ht⟩, rfl, rfl⟩, Weak.of (kp := 1) [none] ?_⟩
  conv => whnf
  repeat' ((first | refine z1 ?_ | refine z2 ?_ | refine zV ?_ | refine And.intro ?_ ?_ | exact trivial) <;> try (conv => whnf))
theorem c_DrawLazardCocycle (o : Bool) (l : List Nat) (hb : ∀ b ∈ l, b < 256) (hl : l.length ≤ 4611686018427387904) :
    CallsTo Tryz.prog 100 1 [.list o 1 (byts l)] [none]
      (fun d rt => ∃ (m : Int) (n : Int), (-5 ≤ m ∧ m ≤ 1099511627776) ∧ (-4611686018427387904 ≤ n ∧ n ≤ 1099511627777) ∧ d = .tup [dint m, dint n] ∧ rt = [none]) := by
  refine callsTo_of Tryz.tabOk mixOrd 1 _ Tryz.func100 rfl rfl ?_
  conv => whnf
  repeat' first | (refine borA [] (c_l01From o l hb hl) (fun d rt' hd => ?_)) | ((first | refine z0 ?_ | (refine And.intro (fun h => ?_) (fun h => ?_) <;> (try simp only [cnt1, ints_length] at h)) | refine zS ?_ | refine zV ?_ | (apply zI; refine zP vObt ?_) | (apply zI; refine zP vObx ?_) | refine zA ?_ | refine Alt.fst ?_ | refine Or.inl ?_) <;> conv => whnf) | fail
  obtain ⟨h0, rfl, rfl⟩ := hd
  refine ⟨rfl, by simp, ?_⟩
  conv => whnf
  repeat' first | (refine borA [1] (c_l01Spoil o l hb hl 0 (by omega) h0) (fun d rt' hd => ?_)) | (refine borA [2] (c_l01Spoil o l hb hl 0 (by omega) h0) (fun d rt' hd => ?_)) | (refine borA [3] (c_l01Spoil o l hb hl 0 (by omega) h0) (fun d rt' hd => ?_)) | (refine borA [4] (c_l01Spoil o l hb hl 0 (by omega) h0) (fun d rt' hd => ?_)) | (refine borA [5] (c_l01Spoil o l hb hl 0 (by omega) h0) (fun d rt' hd => ?_)) | (refine borA [6] (c_l01Spoil o l hb hl 0 (by omega) h0) (fun d rt' hd => ?_)) | ((first | refine z0 ?_ | refine Alt.snd (And.intro (show mixOk _ _ = true by decide +kernel) ?_) | refine And.intro (show (_ : List (Option Root))[_]? = _ from rfl) ?_ | (refine And.intro (fun h => ?_) (fun h => ?_) <;> (try simp only [cnt1, ints_length] at h)) | refine zS ?_ | refine zV ?_ | (apply zI; refine zP vObt ?_) | (apply zI; refine zP vObx ?_) | refine zA ?_ | refine Alt.fst ?_ | refine Or.inl ?_) <;> conv => whnf) | fail
  obtain ⟨m, a1, h1, hm, ha1, rfl, rfl⟩ := hd
  refine ⟨rfl, by simp, ?_⟩
  conv => whnf
  repeat' first | (refine borA [1] (c_l01Count o l hb hl a1 ha1 h1 9 (by omega)) (fun d rt' hd => ?_)) | (refine borA [2] (c_l01Count o l hb hl a1 ha1 h1 9 (by omega)) (fun d rt' hd => ?_)) | (refine borA [3] (c_l01Count o l hb hl a1 ha1 h1 9 (by omega)) (fun d rt' hd => ?_)) | (refine borA [4] (c_l01Count o l hb hl a1 ha1 h1 9 (by omega)) (fun d rt' hd => ?_)) | (refine borA [5] (c_l01Count o l hb hl a1 ha1 h1 9 (by omega)) (fun d rt' hd => ?_)) | (refine borA [6] (c_l01Count o l hb hl a1 ha1 h1 9 (by omega)) (fun d rt' hd => ?_)) | (refine borA [7] (c_l01Count o l hb hl a1 ha1 h1 9 (by omega)) (fun d rt' hd => ?_)) | (refine borA [8] (c_l01Count o l hb hl a1 ha1 h1 9 (by omega)) (fun d rt' hd => ?_)) | ((first | refine z0 ?_ | refine Alt.snd (And.intro (show mixOk _ _ = true by decide +kernel) ?_) | refine And.intro (show (_ : List (Option Root))[_]? = _ from rfl) ?_ | (refine And.intro (fun h => ?_) (fun h => ?_) <;> (try simp only [cnt1, ints_length] at h)) | refine zS ?_ | refine zV ?_ | (apply zI; refine zP vObt ?_) | (apply zI; refine zP vObx ?_) | refine zA ?_ | refine Alt.fst ?_ | refine Or.inl ?_) <;> conv => whnf) | fail
  obtain ⟨n, a2, h2, hn, ha2, rfl, rfl⟩ := hd
  refine ⟨rfl, by simp, ?_⟩
  conv => whnf
  repeat' first | ((first | refine z0 ?_ | refine Alt.snd (And.intro (show mixOk _ _ = true by decide +kernel) ?_) | refine And.intro (show (_ : List (Option Root))[_]? = _ from rfl) ?_ | (refine And.intro (fun h => ?_) (fun h => ?_) <;> (try simp only [cnt1, ints_length] at h)) | refine zS ?_ | refine zV ?_ | (apply zI; refine zP vObt ?_) | (apply zI; refine zP vObx ?_) | refine zA ?_ | refine And.intro ((inR64 (by omega) (by omega))) ?_ | refine Alt.fst ?_ | refine Or.inl ?_) <;> conv => whnf) | fail
  refine ⟨.tup [dint m, dint (1 + n)], [none], ⟨m, 1 + n, hm, by omega, rfl, rfl⟩, Weak.of (kp := 1) [none] ?_⟩
  conv => whnf
  repeat' ((first | refine z1 ?_ | refine z2 ?_ | refine zV ?_ | refine And.intro ?_ ?_ | exact trivial) <;> try (conv => whnf))
theorem c_DrawCountLaws (o : Bool) (l : List Nat) (hb : ∀ b ∈ l, b < 256) (hl : l.length ≤ 4611686018427387904) :
    CallsTo Tryz.prog 102 1 [.list o 1 (byts l)] [none]
      (fun d rt => ∃ (m : Int) (n : Int), (-5 ≤ m ∧ m ≤ 1099511627776) ∧ (-4611686018427387904 ≤ n ∧ n ≤ 1099511627777) ∧ d = .tup [dint m, dint n] ∧ rt = [none]) := by
  refine callsTo_of Tryz.tabOk mixOrd 1 _ Tryz.func102 rfl rfl ?_
  conv => whnf
  repeat' first | (refine borA [] (c_l01From o l hb hl) (fun d rt' hd => ?_)) | ((first | refine z0 ?_ | (refine And.intro (fun h => ?_) (fun h => ?_) <;> (try simp only [cnt1, ints_length] at h)) | refine zS ?_ | refine zV ?_ | (apply zI; refine zP vObt ?_) | (apply zI; refine zP vObx ?_) | refine zA ?_ | refine Alt.fst ?_ | refine Or.inl ?_) <;> conv => whnf) | fail
  obtain ⟨h0, rfl, rfl⟩ := hd
  refine ⟨rfl, by simp, ?_⟩
  conv => whnf
  repeat' first | (refine borA [1] (c_l01Spoil o l hb hl 0 (by omega) h0) (fun d rt' hd => ?_)) | (refine borA [2] (c_l01Spoil o l hb hl 0 (by omega) h0) (fun d rt' hd => ?_)) | (refine borA [3] (c_l01Spoil o l hb hl 0 (by omega) h0) (fun d rt' hd => ?_)) | (refine borA [4] (c_l01Spoil o l hb hl 0 (by omega) h0) (fun d rt' hd => ?_)) | (refine borA [5] (c_l01Spoil o l hb hl 0 (by omega) h0) (fun d rt' hd => ?_)) | (refine borA [6] (c_l01Spoil o l hb hl 0 (by omega) h0) (fun d rt' hd => ?_)) | ((first | refine z0 ?_ | refine Alt.snd (And.intro (show mixOk _ _ = true by decide +kernel) ?_) | refine And.intro (show (_ : List (Option Root))[_]? = _ from rfl) ?_ | (refine And.intro (fun h => ?_) (fun h => ?_) <;> (try simp only [cnt1, ints_length] at h)) | refine zS ?_ | refine zV ?_ | (apply zI; refine zP vObt ?_) | (apply zI; refine zP vObx ?_) | refine zA ?_ | refine Alt.fst ?_ | refine Or.inl ?_) <;> conv => whnf) | fail
  obtain ⟨m, a1, h1, hm, ha1, rfl, rfl⟩ := hd
  refine ⟨rfl, by simp, ?_⟩
  conv => whnf
  repeat' first | (refine borA [1] (c_l01Count o l hb hl a1 ha1 h1 9 (by omega)) (fun d rt' hd => ?_)) | (refine borA [2] (c_l01Count o l hb hl a1 ha1 h1 9 (by omega)) (fun d rt' hd => ?_)) | (refine borA [3] (c_l01Count o l hb hl a1 ha1 h1 9 (by omega)) (fun d rt' hd => ?_)) | (refine borA [4] (c_l01Count o l hb hl a1 ha1 h1 9 (by omega)) (fun d rt' hd => ?_)) | (refine borA [5] (c_l01Count o l hb hl a1 ha1 h1 9 (by omega)) (fun d rt' hd => ?_)) | (refine borA [6] (c_l01Count o l hb hl a1 ha1 h1 9 (by omega)) (fun d rt' hd => ?_)) | (refine borA [7] (c_l01Count o l hb hl a1 ha1 h1 9 (by omega)) (fun d rt' hd => ?_)) | (refine borA [8] (c_l01Count o l hb hl a1 ha1 h1 9 (by omega)) (fun d rt' hd => ?_)) | ((first | refine z0 ?_ | refine Alt.snd (And.intro (show mixOk _ _ = true by decide +kernel) ?_) | refine And.intro (show (_ : List (Option Root))[_]? = _ from rfl) ?_ | (refine And.intro (fun h => ?_) (fun h => ?_) <;> (try simp only [cnt1, ints_length] at h)) | refine zS ?_ | refine zV ?_ | (apply zI; refine zP vObt ?_) | (apply zI; refine zP vObx ?_) | refine zA ?_ | refine Alt.fst ?_ | refine Or.inl ?_) <;> conv => whnf) | fail
  obtain ⟨n, a2, h2, hn, ha2, rfl, rfl⟩ := hd
  refine ⟨rfl, by simp, ?_⟩
  conv => whnf
  repeat' first | ((first | refine z0 ?_ | refine Alt.snd (And.intro (show mixOk _ _ = true by decide +kernel) ?_) | refine And.intro (show (_ : List (Option Root))[_]? = _ from rfl) ?_ | (refine And.intro (fun h => ?_) (fun h => ?_) <;> (try simp only [cnt1, ints_length] at h)) | refine zS ?_ | refine zV ?_ | (apply zI; refine zP vObt ?_) | (apply zI; refine zP vObx ?_) | refine zA ?_ | refine And.intro ((inR64 (by omega) (by omega))) ?_ | refine Alt.fst ?_ | refine Or.inl ?_) <;> conv => whnf) | fail
  refine ⟨.tup [dint m, dint (1 + n)], [none], ⟨m, 1 + n, hm, by omega, rfl, rfl⟩, Weak.of (kp := 1) [none] ?_⟩
  conv => whnf
  repeat' ((first | refine z1 ?_ | refine z2 ?_ | refine zV ?_ | refine And.intro ?_ ?_ | exact trivial) <;> try (conv => whnf))
theorem c_DrawExtensionFactor (hW : Wei) (o : Bool) (l : List Nat) (hb : ∀ b ∈ l, b < 256) (hl : l.length ≤ 4611686018427387904) :
    CallsTo Tryz.prog 105 1 [.list o 1 (byts l)] [none]
      (fun d rt => ∃ (m : Int) (t : List (List Int)) (m' : Int) (t' : List (List Int)), ((1 ≤ m ∧ m ≤ 10001) ∧ smT t) ∧ ((1 ≤ m' ∧ m' ≤ 10001) ∧ smT t') ∧ d = .tup [plF m t, plF m' t'] ∧ rt = [none]) := by
  refine callsTo_of Tryz.tabOk mixOrd 1 _ Tryz.func105 rfl rfl ?_
  conv => whnf
  repeat' first | (refine borA [] (c_l01From o l hb hl) (fun d rt' hd => ?_)) | ((first | refine z0 ?_ | (refine And.intro (fun h => ?_) (fun h => ?_) <;> (try simp only [cnt1, ints_length] at h)) | refine zS ?_ | refine zV ?_ | (apply zI; refine zP vObt ?_) | (apply zI; refine zP vObx ?_) | refine zA ?_ | refine Alt.fst ?_ | refine Or.inl ?_) <;> conv => whnf) | fail
  obtain ⟨h0, rfl, rfl⟩ := hd
  refine ⟨rfl, by simp, ?_⟩
  conv => whnf
  repeat' first | (refine borA [1] (c_l04Spoil hW o l hb hl 0 (by omega) h0) (fun d rt' hd => ?_)) | (refine borA [2] (c_l04Spoil hW o l hb hl 0 (by omega) h0) (fun d rt' hd => ?_)) | (refine borA [3] (c_l04Spoil hW o l hb hl 0 (by omega) h0) (fun d rt' hd => ?_)) | (refine borA [4] (c_l04Spoil hW o l hb hl 0 (by omega) h0) (fun d rt' hd => ?_)) | (refine borA [5] (c_l04Spoil hW o l hb hl 0 (by omega) h0) (fun d rt' hd => ?_)) | (refine borA [6] (c_l04Spoil hW o l hb hl 0 (by omega) h0) (fun d rt' hd => ?_)) | (refine borA [7] (c_l04Spoil hW o l hb hl 0 (by omega) h0) (fun d rt' hd => ?_)) | (refine borA [8] (c_l04Spoil hW o l hb hl 0 (by omega) h0) (fun d rt' hd => ?_)) | ((first | refine z0 ?_ | refine Alt.snd (And.intro (show mixOk _ _ = true by decide +kernel) ?_) | refine And.intro (show (_ : List (Option Root))[_]? = _ from rfl) ?_ | (refine And.intro (fun h => ?_) (fun h => ?_) <;> (try simp only [cnt1, ints_length] at h)) | refine zS ?_ | refine zV ?_ | (apply zI; refine zP vObt ?_) | (apply zI; refine zP vObx ?_) | refine zA ?_ | refine Alt.fst ?_ | refine Or.inl ?_) <;> conv => whnf) | fail
  obtain ⟨m, t, a1, h1, hm, ht, ha1, rfl, rfl⟩ := hd
  refine ⟨rfl, by simp, ?_⟩
  conv => whnf
  have ht2 := smT_lens ht
  have hBc := c_l04Is false false m t ht2.1 ht2.2
  cases hB : lawB m t with
  | false =>
    rw [hB] at hBc
    repeat' first | (refine borA [1] (c_l04Draw hW o l hb hl a1 ha1 h1) (fun d rt' hd => ?_)) | (refine borA [2] (c_l04Draw hW o l hb hl a1 ha1 h1) (fun d rt' hd => ?_)) | (refine borA [3] (c_l04Draw hW o l hb hl a1 ha1 h1) (fun d rt' hd => ?_)) | (refine borA [4] (c_l04Draw hW o l hb hl a1 ha1 h1) (fun d rt' hd => ?_)) | (refine borA [5] (c_l04Draw hW o l hb hl a1 ha1 h1) (fun d rt' hd => ?_)) | (refine borA [6] (c_l04Draw hW o l hb hl a1 ha1 h1) (fun d rt' hd => ?_)) | (refine borA [7] (c_l04Draw hW o l hb hl a1 ha1 h1) (fun d rt' hd => ?_)) | (refine borA [8] (c_l04Draw hW o l hb hl a1 ha1 h1) (fun d rt' hd => ?_)) | ((first | refine z0 ?_ | refine Alt.snd (And.intro (show mixOk _ _ = true by decide +kernel) ?_) | refine And.intro (show (_ : List (Option Root))[_]? = _ from rfl) ?_ | (apply zI; refine zP (hBc) ?_) | (refine And.intro (fun h => ?_) (fun h => ?_) <;> (try simp only [cnt1, ints_length, rows_length, Tb_length, L_length, byts_length] at h) <;> first | (exfalso; first | omega | exact h trivial | (cases h; done)) | skip) | refine zS ?_ | refine zV ?_ | (apply zI; refine zP vObt ?_) | (apply zI; refine zP vObx ?_) | refine zA ?_ | refine Alt.fst ?_ | refine Or.inl ?_) <;> conv => whnf) | fail
    obtain ⟨m2, n2, F2, a2, h2, hm2, hm9, hn2, ha2, rfl, rfl⟩ := hd
    refine ⟨rfl, by simp, ?_⟩
    conv => whnf
    repeat' first | ((first | refine z0 ?_ | refine Alt.snd (And.intro (show mixOk _ _ = true by decide +kernel) ?_) | refine And.intro (show (_ : List (Option Root))[_]? = _ from rfl) ?_ | (refine And.intro (fun h => ?_) (fun h => ?_) <;> (try simp only [cnt1, ints_length, rows_length, Tb_length, L_length, byts_length] at h) <;> first | (exfalso; first | omega | exact h trivial | (cases h; done)) | skip) | refine zS ?_ | refine zV ?_ | (apply zI; refine zP vObt ?_) | (apply zI; refine zP vObx ?_) | refine zA ?_ | refine Alt.fst ?_ | refine Or.inl ?_) <;> conv => whnf) | fail
    first
      | (refine ⟨.tup [plF m t, plF m2 (Tb n2 F2)], [none], ⟨m, t, m2, Tb n2 F2, ⟨hm, ht⟩, ⟨by have := hm2.1; omega, smT_Tb (by omega) F2⟩, rfl, rfl⟩, Weak.trans (Weak.freezeR (kp := 1) (r := 6) (s0 := 1) (env' := [.tup [plF m t, plF m2 (Tb n2 F2)]]) rfl rfl (fz_one (fz_tup2 (.rfl _) (fz_pl (by simp [cnt1]) (by rw [List.drop_zero, List.take_of_length_le (by simp [cnt1])]))))) (wkA (kp := 1) [none])⟩)
  | true =>
    rw [hB] at hBc
    have hpl := plB_md (lawB_two hB).1
    obtain ⟨hmd, hn1, hn2, _⟩ := hpl
    have e := plB_T (lawB_two hB).1
    generalize hF : rd2 m t = F at e
    generalize hN : t.length = n at e hn1 hn2
    subst e
    have hm1 := hmd.1
    have hm2 := hmd.2
    repeat' first | (refine borA [1] (c_l01Next o l hb hl a1 ha1 h1 6) (fun d rt' hd => ?_)) | (refine borA [2] (c_l01Next o l hb hl a1 ha1 h1 6) (fun d rt' hd => ?_)) | (refine borA [3] (c_l01Next o l hb hl a1 ha1 h1 6) (fun d rt' hd => ?_)) | (refine borA [4] (c_l01Next o l hb hl a1 ha1 h1 6) (fun d rt' hd => ?_)) | (refine borA [5] (c_l01Next o l hb hl a1 ha1 h1 6) (fun d rt' hd => ?_)) | (refine borA [6] (c_l01Next o l hb hl a1 ha1 h1 6) (fun d rt' hd => ?_)) | (refine borA [7] (c_l01Next o l hb hl a1 ha1 h1 6) (fun d rt' hd => ?_)) | (refine borA [8] (c_l01Next o l hb hl a1 ha1 h1 6) (fun d rt' hd => ?_)) | (refine borA [1] (c_l04Draw hW o l hb hl a1 ha1 h1) (fun d rt' hd => ?_)) | (refine borA [2] (c_l04Draw hW o l hb hl a1 ha1 h1) (fun d rt' hd => ?_)) | (refine borA [3] (c_l04Draw hW o l hb hl a1 ha1 h1) (fun d rt' hd => ?_)) | (refine borA [4] (c_l04Draw hW o l hb hl a1 ha1 h1) (fun d rt' hd => ?_)) | (refine borA [5] (c_l04Draw hW o l hb hl a1 ha1 h1) (fun d rt' hd => ?_)) | (refine borA [6] (c_l04Draw hW o l hb hl a1 ha1 h1) (fun d rt' hd => ?_)) | (refine borA [7] (c_l04Draw hW o l hb hl a1 ha1 h1) (fun d rt' hd => ?_)) | (refine borA [8] (c_l04Draw hW o l hb hl a1 ha1 h1) (fun d rt' hd => ?_)) | ((first | refine z0 ?_ | refine Alt.snd (And.intro (show mixOk _ _ = true by decide +kernel) ?_) | refine And.intro (show (_ : List (Option Root))[_]? = _ from rfl) ?_ | (apply zI; refine zP (hBc) ?_) | refine Or.inr (inl_ofR Tryz.tabOk mixOrd _ Tryz.func298 rfl rfl ?_) | (refine And.intro (fun h => ?_) (fun h => ?_) <;> (try simp only [cnt1, ints_length, rows_length, Tb_length, L_length, byts_length] at h) <;> first | (exfalso; first | omega | exact h trivial | (cases h; done)) | skip) | refine zS ?_ | refine zV ?_ | (apply zI; refine zP vObt ?_) | (apply zI; refine zP vObx ?_) | refine zA ?_ | refine Alt.fst ?_ | refine Or.inl ?_) <;> conv => whnf) | fail
    · obtain ⟨x, a2, h2, hx, ha2, rfl, rfl⟩ := hd
      refine ⟨rfl, by simp, ?_⟩
      conv => whnf
      have hx2 := hx.2 (by omega)
      obtain ⟨N, rfl⟩ : ∃ N, n = N + 1 := ⟨n - 1, by omega⟩
      repeat' first | (refine borA [1] (c_l01Next o l hb hl a2 ha2 h2 m) (fun d rt' hd => ?_)) | (refine borA [2] (c_l01Next o l hb hl a2 ha2 h2 m) (fun d rt' hd => ?_)) | (refine borA [3] (c_l01Next o l hb hl a2 ha2 h2 m) (fun d rt' hd => ?_)) | (refine borA [4] (c_l01Next o l hb hl a2 ha2 h2 m) (fun d rt' hd => ?_)) | (refine borA [5] (c_l01Next o l hb hl a2 ha2 h2 m) (fun d rt' hd => ?_)) | (refine borA [6] (c_l01Next o l hb hl a2 ha2 h2 m) (fun d rt' hd => ?_)) | (refine borA [7] (c_l01Next o l hb hl a2 ha2 h2 m) (fun d rt' hd => ?_)) | (refine borA [8] (c_l01Next o l hb hl a2 ha2 h2 m) (fun d rt' hd => ?_)) | (refine borA [1] (c_l04Draw hW o l hb hl a2 ha2 h2) (fun d rt' hd => ?_)) | (refine borA [2] (c_l04Draw hW o l hb hl a2 ha2 h2) (fun d rt' hd => ?_)) | (refine borA [3] (c_l04Draw hW o l hb hl a2 ha2 h2) (fun d rt' hd => ?_)) | (refine borA [4] (c_l04Draw hW o l hb hl a2 ha2 h2) (fun d rt' hd => ?_)) | (refine borA [5] (c_l04Draw hW o l hb hl a2 ha2 h2) (fun d rt' hd => ?_)) | (refine borA [6] (c_l04Draw hW o l hb hl a2 ha2 h2) (fun d rt' hd => ?_)) | (refine borA [7] (c_l04Draw hW o l hb hl a2 ha2 h2) (fun d rt' hd => ?_)) | (refine borA [8] (c_l04Draw hW o l hb hl a2 ha2 h2) (fun d rt' hd => ?_)) | ((first | refine z0 ?_ | refine Alt.snd (And.intro (show mixOk _ _ = true by decide +kernel) ?_) | refine And.intro (show (_ : List (Option Root))[_]? = _ from rfl) ?_ | refine Or.inr (inl_ofR Tryz.tabOk mixOrd _ Tryz.func298 rfl rfl ?_) | (refine And.intro (fun h => ?_) (fun h => ?_) <;> (try simp only [cnt1, ints_length, rows_length, Tb_length, L_length, byts_length] at h) <;> first | (exfalso; first | omega | exact h trivial | (cases h; done)) | skip) | refine zS ?_ | refine zV ?_ | (apply zI; refine zP vObt ?_) | (apply zI; refine zP vObx ?_) | refine zA ?_ | refine Alt.fst ?_ | refine Or.inl ?_) <;> conv => whnf) | fail
      · obtain ⟨z, a3, h3, hz, ha3, rfl, rfl⟩ := hd
        refine ⟨rfl, by simp, ?_⟩
        conv => whnf
        have hz2 := hz.2 (by omega)
        have key := fun o p => c_l03Scale hmd o p (N + 1) (by omega) (Zm.mk m z) (Z := z) (by rw [Zm.val_mk, Int.emod_eq_of_lt hz2.1 hz2.2]) (topP N (fun i => Zm.mk m (lazV N i)))
        have key2 := fun o p o' p' => c_l03Add hmd o p o' p' (N + 1) (by omega) F (PS.C (PS.C (Zm.mk m z)) * topP N (fun i => Zm.mk m (lazV N i)))
        generalize F + PS.C (PS.C (Zm.mk m z)) * topP N (fun i => Zm.mk m (lazV N i)) = G at key2
        repeat' first | ((first | refine z0 ?_ | refine Alt.snd (And.intro (show mixOk _ _ = true by decide +kernel) ?_) | refine And.intro (show (_ : List (Option Root))[_]? = _ from rfl) ?_ | (apply zI; refine zP (c_l07Cocycle hmd N (by omega) (by rw [cnt1, rows_length, Tb_length]; omega)) ?_) | (apply zI; refine zP (key _ _) ?_) | (apply zI; refine zP (key2 _ _ _ _) ?_) | refine Or.inl (Or.inr (And.intro (mk_l03Make) ?_)) | refine Or.inr (And.intro (mk_l03Make) ?_) | (refine And.intro (fun h => ?_) (fun h => ?_) <;> (try simp only [cnt1, ints_length, rows_length, Tb_length, L_length, byts_length] at h) <;> first | (exfalso; first | omega | exact h trivial | (cases h; done)) | skip) | refine zS ?_ | refine zV ?_ | (apply zI; refine zP vObt ?_) | (apply zI; refine zP vObx ?_) | refine zA ?_ | refine Alt.fst ?_ | refine Or.inl ?_) <;> conv => whnf) | fail
        first
          | (refine ⟨.tup [plF m (Tb (N + 1) F), plF m (Tb (N + 1) G)], [none], ⟨m, Tb (N + 1) F, m, Tb (N + 1) G, ⟨hm, ht⟩, ⟨hm, smT_Tb (by omega) G⟩, rfl, rfl⟩, Weak.trans (Weak.freezeR (kp := 1) (r := 10) (s0 := 1) (env' := [.tup [plF m (Tb (N + 1) F), plF m (Tb (N + 1) G)]]) rfl rfl (fz_one (fz_tup2 (.rfl _) (fz_pl (by simp [cnt1]) (by rw [List.drop_zero, List.take_of_length_le (by simp [cnt1])]))))) (wkA (kp := 1) [none])⟩)
      · obtain ⟨m2, n2, F2, a3, h3, hm2, hm9, hn2, ha3, rfl, rfl⟩ := hd
        refine ⟨rfl, by simp, ?_⟩
        conv => whnf
        repeat' first | ((first | refine z0 ?_ | refine Alt.snd (And.intro (show mixOk _ _ = true by decide +kernel) ?_) | refine And.intro (show (_ : List (Option Root))[_]? = _ from rfl) ?_ | (refine And.intro (fun h => ?_) (fun h => ?_) <;> (try simp only [cnt1, ints_length, rows_length, Tb_length, L_length, byts_length] at h) <;> first | (exfalso; first | omega | exact h trivial | (cases h; done)) | skip) | refine zS ?_ | refine zV ?_ | (apply zI; refine zP vObt ?_) | (apply zI; refine zP vObx ?_) | refine zA ?_ | refine Alt.fst ?_ | refine Or.inl ?_) <;> conv => whnf) | fail
        first
          | (refine ⟨.tup [plF m (Tb (N + 1) F), plF m2 (Tb n2 F2)], [none], ⟨m, Tb (N + 1) F, m2, Tb n2 F2, ⟨hm, ht⟩, ⟨by have := hm2.1; omega, smT_Tb (by omega) F2⟩, rfl, rfl⟩, Weak.trans (Weak.freezeR (kp := 1) (r := 7) (s0 := 1) (env' := [.tup [plF m (Tb (N + 1) F), plF m2 (Tb n2 F2)]]) rfl rfl (fz_one (fz_tup2 (.rfl _) (fz_pl (by simp [cnt1]) (by rw [List.drop_zero, List.take_of_length_le (by simp [cnt1])]))))) (wkA (kp := 1) [none])⟩)
    · obtain ⟨m2, n2, F2, a2, h2, hm2, hm9, hn2, ha2, rfl, rfl⟩ := hd
      refine ⟨rfl, by simp, ?_⟩
      conv => whnf
      repeat' first | ((first | refine z0 ?_ | refine Alt.snd (And.intro (show mixOk _ _ = true by decide +kernel) ?_) | refine And.intro (show (_ : List (Option Root))[_]? = _ from rfl) ?_ | (refine And.intro (fun h => ?_) (fun h => ?_) <;> (try simp only [cnt1, ints_length, rows_length, Tb_length, L_length, byts_length] at h) <;> first | (exfalso; first | omega | exact h trivial | (cases h; done)) | skip) | refine zS ?_ | refine zV ?_ | (apply zI; refine zP vObt ?_) | (apply zI; refine zP vObx ?_) | refine zA ?_ | refine Alt.fst ?_ | refine Or.inl ?_) <;> conv => whnf) | fail
      first
        | (refine ⟨.tup [plF m (Tb n F), plF m2 (Tb n2 F2)], [none], ⟨m, Tb n F, m2, Tb n2 F2, ⟨hm, ht⟩, ⟨by have := hm2.1; omega, smT_Tb (by omega) F2⟩, rfl, rfl⟩, Weak.trans (Weak.freezeR (kp := 1) (r := 7) (s0 := 1) (env' := [.tup [plF m (Tb n F), plF m2 (Tb n2 F2)]]) rfl rfl (fz_one (fz_tup2 (.rfl _) (fz_pl (by simp [cnt1]) (by rw [List.drop_zero, List.take_of_length_le (by simp [cnt1])]))))) (wkA (kp := 1) [none])⟩)
end Go.Proofs

