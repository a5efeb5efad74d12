/- Two more draws of genera. -/
-- tables
-- rec
import Derived.Test.YthpbaehnkmmkgaaGreatK169
namespace Go.Proofs
open Go Go.Vm Go.Fg Go.Fg.PS
set_option maxRecDepth 100000
set_option maxHeartbeats 4000000
set_option linter.unusedSimpArgs false
set_option linter.unusedVariables false
theorem c_DrawHypersurfaceGenus (o : Bool) (l : List Nat) (hb : ∀ b ∈ l, b < 256) (hl : l.length ≤ 4611686018427387904) :
    CallsTo Tryz.prog 26 1 [.list o 1 (byts l)] [none]
      (fun d rt => ∃ (m : Int) (us : List Int) (n k : Int), (0 ≤ m ∧ m ≤ 10001) ∧ us.length ≤ 21 ∧ (-4611686018427387904 ≤ n ∧ n ≤ 1099511627776) ∧ (-4611686018427387904 ≤ k ∧ k ≤ 1099511627777) ∧ d = .tup [seF m us, dint n, dint k] ∧ rt = [none]) := by
  refine callsTo_of Tryz.tabOk mixOrd 1 _ Tryz.func26 rfl rfl ?_
  conv => whnf
  repeat' first | (refine borA [] (c_l01From o l hb hl) (fun d rt' hd => ?_)) | ((first | refine z0 ?_ | (refine And.intro (fun h => ?_) (fun h => ?_) <;> (try simp only [cnt1, ints_length] at h)) | refine zS ?_ | refine zV ?_ | (apply zI; refine zP vObt ?_) | (apply zI; refine zP vObx ?_) | refine zA ?_ | refine Alt.fst ?_ | refine Or.inl ?_) <;> conv => whnf) | fail
  obtain ⟨h0, rfl, rfl⟩ := hd
  refine ⟨rfl, by simp, ?_⟩
  conv => whnf
  repeat' first | (refine borA [1] (c_l19Draw o l hb hl 0 (by omega) h0) (fun d rt' hd => ?_)) | (refine borA [2] (c_l19Draw o l hb hl 0 (by omega) h0) (fun d rt' hd => ?_)) | (refine borA [3] (c_l19Draw o l hb hl 0 (by omega) h0) (fun d rt' hd => ?_)) | (refine borA [4] (c_l19Draw o l hb hl 0 (by omega) h0) (fun d rt' hd => ?_)) | ((first | refine z0 ?_ | refine Alt.snd (And.intro (show mixOk _ _ = true by decide +kernel) ?_) | refine And.intro (show (_ : List (Option Root))[_]? = _ from rfl) ?_ | (refine And.intro (fun h => ?_) (fun h => ?_) <;> (try simp only [cnt1, ints_length] at h)) | refine zS ?_ | refine zV ?_ | (apply zI; refine zP vObt ?_) | (apply zI; refine zP vObx ?_) | refine zA ?_ | refine Alt.fst ?_ | refine Or.inl ?_) <;> conv => whnf) | fail
  obtain ⟨m, us, a1, h1, hm, hu, ha1, rfl, rfl⟩ := hd
  refine ⟨rfl, by simp, ?_⟩
  conv => whnf
  have ec : ((cnt 1 (ints us) : Nat) : Int) - 1 = (us.length : Int) - 1 := by simp [cnt1]
  repeat' first | (refine borA [1] (c_l01Count o l hb hl a1 ha1 h1 (((cnt 1 (ints us) : Nat) : Int) - 1) (by rw [ec]; omega)) (fun d rt' hd => ?_)) | (refine borA [2] (c_l01Count o l hb hl a1 ha1 h1 (((cnt 1 (ints us) : Nat) : Int) - 1) (by rw [ec]; omega)) (fun d rt' hd => ?_)) | (refine borA [3] (c_l01Count o l hb hl a1 ha1 h1 (((cnt 1 (ints us) : Nat) : Int) - 1) (by rw [ec]; omega)) (fun d rt' hd => ?_)) | (refine borA [4] (c_l01Count o l hb hl a1 ha1 h1 (((cnt 1 (ints us) : Nat) : Int) - 1) (by rw [ec]; omega)) (fun d rt' hd => ?_)) | ((first | refine z0 ?_ | refine Alt.snd (And.intro (show mixOk _ _ = true by decide +kernel) ?_) | refine And.intro (show (_ : List (Option Root))[_]? = _ from rfl) ?_ | (refine And.intro (fun h => ?_) (fun h => ?_) <;> (try simp only [cnt1, ints_length] at h)) | refine zS ?_ | refine zV ?_ | (apply zI; refine zP vObt ?_) | (apply zI; refine zP vObx ?_) | refine zA ?_ | refine Alt.fst ?_ | refine Or.inl ?_) <;> conv => whnf) | fail
  obtain ⟨n, a2, h2, hn, ha2, rfl, rfl⟩ := hd
  refine ⟨rfl, by simp, ?_⟩
  conv => whnf
  repeat' first | (refine borA [1] (c_l01Next o l hb hl a2 ha2 h2 6) (fun d rt' hd => ?_)) | (refine borA [2] (c_l01Next o l hb hl a2 ha2 h2 6) (fun d rt' hd => ?_)) | (refine borA [3] (c_l01Next o l hb hl a2 ha2 h2 6) (fun d rt' hd => ?_)) | (refine borA [4] (c_l01Next o l hb hl a2 ha2 h2 6) (fun d rt' hd => ?_)) | ((first | refine z0 ?_ | refine Alt.snd (And.intro (show mixOk _ _ = true by decide +kernel) ?_) | refine And.intro (show (_ : List (Option Root))[_]? = _ from rfl) ?_ | (refine And.intro (fun h => ?_) (fun h => ?_) <;> (try simp only [cnt1, ints_length] at h)) | refine zS ?_ | refine zV ?_ | (apply zI; refine zP vObt ?_) | (apply zI; refine zP vObx ?_) | refine zA ?_ | refine Alt.fst ?_ | refine Or.inl ?_) <;> conv => whnf) | fail
  obtain ⟨x, a3, h3, hx, ha3, rfl, rfl⟩ := hd
  refine ⟨rfl, by simp, ?_⟩
  conv => whnf
  have hx2 := hx.2 (by omega)
  repeat' first | (refine borA [1] (c_l01Count o l hb hl a3 ha3 h3 99 (by omega)) (fun d rt' hd => ?_)) | (refine borA [2] (c_l01Count o l hb hl a3 ha3 h3 99 (by omega)) (fun d rt' hd => ?_)) | (refine borA [3] (c_l01Count o l hb hl a3 ha3 h3 99 (by omega)) (fun d rt' hd => ?_)) | (refine borA [4] (c_l01Count o l hb hl a3 ha3 h3 99 (by omega)) (fun d rt' hd => ?_)) | ((first | refine z0 ?_ | refine Alt.snd (And.intro (show mixOk _ _ = true by decide +kernel) ?_) | refine And.intro (show (_ : List (Option Root))[_]? = _ from rfl) ?_ | (refine And.intro (fun h => ?_) (fun h => ?_) <;> (try simp only [cnt1, ints_length] at h)) | refine zS ?_ | refine zV ?_ | (apply zI; refine zP vObt ?_) | (apply zI; refine zP vObx ?_) | refine zA ?_ | refine Alt.fst ?_ | refine Or.inl ?_) <;> conv => whnf) | fail
  obtain ⟨y, a4, h4, hy, ha4, rfl, rfl⟩ := hd
  refine ⟨rfl, by simp, ?_⟩
  conv => whnf
  repeat' first | (refine borA [2, 4] (c_l01Pick o l hb hl a4 ha4 h4 [x, y] (by simp)) (fun d rt' hd => ?_)) | (refine borA [2, 5] (c_l01Pick o l hb hl a4 ha4 h4 [x, y] (by simp)) (fun d rt' hd => ?_)) | (refine borA [2, 6] (c_l01Pick o l hb hl a4 ha4 h4 [x, y] (by simp)) (fun d rt' hd => ?_)) | ((first | refine z0 ?_ | refine Alt.snd (And.intro (show mixOk _ _ = true by decide +kernel) ?_) | refine And.intro (show (_ : List (Option Root))[_]? = _ from rfl) ?_ | (refine And.intro (fun h => ?_) (fun h => ?_) <;> (try simp only [cnt1, ints_length] at h)) | refine zS ?_ | refine zV ?_ | (apply zI; refine zP vObt ?_) | (apply zI; refine zP vObx ?_) | refine zA ?_ | refine Alt.fst ?_ | refine Or.inl ?_) <;> conv => whnf) | fail
  obtain ⟨v, a5, h5, hv, ha5, rfl, rfl⟩ := hd
  refine ⟨rfl, by simp, ?_⟩
  conv => whnf
  have hv2 : -4611686018427387904 ≤ v ∧ v ≤ 1099511627776 := by
    simp only [List.mem_cons, List.not_mem_nil, or_false] at hv
    omega
  repeat' first | ((first | refine z0 ?_ | refine Alt.snd (And.intro (show mixOk _ _ = true by decide +kernel) ?_) | refine And.intro (show (_ : List (Option Root))[_]? = _ from rfl) ?_ | (refine And.intro (fun h => ?_) (fun h => ?_) <;> (try simp only [cnt1, ints_length] at h)) | refine zS ?_ | refine zV ?_ | (apply zI; refine zP vObt ?_) | (apply zI; refine zP vObx ?_) | refine zA ?_ | refine And.intro ((inR64 (by omega) (by omega))) ?_ | refine Alt.fst ?_ | refine Or.inl ?_) <;> conv => whnf) | fail
  refine ⟨.tup [seF m us, dint n, dint (1 + v)], [none], ⟨m, us, n, 1 + v, hm, by omega, hn, by omega, rfl, rfl⟩, Weak.of (kp := 1) [none] ?_⟩
  conv => whnf
  repeat' ((first | refine z1 ?_ | refine z2 ?_ | refine zV ?_ | refine And.intro ?_ ?_ | exact trivial) <;> try (conv => whnf))
theorem c_DrawProductOfGenera (o : Bool) (l : List Nat) (hb : ∀ b ∈ l, b < 256) (hl : l.length ≤ 4611686018427387904) :
    CallsTo Tryz.prog 32 1 [.list o 1 (byts l)] [none]
      (fun d rt => ∃ (m : Int) (us ts : List Int), (0 ≤ m ∧ m ≤ 10001) ∧ us.length ≤ 21 ∧ ts.length ≤ 11 ∧ d = .tup [seF m us, .list false 1 (ints ts)] ∧ rt = [none]) := by
  refine callsTo_of Tryz.tabOk mixOrd 1 _ Tryz.func32 rfl rfl ?_
  conv => whnf
  repeat' first | (refine borA [] (c_l01From o l hb hl) (fun d rt' hd => ?_)) | ((first | refine z0 ?_ | (refine And.intro (fun h => ?_) (fun h => ?_) <;> (try simp only [cnt1, ints_length] at h)) | refine zS ?_ | refine zV ?_ | (apply zI; refine zP vObt ?_) | (apply zI; refine zP vObx ?_) | refine zA ?_ | refine Alt.fst ?_ | refine Or.inl ?_) <;> conv => whnf) | fail
  obtain ⟨h0, rfl, rfl⟩ := hd
  refine ⟨rfl, by simp, ?_⟩
  conv => whnf
  repeat' first | (refine borA [1] (c_l19Draw o l hb hl 0 (by omega) h0) (fun d rt' hd => ?_)) | (refine borA [2] (c_l19Draw o l hb hl 0 (by omega) h0) (fun d rt' hd => ?_)) | (refine borA [3] (c_l19Draw o l hb hl 0 (by omega) h0) (fun d rt' hd => ?_)) | (refine borA [4] (c_l19Draw o l hb hl 0 (by omega) h0) (fun d rt' hd => ?_)) | ((first | refine z0 ?_ | refine Alt.snd (And.intro (show mixOk _ _ = true by decide +kernel) ?_) | refine And.intro (show (_ : List (Option Root))[_]? = _ from rfl) ?_ | (refine And.intro (fun h => ?_) (fun h => ?_) <;> (try simp only [cnt1, ints_length] at h)) | refine zS ?_ | refine zV ?_ | (apply zI; refine zP vObt ?_) | (apply zI; refine zP vObx ?_) | refine zA ?_ | refine Alt.fst ?_ | refine Or.inl ?_) <;> conv => whnf) | fail
  obtain ⟨m, us, a1, h1, hm, hu, ha1, rfl, rfl⟩ := hd
  refine ⟨rfl, by simp, ?_⟩
  conv => whnf
  repeat' first | (refine borA [1] (c_l01Next o l hb hl a1 ha1 h1 4) (fun d rt' hd => ?_)) | (refine borA [2] (c_l01Next o l hb hl a1 ha1 h1 4) (fun d rt' hd => ?_)) | (refine borA [3] (c_l01Next o l hb hl a1 ha1 h1 4) (fun d rt' hd => ?_)) | (refine borA [4] (c_l01Next o l hb hl a1 ha1 h1 4) (fun d rt' hd => ?_)) | ((first | refine z0 ?_ | refine Alt.snd (And.intro (show mixOk _ _ = true by decide +kernel) ?_) | refine And.intro (show (_ : List (Option Root))[_]? = _ from rfl) ?_ | (refine And.intro (fun h => ?_) (fun h => ?_) <;> (try simp only [cnt1, ints_length] at h)) | refine zS ?_ | refine zV ?_ | (apply zI; refine zP vObt ?_) | (apply zI; refine zP vObx ?_) | refine zA ?_ | refine Alt.fst ?_ | refine Or.inl ?_) <;> conv => whnf) | fail
  obtain ⟨y, a3, h3, hy, ha3, rfl, rfl⟩ := hd
  refine ⟨rfl, by simp, ?_⟩
  conv => whnf
  have hy2 := hy.2 (by omega)
  repeat' first | (refine borA [1] (c_l01Next o l hb hl a3 ha3 h3 10) (fun d rt' hd => ?_)) | (refine borA [2] (c_l01Next o l hb hl a3 ha3 h3 10) (fun d rt' hd => ?_)) | (refine borA [3] (c_l01Next o l hb hl a3 ha3 h3 10) (fun d rt' hd => ?_)) | (refine borA [4] (c_l01Next o l hb hl a3 ha3 h3 10) (fun d rt' hd => ?_)) | ((first | refine z0 ?_ | refine Alt.snd (And.intro (show mixOk _ _ = true by decide +kernel) ?_) | refine And.intro (show (_ : List (Option Root))[_]? = _ from rfl) ?_ | (refine And.intro (fun h => ?_) (fun h => ?_) <;> (try simp only [cnt1, ints_length] at h)) | refine zS ?_ | refine zV ?_ | (apply zI; refine zP vObt ?_) | (apply zI; refine zP vObx ?_) | refine zA ?_ | refine Alt.fst ?_ | refine Or.inl ?_) <;> conv => whnf) | fail
  obtain ⟨z, a4, h4, hz, ha4, rfl, rfl⟩ := hd
  refine ⟨rfl, by simp, ?_⟩
  conv => whnf
  have hz2 := hz.2 (by omega)
  repeat' first | (refine borA [2, 4] (c_l01Pick o l hb hl a4 ha4 h4 [y, z, 10, 11] (by simp)) (fun d rt' hd => ?_)) | (refine borA [2, 5] (c_l01Pick o l hb hl a4 ha4 h4 [y, z, 10, 11] (by simp)) (fun d rt' hd => ?_)) | (refine borA [2, 6] (c_l01Pick o l hb hl a4 ha4 h4 [y, z, 10, 11] (by simp)) (fun d rt' hd => ?_)) | ((first | refine z0 ?_ | refine Alt.snd (And.intro (show mixOk _ _ = true by decide +kernel) ?_) | refine And.intro (show (_ : List (Option Root))[_]? = _ from rfl) ?_ | (refine And.intro (fun h => ?_) (fun h => ?_) <;> (try simp only [cnt1, ints_length] at h)) | refine zS ?_ | refine zV ?_ | (apply zI; refine zP vObt ?_) | (apply zI; refine zP vObx ?_) | refine zA ?_ | refine Alt.fst ?_ | refine Or.inl ?_) <;> conv => whnf) | fail
  obtain ⟨v, a5, h5, hv, ha5, rfl, rfl⟩ := hd
  refine ⟨rfl, by simp, ?_⟩
  conv => whnf
  have hv2 : 0 ≤ v ∧ v ≤ 11 := by
    simp only [List.mem_cons, List.not_mem_nil, or_false] at hv
    omega
  repeat' first | ((first | refine z0 ?_ | refine Alt.snd (And.intro (show mixOk _ _ = true by decide +kernel) ?_) | refine And.intro (show (_ : List (Option Root))[_]? = _ from rfl) ?_ | (refine And.intro (fun h => ?_) (fun h => ?_) <;> (try simp only [cnt1, ints_length] at h)) | refine zS ?_ | refine zV ?_ | (apply zI; refine zP vObt ?_) | (apply zI; refine zP vObx ?_) | refine zA ?_ | refine Alt.fst ?_ | refine Or.inl ?_) <;> conv => whnf) | fail
  refine loop_atR Tryz.tabOk mixOrd (α := List Int × Nat × Int) (fun u => [(6, .ref 4 [] 1 0 u.1.length), (7, dint (v - u.1.length)), (8, .undef), (12, .undef), (18, .undef)]) (fun u => [(2, some (srcR o l u.2.1 u.2.2)), (4, some ⟨false, 1, ints u.1⟩)]) (fun u => u.1.length ≤ v.toNat ∧ u.2.1 ≤ l.length) (fun u => v.toNat - u.1.length) (([], a5, h5)) ?_ ?_ ?_
  · exact ⟨by simp, ha5⟩
  · conv => whnf
    first | refine WeakS.autoR ?_ | refine Weak.autoR ?_
    conv => whnf
    repeat' ((first | refine z1 ?_ | refine z2 ?_ | refine zV ?_ | refine And.intro vRepl ?_ | refine And.intro vReplL ?_ | refine And.intro ?_ ?_ | exact trivial) <;> try (conv => whnf))
    all_goals simp
  intro u hu
  obtain ⟨ts, a0, h0'⟩ := u
  obtain ⟨hu2, ha0⟩ := hu
  simp only at hu2 ha0
  conv => whnf
  by_cases hlt : ts.length < v.toNat
  · repeat' first | (refine borA [1] (c_l01Next o l hb hl a0 ha0 h0' ((cnt 1 (ints us) : Nat) : Int)) (fun d rt' hd => ?_)) | (refine borA [2] (c_l01Next o l hb hl a0 ha0 h0' ((cnt 1 (ints us) : Nat) : Int)) (fun d rt' hd => ?_)) | (refine borA [3] (c_l01Next o l hb hl a0 ha0 h0' ((cnt 1 (ints us) : Nat) : Int)) (fun d rt' hd => ?_)) | (refine borA [4] (c_l01Next o l hb hl a0 ha0 h0' ((cnt 1 (ints us) : Nat) : Int)) (fun d rt' hd => ?_)) | ((first | refine z0 ?_ | refine Alt.snd (And.intro (show mixOk _ _ = true by decide +kernel) ?_) | refine And.intro (show (_ : List (Option Root))[_]? = _ from rfl) ?_ | (refine And.intro (fun h => ?_) (fun h => ?_) <;> (try simp only [cnt1, ints_length, rows_length, Tb_length, L_length, byts_length] at h) <;> first | (exfalso; first | omega | exact h trivial | (cases h; done)) | skip) | refine zS ?_ | refine zV ?_ | (apply zI; refine zP vObt ?_) | (apply zI; refine zP vObx ?_) | refine zA ?_ | refine Alt.fst ?_ | refine Or.inl ?_) <;> conv => whnf) | fail
    obtain ⟨x, a6, h6, hx, ha6, rfl, rfl⟩ := hd
    refine ⟨rfl, by simp, ?_⟩
    conv => whnf
    repeat' first | ((first | refine z0 ?_ | refine Alt.snd (And.intro (show mixOk _ _ = true by decide +kernel) ?_) | refine And.intro (show (_ : List (Option Root))[_]? = _ from rfl) ?_ | (refine And.intro (fun h => ?_) (fun h => ?_) <;> (try simp only [cnt1, ints_length, rows_length, Tb_length, L_length, byts_length] at h) <;> first | (exfalso; first | omega | exact h trivial | (cases h; done)) | skip) | refine zS ?_ | refine zV ?_ | (apply zI; refine zP vObt ?_) | (apply zI; refine zP vObx ?_) | refine zA ?_ | refine Alt.fst ?_ | refine Or.inl ?_) <;> conv => whnf) | fail
    refine Exists.intro (ts ++ [x], a6, h6) (And.intro ⟨by simp only [List.length_append, List.length_singleton]; omega, ha6⟩ (And.intro (by simp only [List.length_append, List.length_singleton]; omega) ?_))
    first | refine WeakS.autoR ?_ | refine Weak.autoR ?_
    conv => whnf
    repeat' ((first | refine z1 ?_ | refine z2 ?_ | refine zV ?_ | refine And.intro vRepl ?_ | refine And.intro vReplL ?_ | refine And.intro ?_ ?_ | exact trivial) <;> try (conv => whnf))
    all_goals first | (simp [ints]; done) | (simp; omega)
  · have e : ts.length = v.toNat := by omega
    have e2 : ts.length ≤ 11 := by omega
    by_cases hp : 0 < ts.length
    · repeat' first | (refine borA [2] (c_l01Next o l hb hl a0 ha0 h0' 16) (fun d rt' hd => ?_)) | ((first | refine z0 ?_ | refine Alt.snd (And.intro (show mixOk _ _ = true by decide +kernel) ?_) | refine And.intro (show (_ : List (Option Root))[_]? = _ from rfl) ?_ | (refine And.intro (fun h => ?_) (fun h => ?_) <;> (try simp only [cnt1, ints_length, rows_length, Tb_length, L_length, byts_length] at h) <;> first | (exfalso; first | omega | exact h trivial | (cases h; done)) | skip) | refine zS ?_ | refine zV ?_ | (apply zI; refine zP vObt ?_) | (apply zI; refine zP vObx ?_) | refine zA ?_ | refine Alt.fst ?_ | refine Or.inl ?_) <;> conv => whnf) | fail
      obtain ⟨y2, a8, h8, hy3, ha8, rfl, rfl⟩ := hd
      refine ⟨rfl, by simp, ?_⟩
      conv => whnf
      have hy4 := hy3.2 (by omega)
      repeat' first | (refine borA [2, 5] (c_l01Pick o l hb hl a8 ha8 h8 [-1, 11] (by simp)) (fun d rt' hd => ?_)) | (refine borA [2, 6] (c_l01Pick o l hb hl a8 ha8 h8 [-1, 11] (by simp)) (fun d rt' hd => ?_)) | ((first | refine z0 ?_ | refine Alt.snd (And.intro (show mixOk _ _ = true by decide +kernel) ?_) | refine And.intro (show (_ : List (Option Root))[_]? = _ from rfl) ?_ | (refine And.intro (fun h => ?_) (fun h => ?_) <;> (try simp only [cnt1, ints_length, rows_length, Tb_length, L_length, byts_length] at h) <;> first | (exfalso; first | omega | exact h trivial | (cases h; done)) | skip) | refine zS ?_ | refine zV ?_ | (apply zI; refine zP vObt ?_) | (apply zI; refine zP vObx ?_) | refine zA ?_ | refine Alt.fst ?_ | refine Or.inl ?_) <;> conv => whnf) | fail
      · obtain ⟨z2, a9, h9, hz3, ha9, rfl, rfl⟩ := hd
        refine ⟨rfl, by simp, ?_⟩
        conv => whnf
        repeat' first | ((first | refine z0 ?_ | refine Alt.snd (And.intro (show mixOk _ _ = true by decide +kernel) ?_) | refine And.intro (show (_ : List (Option Root))[_]? = _ from rfl) ?_ | (refine And.intro (fun h => ?_) (fun h => ?_) <;> (try simp only [cnt1, ints_length, rows_length, Tb_length, L_length, byts_length] at h) <;> first | (exfalso; first | omega | exact h trivial | (cases h; done)) | skip) | refine zS ?_ | refine zV ?_ | (apply zI; refine zP vObt ?_) | (apply zI; refine zP vObx ?_) | refine zA ?_ | refine And.intro (ints_plain _) ?_ | refine Alt.fst ?_ | refine Or.inl ?_) <;> conv => whnf) | fail
        first
          | (refine ⟨.tup [seF m us, .list false 1 (ints (ts.set 0 z2))], [none], ⟨m, us, ts.set 0 z2, hm, by omega, (by simp only [List.length_set]; omega), rfl, rfl⟩, Weak.trans (Weak.freezeR (kp := 1) (r := 4) (s0 := 1) (env' := [.tup [seF m us, .list false 1 (ints (ts.set 0 z2))]]) rfl rfl (fz_one (fz_tup2 (.rfl _) (fz_li (by (try simp only [List.length_set]); omega) (by rw [List.drop_zero, List.take_of_length_le (by (try simp only [List.length_set]); omega)]))))) (wkA (kp := 1) [none])⟩)
      · first
          | (refine ⟨.tup [seF m us, .list false 1 (ints ts)], [none], ⟨m, us, ts, hm, by omega, e2, rfl, rfl⟩, Weak.trans (Weak.freezeR (kp := 1) (r := 4) (s0 := 1) (env' := [.tup [seF m us, .list false 1 (ints ts)]]) rfl rfl (fz_one (fz_tup2 (.rfl _) (fz_li (by omega) (by rw [List.drop_zero, List.take_of_length_le (by omega)]))))) (wkA (kp := 1) [none])⟩)
    · repeat' first | ((first | refine z0 ?_ | refine Alt.snd (And.intro (show mixOk _ _ = true by decide +kernel) ?_) | refine And.intro (show (_ : List (Option Root))[_]? = _ from rfl) ?_ | (refine And.intro (fun h => ?_) (fun h => ?_) <;> (try simp only [cnt1, ints_length, rows_length, Tb_length, L_length, byts_length] at h) <;> first | (exfalso; first | omega | exact h trivial | (cases h; done)) | skip) | refine zS ?_ | refine zV ?_ | (apply zI; refine zP vObt ?_) | (apply zI; refine zP vObx ?_) | refine zA ?_ | refine Alt.fst ?_ | refine Or.inl ?_) <;> conv => whnf) | fail
      first
        | (refine ⟨.tup [seF m us, .list false 1 (ints ts)], [none], ⟨m, us, ts, hm, by omega, e2, rfl, rfl⟩, Weak.trans (Weak.freezeR (kp := 1) (r := 4) (s0 := 1) (env' := [.tup [seF m us, .list false 1 (ints ts)]]) rfl rfl (fz_one (fz_tup2 (.rfl _) (fz_li (by omega) (by rw [List.drop_zero, List.take_of_length_le (by omega)]))))) (wkA (kp := 1) [none])⟩)
end Go.Proofs

