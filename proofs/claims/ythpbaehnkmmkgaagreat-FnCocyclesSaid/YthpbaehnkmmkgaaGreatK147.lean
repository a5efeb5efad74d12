/- Numbers of laws, multiples and sums of planes, factors of extensions: both sides. -/
-- tables
-- rec
import Derived.Test.YthpbaehnkmmkgaaGreatK155
import Derived.Test.YthpbaehnkmmkgaaGreatK154
namespace Go.Proofs
open Go Go.Vm Go.Fg Go.Fg.PS
set_option maxRecDepth 100000
set_option maxHeartbeats 4000000
set_option linter.unusedSimpArgs false
set_option linter.unusedVariables false
variable {m : Int}
theorem div_le {m most : Int} (h : 1 ≤ most) (hm : 2 ≤ m) : 0 ≤ most.tdiv m ∧ most.tdiv m ≤ most := by
  rw [Int.tdiv_eq_ediv_of_nonneg (by omega)]
  refine ⟨Int.ediv_nonneg (by omega) (by omega), Int.ediv_le_self m (by omega)⟩
theorem clP_succ {m most x : Int} {k : Nat} (h : clP m most k = some x) : (x > most.tdiv m → clP m most (k + 1) = none) ∧ (¬ x > most.tdiv m → clP m most (k + 1) = some (x * m)) := by
  unfold clP
  rw [h]
  exact ⟨fun h1 => if_pos h1, fun h1 => if_neg h1⟩
theorem c_countAtMost (m most : Int) (hm : 2 ≤ m ∧ m ≤ 10000) (hM : 1 ≤ most ∧ most ≤ 1000000000000000000) (k : Nat) (hk : k ≤ 100) {K : Int} (hK : K = k) : PureCall Tryz.prog 270 [dint m, dint K, dint most] (dint ((clP m most k).getD (most + 1))) := by
  subst hK
  refine pure_of_vcR Tryz.tabOk mixOrd Tryz.func270 rfl rfl ?_
  conv => whnf
  repeat' first | ((first | refine z0 ?_ | (refine And.intro (fun h => ?_) (fun h => ?_) <;> (try simp only [cnt1, ints_length] at h)) | refine zS ?_ | refine zV ?_ | (apply zI; refine zP vObt ?_) | (apply zI; refine zP vObx ?_) | refine zA ?_ | refine Alt.fst ?_ | refine Or.inl ?_) <;> conv => whnf) | fail
  refine loop_atR Tryz.tabOk mixOrd (α := Nat × Int) (fun u => [(9, dint u.1), (6, .undef), (7, dint u.2)]) (fun u => []) (fun u => u.1 ≤ k ∧ clP m most u.1 = some u.2) (fun u => k - u.1) ((0, 1)) ?_ ?_ ?_
  · exact ⟨by omega, rfl⟩
  · conv => whnf
    first | refine WeakS.autoR ?_ | refine Weak.autoR ?_
    conv => whnf
    repeat' ((first | refine z1 ?_ | refine z2 ?_ | refine zV ?_ | refine And.intro vRepl ?_ | refine And.intro vReplL ?_ | refine And.intro ?_ ?_ | exact trivial) <;> try (conv => whnf))
  intro ⟨j, x⟩ ⟨hj, hx⟩
  simp only at hj hx
  conv => whnf
  have hxr := clP_le (by omega) hM.1 hx
  have key : ¬ x > most.tdiv m → inR .i64 (x * m) := fun h9 => by
    have := clP_le (by omega) hM.1 ((clP_succ hx).2 h9)
    exact inR64 (by omega) (by omega)
  have hdq := div_le hM.1 hm.1
  repeat' first | ((first | refine z0 ?_ | (refine And.intro (fun h => ?_) (fun h => ?_) <;> (try simp only [cnt1, ints_length, rows_length, Tb_length, L_length, byts_length] at h) <;> first | (exfalso; first | omega | exact h trivial | (cases h; done)) | skip) | refine zS ?_ | refine zV ?_ | (apply zI; refine zP vObt ?_) | (apply zI; refine zP vObx ?_) | refine zA ?_ | refine And.intro ((key (by assumption))) ?_ | refine And.intro ((inR64 (by omega) (by omega))) ?_ | refine Alt.fst ?_ | refine Or.inl ?_) <;> conv => whnf) | fail
  · rw [clP_none ((clP_succ hx).1 (by assumption)) k (by omega)]; rfl
  · refine Exists.intro (j + 1, x * m) (And.intro ⟨by omega, (clP_succ hx).2 (by assumption)⟩ (And.intro (by omega) ?_))
    first | refine WeakS.autoR ?_ | refine Weak.autoR ?_
    conv => whnf
    repeat' ((first | refine z1 ?_ | refine z2 ?_ | refine zV ?_ | refine And.intro vRepl ?_ | refine And.intro vReplL ?_ | refine And.intro ?_ ?_ | exact trivial) <;> try (conv => whnf))
  · rw [show k = j by omega, hx]; rfl
theorem c_implCountLaws (m d : Int) : PureCall Tryz.prog 103 [dint m, dint d] (.tup [dint (nlV m d), dint (nlC m d)]) := by
  cases h1 : inB m 2 10000 with
  | false =>
    have e1 := c_IsModulus m
    rw [h1] at e1
    have e : nlC m d = 1 := by unfold nlC; rw [if_neg (by simp [h1])]
    have e2 : nlV m d = 0 := by unfold nlV; rw [if_neg (by omega)]
    rw [e, e2]
    refine pure_of_vcR Tryz.tabOk mixOrd Tryz.func103 rfl rfl ?_
    conv => whnf
    repeat' first | ((first | refine z0 ?_ | (apply zI; refine zP (e1) ?_) | (refine And.intro (fun h => ?_) (fun h => ?_) <;> (try simp only [cnt1, ints_length, rows_length, Tb_length, L_length, byts_length] at h) <;> first | (exfalso; first | omega | exact h trivial | (cases h; done)) | skip) | refine zS ?_ | refine zV ?_ | (apply zI; refine zP vObt ?_) | (apply zI; refine zP vObx ?_) | refine zA ?_ | refine Alt.fst ?_ | refine Or.inl ?_) <;> conv => whnf) | fail
  | true =>
    have e1 := c_IsModulus m
    rw [h1] at e1
    have hm : 2 ≤ m ∧ m ≤ 10000 := by simpa [inB] using h1
    cases h2 : inB d 1 10 with
    | false =>
      have e3 := c_impl_in d 1 10
      rw [h2] at e3
      have e : nlC m d = 2 := by unfold nlC; rw [if_pos h1, if_neg (by simp [h2])]
      have e2 : nlV m d = 0 := by unfold nlV; rw [if_neg (by omega)]
      rw [e, e2]
      refine pure_of_vcR Tryz.tabOk mixOrd Tryz.func103 rfl rfl ?_
      conv => whnf
      repeat' first | ((first | refine z0 ?_ | (apply zI; refine zP (e1) ?_) | (apply zI; refine zP (e3) ?_) | (refine And.intro (fun h => ?_) (fun h => ?_) <;> (try simp only [cnt1, ints_length, rows_length, Tb_length, L_length, byts_length] at h) <;> first | (exfalso; first | omega | exact h trivial | (cases h; done)) | skip) | refine zS ?_ | refine zV ?_ | (apply zI; refine zP vObt ?_) | (apply zI; refine zP vObx ?_) | refine zA ?_ | refine Alt.fst ?_ | refine Or.inl ?_) <;> conv => whnf) | fail
    | true =>
      have e3 := c_impl_in d 1 10
      rw [h2] at e3
      have hd : 1 ≤ d ∧ d ≤ 10 := by simpa [inB] using h2
      have e4 := c_countAtMost m 1000000000000000000 hm (by omega) (d - 1).toNat (by omega) (K := d - 1) (by omega)
      cases h3 : clP m 1000000000000000000 (d - 1).toNat with
      | none =>
        rw [h3] at e4
        simp only [Option.getD_none] at e4
        have e : nlC m d = 3 := by unfold nlC; rw [if_pos h1, if_pos h2, h3]
        have e2 : nlV m d = 0 := by unfold nlV; rw [if_neg (by omega)]
        rw [e, e2]
        refine pure_of_vcR Tryz.tabOk mixOrd Tryz.func103 rfl rfl ?_
        conv => whnf
        repeat' first | ((first | refine z0 ?_ | (apply zI; refine zP (e1) ?_) | (apply zI; refine zP (e3) ?_) | (apply zI; refine zP (e4) ?_) | (refine And.intro (fun h => ?_) (fun h => ?_) <;> (try simp only [cnt1, ints_length, rows_length, Tb_length, L_length, byts_length] at h) <;> first | (exfalso; first | omega | exact h trivial | (cases h; done)) | skip) | refine zS ?_ | refine zV ?_ | (apply zI; refine zP vObt ?_) | (apply zI; refine zP vObx ?_) | refine zA ?_ | refine And.intro ((inR64 (by omega) (by omega))) ?_ | refine Alt.fst ?_ | refine Or.inl ?_) <;> conv => whnf) | fail
      | some x =>
        rw [h3] at e4
        have hx := clP_le (by omega) (by omega) h3
        have e : nlC m d = 0 := by unfold nlC; rw [if_pos h1, if_pos h2, h3]
        have e2 : nlV m d = x := by unfold nlV; rw [if_pos e, h3]; rfl
        rw [e, e2]
        simp only [Option.getD_some] at e4
        refine pure_of_vcR Tryz.tabOk mixOrd Tryz.func103 rfl rfl ?_
        conv => whnf
        repeat' first | ((first | refine z0 ?_ | (apply zI; refine zP (e1) ?_) | (apply zI; refine zP (e3) ?_) | (apply zI; refine zP (e4) ?_) | (refine And.intro (fun h => ?_) (fun h => ?_) <;> (try simp only [cnt1, ints_length, rows_length, Tb_length, L_length, byts_length] at h) <;> first | (exfalso; first | omega | exact h trivial | (cases h; done)) | skip) | refine zS ?_ | refine zV ?_ | (apply zI; refine zP vObt ?_) | (apply zI; refine zP vObx ?_) | refine zA ?_ | refine And.intro ((inR64 (by omega) (by omega))) ?_ | refine Alt.fst ?_ | refine Or.inl ?_) <;> conv => whnf) | fail
theorem c_specCountLaws (m d : Int) : PureCall Tryz.prog 104 [dint m, dint d] (.tup [dint (nlV m d), dint (nlC m d)]) := by
  cases h1 : inB m 2 10000 with
  | false =>
    have e1 := c_l01Modulus m
    rw [h1] at e1
    have e : nlC m d = 1 := by unfold nlC; rw [if_neg (by simp [h1])]
    have e2 : nlV m d = 0 := by unfold nlV; rw [if_neg (by omega)]
    rw [e, e2]
    refine pure_of_vcR Tryz.tabOk mixOrd Tryz.func104 rfl rfl ?_
    conv => whnf
    repeat' first | ((first | refine z0 ?_ | (apply zI; refine zP (e1) ?_) | (refine And.intro (fun h => ?_) (fun h => ?_) <;> (try simp only [cnt1, ints_length, rows_length, Tb_length, L_length, byts_length] at h) <;> first | (exfalso; first | omega | exact h trivial | (cases h; done)) | skip) | refine zS ?_ | refine zV ?_ | (apply zI; refine zP vObt ?_) | (apply zI; refine zP vObx ?_) | refine zA ?_ | refine Alt.fst ?_ | refine Or.inl ?_) <;> conv => whnf) | fail
  | true =>
    have e1 := c_l01Modulus m
    rw [h1] at e1
    have hm : 2 ≤ m ∧ m ≤ 10000 := by simpa [inB] using h1
    cases h2 : inB d 1 10 with
    | false =>
      have e3 := c_l01In d 1 10
      rw [h2] at e3
      have e : nlC m d = 2 := by unfold nlC; rw [if_pos h1, if_neg (by simp [h2])]
      have e2 : nlV m d = 0 := by unfold nlV; rw [if_neg (by omega)]
      rw [e, e2]
      refine pure_of_vcR Tryz.tabOk mixOrd Tryz.func104 rfl rfl ?_
      conv => whnf
      repeat' first | ((first | refine z0 ?_ | (apply zI; refine zP (e1) ?_) | (apply zI; refine zP (e3) ?_) | (refine And.intro (fun h => ?_) (fun h => ?_) <;> (try simp only [cnt1, ints_length, rows_length, Tb_length, L_length, byts_length] at h) <;> first | (exfalso; first | omega | exact h trivial | (cases h; done)) | skip) | refine zS ?_ | refine zV ?_ | (apply zI; refine zP vObt ?_) | (apply zI; refine zP vObx ?_) | refine zA ?_ | refine Alt.fst ?_ | refine Or.inl ?_) <;> conv => whnf) | fail
    | true =>
      have e3 := c_l01In d 1 10
      rw [h2] at e3
      have hd : 1 ≤ d ∧ d ≤ 10 := by simpa [inB] using h2
      refine pure_of_vcR Tryz.tabOk mixOrd Tryz.func104 rfl rfl ?_
      conv => whnf
      repeat' first | ((first | refine z0 ?_ | (apply zI; refine zP (e1) ?_) | (apply zI; refine zP (e3) ?_) | (refine And.intro (fun h => ?_) (fun h => ?_) <;> (try simp only [cnt1, ints_length, rows_length, Tb_length, L_length, byts_length] at h) <;> first | (exfalso; first | omega | exact h trivial | (cases h; done)) | skip) | refine zS ?_ | refine zV ?_ | (apply zI; refine zP vObt ?_) | (apply zI; refine zP vObx ?_) | refine zA ?_ | refine Alt.fst ?_ | refine Or.inl ?_) <;> conv => whnf) | fail
      refine loop_atR Tryz.tabOk mixOrd (α := Nat × Int) (fun u => [(1, dint (d - u.1)), (6, dint u.2)]) (fun u => []) (fun u => u.1 ≤ (d - 1).toNat ∧ clP m 1000000000000000000 u.1 = some u.2) (fun u => (d - 1).toNat - u.1) ((0, 1)) ?_ ?_ ?_
      · exact ⟨by omega, rfl⟩
      · conv => whnf
        first | refine WeakS.autoR ?_ | refine Weak.autoR ?_
        conv => whnf
        repeat' ((first | refine z1 ?_ | refine z2 ?_ | refine zV ?_ | refine And.intro vRepl ?_ | refine And.intro vReplL ?_ | refine And.intro ?_ ?_ | exact trivial) <;> try (conv => whnf))
      intro ⟨j, x⟩ ⟨hj, hx⟩
      simp only at hj hx
      conv => whnf
      have hxr := clP_le (by omega) (by omega) hx
      have key : ¬ x > (1000000000000000000 : Int).tdiv m → inR .i64 (x * m) := fun h9 => by
        have := clP_le (by omega) (by omega) ((clP_succ hx).2 h9)
        exact inR64 (by omega) (by omega)
      have hdq := div_le (most := 1000000000000000000) (by omega) hm.1
      repeat' first | ((first | refine z0 ?_ | (refine And.intro (fun h => ?_) (fun h => ?_) <;> (try simp only [cnt1, ints_length, rows_length, Tb_length, L_length, byts_length] at h) <;> first | (exfalso; first | omega | exact h trivial | (cases h; done)) | skip) | refine zS ?_ | refine zV ?_ | (apply zI; refine zP vObt ?_) | (apply zI; refine zP vObx ?_) | refine zA ?_ | refine And.intro ((key (by assumption))) ?_ | refine And.intro ((inR64 (by omega) (by omega))) ?_ | refine Alt.fst ?_ | refine Or.inl ?_) <;> conv => whnf) | fail
      · have h3 := clP_none ((clP_succ hx).1 (by assumption)) (d - 1).toNat (by omega)
        have e : nlC m d = 3 := by unfold nlC; rw [if_pos h1, if_pos h2, h3]
        have e2 : nlV m d = 0 := by unfold nlV; rw [if_neg (by omega)]
        rw [e, e2]
      · refine Exists.intro (j + 1, x * m) (And.intro ⟨by omega, (clP_succ hx).2 (by assumption)⟩ (And.intro (by omega) ?_))
        first | refine WeakS.autoR ?_ | refine Weak.autoR ?_
        conv => whnf
        repeat' ((first | refine z1 ?_ | refine z2 ?_ | refine zV ?_ | refine And.intro vRepl ?_ | refine And.intro vReplL ?_ | refine And.intro ?_ ?_ | exact trivial) <;> try (conv => whnf))
      · have h3 : clP m 1000000000000000000 (d - 1).toNat = some x := by rw [show (d - 1).toNat = j by omega]; exact hx
        have e : nlC m d = 0 := by unfold nlC; rw [if_pos h1, if_pos h2, h3]
        have e2 : nlV m d = x := by unfold nlV; rw [if_pos e, h3]; rfl
        rw [e, e2]
end Go.Proofs

