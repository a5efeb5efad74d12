/- The law of cocycles. -/
-- tables
-- rec
import Derived.Test.YthpbaehnkmmkgaaGreatK18
import Derived.Test.YthpbaehnkmmkgaaGreatK148
import Derived.Test.YthpbaehnkmmkgaaGreatK139
namespace Go.Proofs
open Go Go.Vm Go.Fg Go.Fg.PS
set_option maxRecDepth 100000
set_option maxHeartbeats 4000000
set_option linter.unusedSimpArgs false
set_option linter.unusedVariables false
variable {m : Int}
theorem c_rows5 (o p o' p' : Bool) (N : Nat) (hN : N ≤ 100) (f g : PS (PS (Zm m))) : PureCall Tryz.prog 153 [.list o 1 (rows p (Tb N f)), .list o' 1 (rows p' (Tb N g))] (dbool (eqTB N f g)) := by
  by_cases hab : eqT N f g
  · rw [show eqTB N f g = true by simp [eqTB, hab]]
    refine pure_of_vcR Tryz.tabOk mixOrd Tryz.func153 rfl rfl ?_
    conv => whnf
    repeat' first | ((first | refine z0 ?_ | (refine And.intro (fun h => ?_) (fun h => ?_) <;> (try simp only [cnt1, ints_length, rows_length, Tb_length] at h) <;> first | (exfalso; omega) | skip) | refine zS ?_ | refine zV ?_ | (apply zI; refine zP vObt ?_) | (apply zI; refine zP vObx ?_) | refine zA ?_ | refine Alt.fst ?_ | refine Or.inl ?_) <;> conv => whnf) | fail
    refine loop_atR Tryz.tabOk mixOrd (α := Nat) (fun i => [(5, dint i)]) (fun i => []) (fun i => i ≤ N) (fun i => N - i) (0) ?_ ?_ ?_
    · omega
    · conv => whnf
      first | refine WeakS.autoR ?_ | refine Weak.autoR ?_
      conv => whnf
      repeat' ((first | refine z1 ?_ | refine z2 ?_ | refine zV ?_ | refine And.intro vRepl ?_ | refine And.intro vReplL ?_ | refine And.intro ?_ ?_ | exact trivial) <;> try (conv => whnf))
    intro i hi
    conv => whnf
    by_cases hin : i < N
    · have hc := c_likeInts p p' (L (N - i) (f.c i)) (L (N - i) (g.c i)) (by simp; omega) (by simp; omega)
      rw [show decide (L (N - i) (f.c i) = L (N - i) (g.c i)) = true by simp [hab i hin]] at hc
      repeat' first | ((first | refine z0 ?_ | (apply zI; refine zP (hc) ?_) | (refine And.intro (fun h => ?_) (fun h => ?_) <;> (try simp only [cnt1, ints_length, rows_length, Tb_length] at h) <;> first | (exfalso; omega) | skip) | refine zS ?_ | refine zV ?_ | (apply zI; refine zP vObt ?_) | (apply zI; refine zP vObx ?_) | refine zA ?_ | refine Alt.fst ?_ | refine Or.inl ?_) <;> conv => whnf) | fail
      · refine Exists.intro (i + 1) (And.intro vAr (And.intro vAr ?_))
        first | refine WeakS.autoR ?_ | refine Weak.autoR ?_
        conv => whnf
        repeat' ((first | refine z1 ?_ | refine z2 ?_ | refine zV ?_ | refine And.intro vRepl ?_ | refine And.intro vReplL ?_ | refine And.intro ?_ ?_ | exact trivial) <;> try (conv => whnf))
      all_goals (exfalso; simp_all; done)
    · repeat' first | ((first | refine z0 ?_ | (refine And.intro (fun h => ?_) (fun h => ?_) <;> (try simp only [cnt1, ints_length, rows_length, Tb_length] at h) <;> first | (exfalso; omega) | skip) | refine zS ?_ | refine zV ?_ | (apply zI; refine zP vObt ?_) | (apply zI; refine zP vObx ?_) | refine zA ?_ | refine Alt.fst ?_ | refine Or.inl ?_) <;> conv => whnf) | fail
      all_goals first | rfl
  · rw [show eqTB N f g = false by simp [eqTB, hab]]
    refine pure_of_vcR Tryz.tabOk mixOrd Tryz.func153 rfl rfl ?_
    conv => whnf
    repeat' first | ((first | refine z0 ?_ | (refine And.intro (fun h => ?_) (fun h => ?_) <;> (try simp only [cnt1, ints_length, rows_length, Tb_length] at h) <;> first | (exfalso; omega) | skip) | refine zS ?_ | refine zV ?_ | (apply zI; refine zP vObt ?_) | (apply zI; refine zP vObx ?_) | refine zA ?_ | refine Alt.fst ?_ | refine Or.inl ?_) <;> conv => whnf) | fail
    refine loop_atR Tryz.tabOk mixOrd (α := Nat) (fun i => [(5, dint i)]) (fun i => []) (fun i => i ≤ N ∧ ∀ k, k < i → L (N - k) (f.c k) = L (N - k) (g.c k)) (fun i => N - i) (0) ?_ ?_ ?_
    · exact ⟨by omega, by omega⟩
    · conv => whnf
      first | refine WeakS.autoR ?_ | refine Weak.autoR ?_
      conv => whnf
      repeat' ((first | refine z1 ?_ | refine z2 ?_ | refine zV ?_ | refine And.intro vRepl ?_ | refine And.intro vReplL ?_ | refine And.intro ?_ ?_ | exact trivial) <;> try (conv => whnf))
    intro i hi
    obtain ⟨hi, hk⟩ := hi
    conv => whnf
    by_cases hin : i < N
    · by_cases he : L (N - i) (f.c i) = L (N - i) (g.c i)
      · have hc := c_likeInts p p' (L (N - i) (f.c i)) (L (N - i) (g.c i)) (by simp; omega) (by simp; omega)
        rw [show decide (L (N - i) (f.c i) = L (N - i) (g.c i)) = true by simp [he]] at hc
        repeat' first | ((first | refine z0 ?_ | (apply zI; refine zP (hc) ?_) | (refine And.intro (fun h => ?_) (fun h => ?_) <;> (try simp only [cnt1, ints_length, rows_length, Tb_length] at h) <;> first | (exfalso; omega) | skip) | refine zS ?_ | refine zV ?_ | (apply zI; refine zP vObt ?_) | (apply zI; refine zP vObx ?_) | refine zA ?_ | refine Alt.fst ?_ | refine Or.inl ?_) <;> conv => whnf) | fail
        · refine Exists.intro (i + 1) (And.intro ⟨by omega, fun k hk9 => (Nat.lt_or_ge k i).elim (hk k) (fun h9 => by rw [show k = i by omega]; exact he)⟩ (And.intro vAr ?_))
          first | refine WeakS.autoR ?_ | refine Weak.autoR ?_
          conv => whnf
          repeat' ((first | refine z1 ?_ | refine z2 ?_ | refine zV ?_ | refine And.intro vRepl ?_ | refine And.intro vReplL ?_ | refine And.intro ?_ ?_ | exact trivial) <;> try (conv => whnf))
        all_goals (exfalso; simp_all; done)
      · have hc := c_likeInts p p' (L (N - i) (f.c i)) (L (N - i) (g.c i)) (by simp; omega) (by simp; omega)
        rw [show decide (L (N - i) (f.c i) = L (N - i) (g.c i)) = false by simp [he]] at hc
        repeat' first | ((first | refine z0 ?_ | (apply zI; refine zP (hc) ?_) | (refine And.intro (fun h => ?_) (fun h => ?_) <;> (try simp only [cnt1, ints_length, rows_length, Tb_length] at h) <;> first | (exfalso; omega) | skip) | refine zS ?_ | refine zV ?_ | (apply zI; refine zP vObt ?_) | (apply zI; refine zP vObx ?_) | refine zA ?_ | refine Alt.fst ?_ | refine Or.inl ?_) <;> conv => whnf) | fail
        all_goals first | rfl | (exfalso; simp_all; done)
    · exact (hab (fun k hk9 => hk k (by omega))).elim
theorem c_plane5 (o p o' p' : Bool) (N : Nat) (hN : N ≤ 100) (f g : PS (PS (Zm m))) : PureCall Tryz.prog 48 [PlD m o p N f, PlD m o' p' N g] (dbool (eqTB N f g)) := by
  refine pure_of_vcR Tryz.tabOk mixOrd Tryz.func48 rfl rfl ?_
  conv => whnf
  repeat' first | ((first | refine z0 ?_ | (apply zI; refine zP (c_rows5 _ _ _ _ N hN f g) ?_) | (refine And.intro (fun h => ?_) (fun h => ?_) <;> (try simp only [cnt1, ints_length, rows_length, Tb_length] at h) <;> first | (exfalso; omega) | skip) | refine zS ?_ | refine zV ?_ | (apply zI; refine zP vObt ?_) | (apply zI; refine zP vObx ?_) | refine zA ?_ | refine Alt.fst ?_ | refine Or.inl ?_) <;> conv => whnf) | fail
  all_goals first | (simp_all; done) | (exfalso; simp_all; done) | (rename_i h; rw [h]; rfl)
theorem c_rows5Nil : PureCall Tryz.prog 153 [.lit (.slice none 0 0), .lit (.slice none 0 0)] (dbool true) := by
  refine pure_of_vcR Tryz.tabOk mixOrd Tryz.func153 rfl rfl ?_
  conv => whnf
  repeat' first | ((first | refine z0 ?_ | (refine And.intro (fun h => ?_) (fun h => ?_) <;> (try simp only [cnt1, ints_length, rows_length, Tb_length, L_length, byts_length] at h) <;> first | (exfalso; first | omega | exact h trivial | (cases h; done)) | skip) | refine zS ?_ | refine zV ?_ | (apply zI; refine zP vObt ?_) | (apply zI; refine zP vObx ?_) | refine zA ?_ | refine Alt.fst ?_ | refine Or.inl ?_) <;> conv => whnf) | fail
  refine loop_atR Tryz.tabOk mixOrd (α := Nat) (fun i => [(5, dint i)]) (fun i => []) (fun i => i ≤ 0) (fun i => 0) (0) ?_ ?_ ?_
  · omega
  · conv => whnf
    first | refine WeakS.autoR ?_ | refine Weak.autoR ?_
    conv => whnf
    repeat' ((first | refine z1 ?_ | refine z2 ?_ | refine zV ?_ | refine And.intro vRepl ?_ | refine And.intro vReplL ?_ | refine And.intro ?_ ?_ | exact trivial) <;> try (conv => whnf))
  intro i hi
  conv => whnf
  repeat' first | ((first | refine z0 ?_ | (refine And.intro (fun h => ?_) (fun h => ?_) <;> (try simp only [cnt1, ints_length, rows_length, Tb_length, L_length, byts_length] at h) <;> first | (exfalso; first | omega | exact h trivial | (cases h; done)) | skip) | refine zS ?_ | refine zV ?_ | (apply zI; refine zP vObt ?_) | (apply zI; refine zP vObx ?_) | refine zA ?_ | refine Alt.fst ?_ | refine Or.inl ?_) <;> conv => whnf) | fail
end Go.Proofs

