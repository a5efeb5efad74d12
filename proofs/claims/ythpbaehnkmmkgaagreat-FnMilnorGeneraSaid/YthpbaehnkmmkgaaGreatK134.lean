/- The laws' helpers: sizes of codes, lists, tables and planes compared. -/
-- tables
-- rec
import Derived.Test.YthpbaehnkmmkgaaGreatK112
import Derived.Test.YthpbaehnkmmkgaaGreatK133
namespace Go.Proofs
open Go Go.Vm Go.Fg Go.Fg.PS
set_option maxRecDepth 100000
set_option maxHeartbeats 4000000
set_option linter.unusedSimpArgs false
set_option linter.unusedVariables false
variable {m : Int}
theorem c_big (o : Bool) (l : List Nat) (hl : l.length ≤ 9223372036854775807) : PureCall Tryz.prog 13 [.list o 1 (byts l)] (dbool (decide (4096 < l.length))) := by
  have hc : cnt 1 (byts l) = l.length := by simp [cnt1]
  refine pure_of_vcR Tryz.tabOk mixOrd Tryz.func13 rfl rfl ?_
  conv => whnf
  repeat' first | ((first | refine z0 ?_ | (refine And.intro (fun h => ?_) (fun h => ?_) <;> (try simp only [cnt1, ints_length] at h)) | refine zS ?_ | refine zV ?_ | (apply zI; refine zP vObt ?_) | (apply zI; refine zP vObx ?_) | refine zA ?_ | refine Alt.fst ?_ | refine Or.inl ?_) <;> conv => whnf) | fail
  all_goals first | rfl | (refine dbool_congr ?_; simp at *; omega)
theorem list_ne {a b : List Int} (h : a.length = b.length) (hab : a ≠ b) (hk : ∀ k, k < a.length → a.getD k 0 = b.getD k 0) : False :=
  hab (List.ext_getElem h (fun i h1 h2 => by have := hk i h1; simpa [h1, h2] using this))
theorem c_likeInts (o o' : Bool) (a b : List Int) (ha : a.length ≤ 9223372036854775807) (hb : b.length ≤ 9223372036854775807) : PureCall Tryz.prog 17 [.list o 1 (ints a), .list o' 1 (ints b)] (dbool (decide (a = b))) := by
  have h1 : cnt 1 (ints a) = a.length := by simp [cnt1]
  have h2 : cnt 1 (ints b) = b.length := by simp [cnt1]
  by_cases hab : a = b
  · subst hab
    rw [show decide (a = a) = true by simp]
    refine pure_of_vcR Tryz.tabOk mixOrd Tryz.func17 rfl rfl ?_
    conv => whnf
    repeat' first | ((first | refine z0 ?_ | (refine And.intro (fun h => ?_) (fun h => ?_) <;> (try simp only [cnt1, ints_length] at h) <;> first | (exfalso; omega) | skip) | refine zS ?_ | refine zV ?_ | (apply zI; refine zP vObt ?_) | (apply zI; refine zP vObx ?_) | refine zA ?_ | refine Alt.fst ?_ | refine Or.inl ?_) <;> conv => whnf) | fail
    refine loop_atR Tryz.tabOk mixOrd (α := Nat) (fun i => [(5, dint i)]) (fun i => []) (fun i => i ≤ a.length) (fun i => a.length - i) (0) ?_ ?_ ?_
    · omega
    · conv => whnf
      first | refine WeakS.autoR ?_ | refine Weak.autoR ?_
      conv => whnf
      repeat' ((first | refine z1 ?_ | refine z2 ?_ | refine zV ?_ | refine And.intro vRepl ?_ | refine And.intro vReplL ?_ | refine And.intro ?_ ?_ | exact trivial) <;> try (conv => whnf))
    intro i hi
    conv => whnf
    repeat' first | ((first | refine z0 ?_ | (refine And.intro (fun h => ?_) (fun h => ?_) <;> (try simp only [cnt1, ints_length] at h) <;> first | (exfalso; omega) | skip) | refine zS ?_ | refine zV ?_ | (apply zI; refine zP vObt ?_) | (apply zI; refine zP vObx ?_) | refine zA ?_ | refine Alt.fst ?_ | refine Or.inl ?_) <;> conv => whnf) | fail
    · refine Exists.intro (i + 1) (And.intro vAr (And.intro vAr ?_))
      first | refine WeakS.autoR ?_ | refine Weak.autoR ?_
      conv => whnf
      repeat' ((first | refine z1 ?_ | refine z2 ?_ | refine zV ?_ | refine And.intro vRepl ?_ | refine And.intro vReplL ?_ | refine And.intro ?_ ?_ | exact trivial) <;> try (conv => whnf))
    all_goals first | rfl
  · rw [show decide (a = b) = false by simp [hab]]
    refine pure_of_vcR Tryz.tabOk mixOrd Tryz.func17 rfl rfl ?_
    conv => whnf
    by_cases hl : a.length = b.length
    · repeat' first | ((first | refine z0 ?_ | (refine And.intro (fun h => ?_) (fun h => ?_) <;> (try simp only [cnt1, ints_length] at h) <;> first | (exfalso; omega) | skip) | refine zS ?_ | refine zV ?_ | (apply zI; refine zP vObt ?_) | (apply zI; refine zP vObx ?_) | refine zA ?_ | refine Alt.fst ?_ | refine Or.inl ?_) <;> conv => whnf) | fail
      refine loop_atR Tryz.tabOk mixOrd (α := Nat) (fun i => [(5, dint i)]) (fun i => []) (fun i => i ≤ a.length ∧ ∀ k, k < i → a.getD k 0 = b.getD k 0) (fun i => a.length - i) (0) ?_ ?_ ?_
      · exact ⟨by omega, by omega⟩
      · conv => whnf
        first | refine WeakS.autoR ?_ | refine Weak.autoR ?_
        conv => whnf
        repeat' ((first | refine z1 ?_ | refine z2 ?_ | refine zV ?_ | refine And.intro vRepl ?_ | refine And.intro vReplL ?_ | refine And.intro ?_ ?_ | exact trivial) <;> try (conv => whnf))
      intro i hi
      obtain ⟨hi, hk⟩ := hi
      conv => whnf
      by_cases hin : i < a.length
      · repeat' first | ((first | refine z0 ?_ | (refine And.intro (fun h => ?_) (fun h => ?_) <;> (try simp only [cnt1, ints_length] at h) <;> first | (exfalso; omega) | skip) | refine zS ?_ | refine zV ?_ | (apply zI; refine zP vObt ?_) | (apply zI; refine zP vObx ?_) | refine zA ?_ | refine Alt.fst ?_ | refine Or.inl ?_) <;> conv => whnf) | fail
        · refine Exists.intro (i + 1) (And.intro ⟨by omega, fun k hk9 => ?_⟩ (And.intro vAr ?_))
          · rcases Nat.lt_or_ge k i with h9 | h9
            · exact hk k h9
            · have e : k = i := by omega
              rw [e]; omega
          first | refine WeakS.autoR ?_ | refine Weak.autoR ?_
          conv => whnf
          repeat' ((first | refine z1 ?_ | refine z2 ?_ | refine zV ?_ | refine And.intro vRepl ?_ | refine And.intro vReplL ?_ | refine And.intro ?_ ?_ | exact trivial) <;> try (conv => whnf))
      · exact (list_ne hl hab (fun k hk9 => hk k (by omega))).elim
    · repeat' first | ((first | refine z0 ?_ | (refine And.intro (fun h => ?_) (fun h => ?_) <;> (try simp only [cnt1, ints_length] at h) <;> first | (exfalso; omega) | skip) | refine zS ?_ | refine zV ?_ | (apply zI; refine zP vObt ?_) | (apply zI; refine zP vObx ?_) | refine zA ?_ | refine Alt.fst ?_ | refine Or.inl ?_) <;> conv => whnf) | fail
      all_goals first | rfl
theorem c_likeNil : PureCall Tryz.prog 17 [.lit (.slice none 0 0), .lit (.slice none 0 0)] (dbool true) := by
  refine pure_of_vcR Tryz.tabOk mixOrd Tryz.func17 rfl rfl ?_
  conv => whnf
  repeat' first | ((first | refine z0 ?_ | (refine And.intro (fun h => ?_) (fun h => ?_) <;> (try simp only [cnt1, ints_length] at h) <;> first | (exfalso; omega) | skip) | refine zS ?_ | refine zV ?_ | (apply zI; refine zP vObt ?_) | (apply zI; refine zP vObx ?_) | refine zA ?_ | refine Alt.fst ?_ | refine Or.inl ?_) <;> conv => whnf) | fail
  refine loop_atR Tryz.tabOk mixOrd (α := Nat) (fun i => [(5, dint i)]) (fun i => []) (fun i => i = 0) (fun i => i) (0) ?_ ?_ ?_
  · omega
  · conv => whnf
    first | refine WeakS.autoR ?_ | refine Weak.autoR ?_
    conv => whnf
    repeat' ((first | refine z1 ?_ | refine z2 ?_ | refine zV ?_ | refine And.intro vRepl ?_ | refine And.intro vReplL ?_ | refine And.intro ?_ ?_ | exact trivial) <;> try (conv => whnf))
  intro i hi
  subst hi
  conv => whnf
  repeat' first | ((first | refine z0 ?_ | (refine And.intro (fun h => ?_) (fun h => ?_) <;> (try simp only [cnt1, ints_length] at h) <;> first | (exfalso; omega) | skip) | refine zS ?_ | refine zV ?_ | (apply zI; refine zP vObt ?_) | (apply zI; refine zP vObx ?_) | refine zA ?_ | refine Alt.fst ?_ | refine Or.inl ?_) <;> conv => whnf) | fail

def eqT (N : Nat) (f g : PS (PS (Zm m))) : Prop := ∀ i, i < N → L (N - i) (f.c i) = L (N - i) (g.c i)
open Classical in
noncomputable def eqTB (N : Nat) (f g : PS (PS (Zm m))) : Bool := decide (eqT N f g)
end Go.Proofs

