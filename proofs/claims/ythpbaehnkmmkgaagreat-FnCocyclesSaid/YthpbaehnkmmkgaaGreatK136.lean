/- The laws' helpers: sizes of codes, lists, tables and planes compared. -/
import Derived.Test.YthpbaehnkmmkgaaGreatK112
import Derived.Test.YthpbaehnkmmkgaaGreatK130
import Derived.Test.YthpbaehnkmmkgaaGreatVm32
import Derived.Test.YthpbaehnkmmkgaaGreatK129
import Derived.Test.YthpbaehnkmmkgaaGreatK133
import Derived.Test.YthpbaehnkmmkgaaGreatK132

-- tables
-- rec
namespace Go.Proofs
open Go Go.Vm Go.Fg Go.Fg.PS
set_option maxRecDepth 100000
set_option maxHeartbeats 4000000
set_option linter.unusedSimpArgs false
set_option linter.unusedVariables false
variable {m : Int}
theorem c_big (o : Bool) (l : List Nat) (hl : l.length ≤ 9223372036854775807) : PureCall Tryz.prog 13 [.list o 1 (byts l)] (dbool (decide (4096 < l.length))) := by
  have hc : cnt 1 (byts l) = l.length := by simp [cnt1]
  refine pure_of_vcR Tryz.tabOk mixOrd Tryz.func13 rfl rfl ?_
  conv => whnf
  repeat' first | ((first | refine z0 ?_ | (refine And.intro (fun h => ?_) (fun h => ?_) <;> (try simp only [cnt1, ints_length] at h)) | refine zS ?_ | refine zV ?_ | (apply zI; refine zP vObt ?_) | (apply zI; refine zP vObx ?_) | refine zA ?_ | refine Alt.fst ?_ | refine Or.inl ?_) <;> conv => whnf) | fail
  all_goals first | rfl | (refine dbool_congr ?_; simp at *; omega)
theorem list_ne {a b : List Int} (h : a.length = b.length) (hab : a ≠ b) (hk : ∀ k, k < a.length → a.getD k 0 = b.getD k 0) : False :=
  hab (List.ext_getElem h (fun i h1 h2 => by have := hk i h1; simpa [h1, h2] using this))
theorem c_likeInts (o o' : Bool) (a b : List Int) (ha : a.length ≤ 9223372036854775807) (hb : b.length ≤ 9223372036854775807) : PureCall Tryz.prog 17 [.list o 1 (ints a), .list o' 1 (ints b)] (dbool (decide (a = b))) := by
  have h1 : cnt 1 (ints a) = a.length := by simp [cnt1]
  have h2 : cnt 1 (ints b) = b.length := by simp [cnt1]
  by_cases hab : a = b
  · subst hab
    rw [show decide (a = a) = true by simp]
    refine pure_of_vcR Tryz.tabOk mixOrd Tryz.func17 rfl rfl ?_
    conv => whnf
    repeat' first | ((first | refine z0 ?_ | (refine And.intro (fun h => ?_) (fun h => ?_) <;> (try simp only [cnt1, ints_length] at h) <;> first | (exfalso; omega) | skip) | refine zS ?_ | refine zV ?_ | (apply zI; refine zP vObt ?_) | (apply zI; refine zP vObx ?_) | refine zA ?_ | refine Alt.fst ?_ | refine Or.inl ?_) <;> conv => whnf) | fail
    refine loop_atR Tryz.tabOk mixOrd (α := Nat) (fun i => [(5, dint i)]) (fun i => []) (fun i => i ≤ a.length) (fun i => a.length - i) (0) ?_ ?_ ?_
    · omega
    · conv => whnf
      first | refine WeakS.autoR ?_ | refine Weak.autoR ?_
      conv => whnf
      repeat' ((first | refine z1 ?_ | refine z2 ?_ | refine zV ?_ | refine And.intro vRepl ?_ | refine And.intro vReplL ?_ | refine And.intro ?_ ?_ | exact trivial) <;> try (conv => whnf))
    intro i hi
    conv => whnf
    repeat' first | ((first | refine z0 ?_ | (refine And.intro (fun h => ?_) (fun h => ?_) <;> (try simp only [cnt1, ints_length] at h) <;> first | (exfalso; omega) | skip) | refine zS ?_ | refine zV ?_ | (apply zI; refine zP vObt ?_) | (apply zI; refine zP vObx ?_) | refine zA ?_ | refine Alt.fst ?_ | refine Or.inl ?_) <;> conv => whnf) | fail
    · refine Exists.intro (i + 1) (And.intro vAr (And.intro vAr ?_))
      first | refine WeakS.autoR ?_ | refine Weak.autoR ?_
      conv => whnf
      repeat' ((first | refine z1 ?_ | refine z2 ?_ | refine zV ?_ | refine And.intro vRepl ?_ | refine And.intro vReplL ?_ | refine And.intro ?_ ?_ | exact trivial) <;> try (conv => whnf))
    all_goals first | rfl
  · rw [show decide (a = b) = false by simp [hab]]
    refine pure_of_vcR Tryz.tabOk mixOrd Tryz.func17 rfl rfl ?_
    conv => whnf
    by_cases hl : a.length = b.length
    · repeat' first | ((first | refine z0 ?_ | (refine And.intro (fun h => ?_) (fun h => ?_) <;> (try simp only [cnt1, ints_length] at h) <;> first | (exfalso; omega) | skip) | refine zS ?_ | refine zV ?_ | (apply zI; refine zP vObt ?_) | (apply zI; refine zP vObx ?_) | refine zA ?_ | refine Alt.fst ?_ | refine Or.inl ?_) <;> conv => whnf) | fail
      refine loop_atR Tryz.tabOk mixOrd (α := Nat) (fun i => [(5, dint i)]) (fun i => []) (fun i => i ≤ a.length ∧ ∀ k, k < i → a.getD k 0 = b.getD k 0) (fun i => a.length - i) (0) ?_ ?_ ?_
      · exact ⟨by omega, by omega⟩
      · conv => whnf
        first | refine WeakS.autoR ?_ | refine Weak.autoR ?_
        conv => whnf
        repeat' ((first | refine z1 ?_ | refine z2 ?_ | refine zV ?_ | refine And.intro vRepl ?_ | refine And.intro vReplL ?_ | refine And.intro ?_ ?_ | exact trivial) <;> try (conv => whnf))
      intro i hi
      obtain ⟨hi, hk⟩ := hi
      conv => whnf
      by_cases hin : i < a.length
      · repeat' first | ((first | refine z0 ?_ | (refine And.intro (fun h => ?_) (fun h => ?_) <;> (try simp only [cnt1, ints_length] at h) <;> first | (exfalso; omega) | skip) | refine zS ?_ | refine zV ?_ | (apply zI; refine zP vObt ?_) | (apply zI; refine zP vObx ?_) | refine zA ?_ | refine Alt.fst ?_ | refine Or.inl ?_) <;> conv => whnf) | fail
        · refine Exists.intro (i + 1) (And.intro ⟨by omega, fun k hk9 => ?_⟩ (And.intro vAr ?_))
          · rcases Nat.lt_or_ge k i with h9 | h9
            · exact hk k h9
            · have e : k = i := by omega
              rw [e]; omega
          first | refine WeakS.autoR ?_ | refine Weak.autoR ?_
          conv => whnf
          repeat' ((first | refine z1 ?_ | refine z2 ?_ | refine zV ?_ | refine And.intro vRepl ?_ | refine And.intro vReplL ?_ | refine And.intro ?_ ?_ | exact trivial) <;> try (conv => whnf))
      · exact (list_ne hl hab (fun k hk9 => hk k (by omega))).elim
    · repeat' first | ((first | refine z0 ?_ | (refine And.intro (fun h => ?_) (fun h => ?_) <;> (try simp only [cnt1, ints_length] at h) <;> first | (exfalso; omega) | skip) | refine zS ?_ | refine zV ?_ | (apply zI; refine zP vObt ?_) | (apply zI; refine zP vObx ?_) | refine zA ?_ | refine Alt.fst ?_ | refine Or.inl ?_) <;> conv => whnf) | fail
      all_goals first | rfl
open Classical in
noncomputable def eqTB (N : Nat) (f g : PS (PS (Zm m))) : Bool := decide (eqT N f g)
end Go.Proofs



-- tables
-- rec
namespace Go.Vm
open Go
structure Hold (p : Prop) : Prop where
  out : p
section
variable {P : Program} {T : Tab} {kp : Nat}
end
end Go.Vm



-- tables
-- rec
namespace Go.Proofs
open Go Go.Vm Go.Fg Go.Fg.PS
set_option maxRecDepth 100000
set_option maxHeartbeats 4000000
set_option linter.unusedSimpArgs false
set_option linter.unusedVariables false
variable {m : Int}
section
variable (n : Nat) (a : PS (Zm m))
end
end Go.Proofs



-- tables
-- rec
namespace Go.Proofs
open Go Go.Vm Go.Fg Go.Fg.PS
set_option maxRecDepth 100000
set_option maxHeartbeats 4000000
set_option linter.unusedSimpArgs false
set_option linter.unusedVariables false
variable {m : Int}
end Go.Proofs



-- tables
-- rec
namespace Go.Proofs
open Go Go.Vm Go.Fg Go.Fg.PS
set_option maxRecDepth 100000
set_option maxHeartbeats 4000000
set_option linter.unusedSimpArgs false
set_option linter.unusedVariables false
variable {m : Int}
end Go.Proofs



-- tables
-- rec
namespace Go.Proofs
open Go Go.Vm Go.Fg Go.Fg.PS
set_option maxRecDepth 100000
set_option maxHeartbeats 4000000
set_option linter.unusedSimpArgs false
set_option linter.unusedVariables false
variable {m : Int}
end Go.Proofs



-- tables
-- rec
namespace Go.Proofs
open Go Go.Vm Go.Fg Go.Fg.PS
set_option maxRecDepth 100000
set_option maxHeartbeats 4000000
set_option linter.unusedSimpArgs false
set_option linter.unusedVariables false
variable {m : Int}
theorem fz_tup2 {r : Nat} {cs : List D} {a a' b b' : D} (h1 : Fz r cs a a') (h2 : Fz r cs b b') : Fz r cs (.tup [a, b]) (.tup [a', b']) :=
  .tup _ _ rfl (fun i d d' hd hd' => by
    match i, hd, hd' with
    | 0, hd, hd' => simp at hd hd'; subst hd; subst hd'; exact h1
    | 1, hd, hd' => simp at hd hd'; subst hd; subst hd'; exact h2
    | i + 2, hd, hd' => simp at hd)
end Go.Proofs


