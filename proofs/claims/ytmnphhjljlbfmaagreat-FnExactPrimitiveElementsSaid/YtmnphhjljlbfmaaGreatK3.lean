/- Contracts of the reference's functions on lists of coefficients. -/
import Derived.Test.YtmnphhjljlbfmaaGreatK1
namespace Go.Proofs
open Go Go.Vm Go.Fg Go.Fg.PS
set_option maxRecDepth 100000
set_option maxHeartbeats 4000000
set_option linter.unusedSimpArgs false
set_option linter.unusedVariables false

variable {m : Int}
abbrev LD (o : Bool) (n : Nat) (a : PS (Zm m)) : D := .list o 1 (ints (L n a))
theorem lD_congr {l : List Int} {o : Bool} {n : Nat} {a : PS (Zm m)} (h : l = L n a) : D.list o 1 (ints l) = LD o n a := by rw [h]
theorem ints_congr' {l l' : List Int} (h : l = l') : ints l = ints l' := by rw [h]

theorem c_l02Times (hm : Md m) (o o' : Bool) (n na nb : Nat) {d : Int} (hd : d + 1 = n) (hn : n ≤ 100) (h1 : n ≤ na) (h2 : n ≤ nb) (h3 : na ≤ 1048576) (h4 : nb ≤ 1048576) (a b : PS (Zm m)) :
    PureCall Tryz.prog 99 [dint m, LD o na a, LD o' nb b, dint d] (LD true n (a * b)) := by
  have hm1 := hm.1
  have hm2 := hm.2
  refine pure_of_vc Tryz.tabOk mixOrd Tryz.func99 rfl rfl ?_
  conv => whnf
  repeat' first | ((first | refine And.intro (Or.inl rfl) ?_ | (refine And.intro (fun h => ?_) (fun h => ?_) <;> (try simp only [cnt1, ints_length] at h)) | refine And.intro (show slotsOk _ = true by decide +kernel) ?_ | refine And.intro vOb ?_ | (apply Exists.intro; refine And.intro vObx ?_) | refine Or.inl ?_) <;> conv => whnf) | fail
  refine loop_at Tryz.tabOk mixOrd (α := Nat) (fun i => [(10, dint i)]) (fun i => [(0, some ⟨false, 1, ints (L n (tP a b i))⟩)]) (fun i => i ≤ n) (fun i => n - i) (0) ?_ ?_ ?_
  · omega
  · conv => whnf
    first | refine WeakS.auto ?_ | refine Weak.auto ?_
    conv => whnf
    repeat' ((first | exact trivial | refine And.intro rfl ?_ | refine And.intro (eqV_int vAr) ?_ | refine And.intro vOb ?_ | refine And.intro vRepl ?_ | refine And.intro vReplL ?_ | refine And.intro ?_ ?_) <;> try (conv => whnf))
    all_goals rw [tP_zero]
    all_goals (rw [L_zero, show (d + 1).toNat = n by omega])
  intro i hi
  conv => whnf
  repeat' first | ((first | refine And.intro (Or.inl rfl) ?_ | (refine And.intro (fun h => ?_) (fun h => ?_) <;> (try simp only [cnt1, ints_length] at h)) | refine And.intro (show slotsOk _ = true by decide +kernel) ?_ | refine And.intro vOb ?_ | (apply Exists.intro; refine And.intro vObx ?_) | refine Or.inl ?_) <;> conv => whnf) | fail
  · refine loop_at Tryz.tabOk mixOrd (α := Nat) (fun j => [(11, dint j)]) (fun j => [(0, some ⟨false, 1, ints (L n (tQ a b i j))⟩)]) (fun j => j ≤ n - i) (fun j => n - j) (0) ?_ ?_ ?_
    · omega
    · conv => whnf
      first | refine WeakS.auto ?_ | refine Weak.auto ?_
      conv => whnf
      repeat' ((first | exact trivial | refine And.intro rfl ?_ | refine And.intro (eqV_int vAr) ?_ | refine And.intro vOb ?_ | refine And.intro vRepl ?_ | refine And.intro vReplL ?_ | refine And.intro ?_ ?_) <;> try (conv => whnf))
      all_goals rw [tQ_zero]
    intro j hj
    conv => whnf
    have hmul := Zm.val_range hm.pos (a.c i * b.c j)
    have hmul2 := hm.mul (a.c i) (b.c j)
    have hq := Zm.val_range hm.pos ((tQ a b i j).c (i + j))
    repeat' first | ((first | refine And.intro (Or.inl rfl) ?_ | (refine And.intro (fun h => ?_) (fun h => ?_) <;> (try simp only [cnt1, ints_length] at h)) | refine And.intro (show slotsOk _ = true by decide +kernel) ?_ | refine And.intro vOb ?_ | (apply Exists.intro; refine And.intro vObx ?_) | refine Or.inl ?_) <;> conv => whnf) | fail
    · refine Exists.intro (j + 1) (And.intro (by omega) (And.intro (by omega) ?_))
      first | refine WeakS.auto ?_ | refine Weak.auto ?_
      conv => whnf
      repeat' ((first | exact trivial | refine And.intro rfl ?_ | refine And.intro (eqV_int vAr) ?_ | refine And.intro vOb ?_ | refine And.intro vRepl ?_ | refine And.intro vReplL ?_ | refine And.intro ?_ ?_) <;> try (conv => whnf))
      exact ints_congr' (L_set_eq _ (tm_mulA hm _ _ _) (Ag.of_eq (tQ_step a b i j).symm))
    all_goals
      refine Exists.intro (i + 1) (And.intro (by simp at *; omega) (And.intro (by simp at *; omega) ?_))
      first | refine WeakS.auto ?_ | refine Weak.auto ?_
      conv => whnf
      repeat' ((first | exact trivial | refine And.intro rfl ?_ | refine And.intro (eqV_int vAr) ?_ | refine And.intro vOb ?_ | refine And.intro vRepl ?_ | refine And.intro vReplL ?_ | refine And.intro ?_ ?_) <;> try (conv => whnf))
    · exact ints_congr' (L_congr (Ag.of_eq (tQ_row a b i j (Zm.val_eq_zero.1 (Classical.not_not.1 (by assumption))))))
    · exact ints_congr' (L_congr (tQ_full a b (by omega)))
    · exact ints_congr' (L_congr (tQ_full a b (by simp at *; omega)))
  all_goals exact lD_congr (L_congr (tP_full a b (by simp at *; omega)))
end Go.Proofs

