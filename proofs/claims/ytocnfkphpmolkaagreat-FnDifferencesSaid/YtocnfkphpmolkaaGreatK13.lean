/- Planes: sums, substitutions; binomial numbers. -/
-- tables
import Derived.Test.YtocnfkphpmolkaaGreatK10
import Derived.Test.YtocnfkphpmolkaaGreatKN
import Derived.Test.YtocnfkphpmolkaaGreatAlg7
namespace Go.Proofs
open Go Go.Vm Go.Fg Go.Fg.PS
set_option maxRecDepth 100000
set_option maxHeartbeats 4000000
set_option linter.unusedSimpArgs false
set_option linter.unusedVariables false
variable {m : Int}
theorem c_mapped1 (hm : Md m) (g : Nat) (ds1 : List D) (n : Nat) (hn : 1 ≤ n ∧ n ≤ 100) (v : Nat → Nat → Int) (hg : ∀ i j : Nat, i + j < n → PureCall Tryz.prog g ([dint i, dint j] ++ [.cptr ds1 0]) (dint (v i j))) (o p : Bool) (f : PS (PS (Zm m))) :
    PureCall Tryz.prog 173 [PlD m o p n f, .fn (.func g) [] [.cptr ds1 0]] (PlD m true true n (pl fun i j => Zm.mk m (v i j))) := by
  have hm1 := hm.1
  have hm2 := hm.2
  refine pure_of_vc Tryz.tabOk mixOrd Tryz.func173 rfl rfl ?_
  conv => whnf
  repeat' first | ((first | refine And.intro (Or.inl rfl) ?_ | (apply Exists.intro; refine And.intro (c_degreeP _ _ _ vAr _) ?_) | (apply Exists.intro; refine And.intro (c_emptyPlane n vAr vAr) ?_) | (refine And.intro (fun h => ?_) (fun h => ?_) <;> (try simp only [cnt1, ints_length] at h)) | refine And.intro (show slotsOk _ = true by decide +kernel) ?_ | refine And.intro vOb ?_ | (apply Exists.intro; refine And.intro vObt ?_) | (apply Exists.intro; refine And.intro vObx ?_) | refine And.intro vArT ?_ | refine Alt.fst ?_ | refine Or.inl ?_) <;> conv => whnf) | fail
  refine loop_at Tryz.tabOk mixOrd (α := Nat) (fun i => [(17, dint i)]) (fun i => [(4, some ⟨false, 1, rows true (Tb n (mixP (pl fun i j => Zm.mk m (v i j)) 0 i 0))⟩)]) (fun i => i ≤ n) (fun i => n - i) (0) ?_ ?_ ?_
  · omega
  · conv => whnf
    first | refine WeakS.auto ?_ | refine Weak.auto ?_
    conv => whnf
    repeat' ((first | refine And.intro rfl ?_ | refine And.intro (eqV_int vAr) ?_ | refine And.intro vOb ?_ | refine And.intro vRepl ?_ | refine And.intro vReplL ?_ | refine And.intro ?_ ?_ | exact trivial) <;> try (conv => whnf))
    all_goals rw [mixP_zero]
  intro i hi
  conv => whnf
  repeat' first | ((first | refine And.intro (Or.inl rfl) ?_ | (refine And.intro (fun h => ?_) (fun h => ?_) <;> (try simp only [cnt1, ints_length] at h)) | refine And.intro (show slotsOk _ = true by decide +kernel) ?_ | refine And.intro vOb ?_ | (apply Exists.intro; refine And.intro vObt ?_) | (apply Exists.intro; refine And.intro vObx ?_) | refine And.intro vArT ?_ | refine Alt.fst ?_ | refine Or.inl ?_) <;> conv => whnf) | fail
  · refine loop_at Tryz.tabOk mixOrd (α := Nat) (fun j => [(24, dint j)]) (fun j => [(4, some ⟨false, 1, rows true (Tb n (mixP (pl fun i j => Zm.mk m (v i j)) 0 i j))⟩)]) (fun j => j ≤ n - i) (fun j => n - j) (0) ?_ ?_ ?_
    · omega
    · conv => whnf
      first | refine WeakS.auto ?_ | refine Weak.auto ?_
      conv => whnf
      repeat' ((first | refine And.intro rfl ?_ | refine And.intro (eqV_int vAr) ?_ | refine And.intro vOb ?_ | refine And.intro vRepl ?_ | refine And.intro vReplL ?_ | refine And.intro ?_ ?_ | exact trivial) <;> try (conv => whnf))
    intro j hj
    conv => whnf
    repeat' first | ((first | refine And.intro (Or.inl rfl) ?_ | (apply Exists.intro; refine And.intro (c_mod _ _ hm.pos (by omega)) ?_) | (apply Exists.intro; refine And.intro (hg i j vAr) ?_) | (refine And.intro (fun h => ?_) (fun h => ?_) <;> (try simp only [cnt1, ints_length] at h)) | refine And.intro (show slotsOk _ = true by decide +kernel) ?_ | refine And.intro vOb ?_ | (apply Exists.intro; refine And.intro vObt ?_) | (apply Exists.intro; refine And.intro vObx ?_) | refine And.intro vArT ?_ | refine Alt.fst ?_ | refine Or.inl ?_) <;> conv => whnf) | fail
    · refine Exists.intro (j + 1) (And.intro vAr (And.intro vAr ?_))
      first | refine WeakS.auto ?_ | refine Weak.auto ?_
      conv => whnf
      repeat' ((first | refine And.intro rfl ?_ | refine And.intro (eqV_int vAr) ?_ | refine And.intro vOb ?_ | refine And.intro vRepl ?_ | refine And.intro vReplL ?_ | refine And.intro ?_ ?_ | exact trivial) <;> try (conv => whnf))
      exact rows_congr (setT_eq (Zm.mk m (v i j)) rfl vAr (Ag2.of_eq (mixP_step _ _ i j).symm))
    · refine Exists.intro (i + 1) (And.intro vAr (And.intro vAr ?_))
      first | refine WeakS.auto ?_ | refine Weak.auto ?_
      conv => whnf
      repeat' ((first | refine And.intro rfl ?_ | refine And.intro (eqV_int vAr) ?_ | refine And.intro vOb ?_ | refine And.intro vRepl ?_ | refine And.intro vReplL ?_ | refine And.intro ?_ ?_ | exact trivial) <;> try (conv => whnf))
      exact rows_congr (Tb_congr (mixP_row _ _ vAr))
  · exact plD_congr (Tb_congr (mixP_full _ _ vAr))
theorem vPasc {n k q : Nat} (i : Nat) (e : q = i) (h : i < k) : LoadRow (ints (pasc n k)) [] q (dint (bin n i : Nat)) := by
  subst e; rw [← pasc_getD h]; exact load_ints (by simpa using h)
end Go.Proofs

