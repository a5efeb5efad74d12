/- Cocycles. -/
-- tables
import Derived.Test.YtbaojihanfkofaaGreatK16
import Derived.Test.YtbaojihanfkofaaGreatKP
namespace Go.Proofs
open Go Go.Vm Go.Fg Go.Fg.PS
set_option maxRecDepth 100000
set_option maxHeartbeats 4000000
set_option linter.unusedSimpArgs false
set_option linter.unusedVariables false
variable {m : Int}
def tpc (f : PS (PS (Zm m))) (n i : Nat) : Zm m := (f.c i).c (n - i)
def topS (f : PS (PS (Zm m))) (N : Nat) : PS (Zm m) := ⟨fun i => tpc f (N - 1) i⟩
theorem c_top (o p : Bool) (N : Nat) (hN : 2 ≤ N ∧ N ≤ 11) (f : PS (PS (Zm m))) : PureCall Tryz.prog 29 [PlD m o p N f] (.list true 1 (ints (L N (topS f N)))) := by
  refine pure_of_vc Tryz.tabOk mixOrd Tryz.func29 rfl rfl ?_
  conv => whnf
  repeat' first | ((first | refine And.intro (Or.inl rfl) ?_ | (apply Exists.intro; refine And.intro (c_degreeP _ _ _ vAr _) ?_) | (refine And.intro (fun h => ?_) (fun h => ?_) <;> (try simp only [cnt1, ints_length] at h)) | refine And.intro (show slotsOk _ = true by decide +kernel) ?_ | refine And.intro vOb ?_ | (apply Exists.intro; refine And.intro vObt ?_) | (apply Exists.intro; refine And.intro vObx ?_) | refine And.intro vArT ?_ | refine Or.inl ?_) <;> conv => whnf) | fail
  refine loop_at Tryz.tabOk mixOrd (α := Nat) (fun i => [(11, dint i), (3, .ref 1 [] 1 0 i), (6, .undef)]) (fun i => [(1, some ⟨false, 1, ints (L i (topS f N))⟩)]) (fun i => i ≤ N) (fun i => N - i) (0) ?_ ?_ ?_
  · omega
  · conv => whnf
    first | refine WeakS.auto ?_ | refine Weak.auto ?_
    conv => whnf
    repeat' ((first | exact trivial | refine And.intro rfl ?_ | refine And.intro (eqV_int vAr) ?_ | refine And.intro vOb ?_ | refine And.intro vRepl ?_ | refine And.intro vReplL ?_ | refine And.intro ?_ ?_) <;> try (conv => whnf))
  intro i hi
  conv => whnf
  repeat' first | ((first | refine And.intro (Or.inl rfl) ?_ | (refine And.intro (fun h => ?_) (fun h => ?_) <;> (try simp only [cnt1, ints_length] at h)) | refine And.intro (show slotsOk _ = true by decide +kernel) ?_ | refine And.intro vOb ?_ | (apply Exists.intro; refine And.intro vObt ?_) | (apply Exists.intro; refine And.intro vObx ?_) | refine And.intro vArT ?_ | refine Or.inl ?_) <;> conv => whnf) | fail
  · refine Exists.intro (i + 1) (And.intro vAr (And.intro vAr ?_))
    first | refine WeakS.auto ?_ | refine Weak.auto ?_
    conv => whnf
    repeat' ((first | exact trivial | refine And.intro rfl ?_ | refine And.intro (eqV_int vAr) ?_ | refine And.intro vOb ?_ | refine And.intro vRepl ?_ | refine And.intro vReplL ?_ | refine And.intro ?_ ?_) <;> try (conv => whnf))
    refine ints_congr (L_push ?_)
    rw [show ((N : Int) - 1 - i).toNat = N - 1 - i by omega]; rfl
  · rw [show i = N by omega]
end Go.Proofs

