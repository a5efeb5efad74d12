/- Curves put into planes. -/
-- tables
-- rec
import Derived.Test.YtbaojihanfkofaaGreatK10
import Derived.Test.YtbaojihanfkofaaGreatVm32
namespace Go.Proofs
open Go Go.Vm Go.Fg Go.Fg.PS
set_option maxRecDepth 100000
set_option maxHeartbeats 4000000
set_option linter.unusedSimpArgs false
set_option linter.unusedVariables false
variable {m : Int}
def srs (n : Nat) (a : PS (Zm m)) : Nat → List D
  | 0 => []
  | k + 1 => srs n a k ++ [dint m, .list true 1 (ints (L n (pw a k)))]
@[simp] theorem srs_length (n : Nat) (a : PS (Zm m)) (k : Nat) : (srs n a k).length = 2 * k := by
  induction k with
  | zero => rfl
  | succ k ih => simp only [srs, List.length_append, ih, List.length_cons, List.length_nil]; omega
theorem c_l02Add (hm : Md m) (o o' : Bool) (n : Nat) (hn : n ≤ 100) (a b : PS (Zm m)) : PureCall Tryz.prog 84 [dint m, LD o n a, LD o' n b] (LD true n (a + b)) := by
  have hm1 := hm.1
  have hm2 := hm.2
  refine pure_of_vcR Tryz.tabOk mixOrd Tryz.func84 rfl rfl ?_
  conv => whnf
  repeat' first | ((first | refine And.intro (Or.inl rfl) ?_ | (refine And.intro (fun h => ?_) (fun h => ?_) <;> (try simp only [cnt1, ints_length] at h)) | refine And.intro (show slotsOk _ = true by decide +kernel) ?_ | refine And.intro vOb ?_ | (apply Exists.intro; refine And.intro vObt ?_) | (apply Exists.intro; refine And.intro vObx ?_) | refine And.intro vArT ?_ | refine Or.inl ?_) <;> conv => whnf) | fail
  refine loop_atR Tryz.tabOk mixOrd (α := Nat) (fun i => [(8, dint i), (7, .ref 0 [] 1 0 i), (9, .undef)]) (fun i => [(0, some ⟨false, 1, ints (L i (a + b))⟩)]) (fun i => i ≤ n) (fun i => n - i) (0) ?_ ?_ ?_
  · omega
  · conv => whnf
    first | refine WeakS.autoR ?_ | refine Weak.autoR ?_
    conv => whnf
    repeat' ((first | exact trivial | refine And.intro rfl ?_ | refine And.intro (eqV_int vAr) ?_ | refine And.intro vOb ?_ | refine And.intro vRepl ?_ | refine And.intro vReplL ?_ | refine And.intro ?_ ?_) <;> try (conv => whnf))
  intro i hi
  conv => whnf
  have h1 := Zm.val_range hm.pos (a.c i)
  have h2 := Zm.val_range hm.pos (b.c i)
  repeat' first | ((first | refine And.intro (Or.inl rfl) ?_ | (refine And.intro (fun h => ?_) (fun h => ?_) <;> (try simp only [cnt1, ints_length] at h)) | refine And.intro (show slotsOk _ = true by decide +kernel) ?_ | refine And.intro vOb ?_ | (apply Exists.intro; refine And.intro vObt ?_) | (apply Exists.intro; refine And.intro vObx ?_) | refine And.intro vArT ?_ | refine Or.inl ?_) <;> conv => whnf) | fail
  · refine Exists.intro (i + 1) (And.intro vAr (And.intro vAr ?_))
    first | refine WeakS.autoR ?_ | refine Weak.autoR ?_
    conv => whnf
    repeat' ((first | exact trivial | refine And.intro rfl ?_ | refine And.intro (eqV_int vAr) ?_ | refine And.intro vOb ?_ | refine And.intro vRepl ?_ | refine And.intro vReplL ?_ | refine And.intro ?_ ?_) <;> try (conv => whnf))
    exact ints_congr' (L_push (tm_add hm _ _))
  · rw [show i = n by simp only [L_length] at *; omega]
theorem c_l02Scale (hm : Md m) (o : Bool) (n : Nat) (hn : n ≤ 100) (z : Zm m) (a : PS (Zm m)) : PureCall Tryz.prog 85 [dint m, dint z.val, LD o n a] (LD true n (PS.C z * a)) := by
  have hm1 := hm.1
  have hm2 := hm.2
  refine pure_of_vcR Tryz.tabOk mixOrd Tryz.func85 rfl rfl ?_
  conv => whnf
  repeat' first | ((first | refine And.intro (Or.inl rfl) ?_ | (refine And.intro (fun h => ?_) (fun h => ?_) <;> (try simp only [cnt1, ints_length] at h)) | refine And.intro (show slotsOk _ = true by decide +kernel) ?_ | refine And.intro vOb ?_ | (apply Exists.intro; refine And.intro vObt ?_) | (apply Exists.intro; refine And.intro vObx ?_) | refine And.intro vArT ?_ | refine Or.inl ?_) <;> conv => whnf) | fail
  refine loop_atR Tryz.tabOk mixOrd (α := Nat) (fun i => [(8, dint i), (7, .ref 0 [] 1 0 i), (9, .undef)]) (fun i => [(0, some ⟨false, 1, ints (L i (PS.C z * a))⟩)]) (fun i => i ≤ n) (fun i => n - i) (0) ?_ ?_ ?_
  · omega
  · conv => whnf
    first | refine WeakS.autoR ?_ | refine Weak.autoR ?_
    conv => whnf
    repeat' ((first | exact trivial | refine And.intro rfl ?_ | refine And.intro (eqV_int vAr) ?_ | refine And.intro vOb ?_ | refine And.intro vRepl ?_ | refine And.intro vReplL ?_ | refine And.intro ?_ ?_) <;> try (conv => whnf))
  intro i hi
  conv => whnf
  have h1 := hm.mul z (a.c i)
  repeat' first | ((first | refine And.intro (Or.inl rfl) ?_ | (refine And.intro (fun h => ?_) (fun h => ?_) <;> (try simp only [cnt1, ints_length] at h)) | refine And.intro (show slotsOk _ = true by decide +kernel) ?_ | refine And.intro vOb ?_ | (apply Exists.intro; refine And.intro vObt ?_) | (apply Exists.intro; refine And.intro vObx ?_) | refine And.intro vArT ?_ | refine Or.inl ?_) <;> conv => whnf) | fail
  · refine Exists.intro (i + 1) (And.intro vAr (And.intro vAr ?_))
    first | refine WeakS.autoR ?_ | refine Weak.autoR ?_
    conv => whnf
    repeat' ((first | exact trivial | refine And.intro rfl ?_ | refine And.intro (eqV_int vAr) ?_ | refine And.intro vOb ?_ | refine And.intro vRepl ?_ | refine And.intro vReplL ?_ | refine And.intro ?_ ?_) <;> try (conv => whnf))
    exact ints_congr' (L_push (by rw [tm_mul hm, PS.C_mul]))
  · rw [show i = n by simp only [L_length] at *; omega]
def pwr (n : Nat) (a : PS (Zm m)) (k : Nat) : List (List Int) := (List.range k).map fun i => L n (pw a i)
@[simp] theorem pwr_length (n : Nat) (a : PS (Zm m)) (k : Nat) : (pwr n a k).length = k := by simp [pwr]
end Go.Proofs

