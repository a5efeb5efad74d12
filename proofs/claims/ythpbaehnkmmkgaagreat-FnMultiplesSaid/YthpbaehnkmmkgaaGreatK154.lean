/- Helpers: tables row by row, laws to a degree. -/
import Derived.Test.YthpbaehnkmmkgaaGreatK27
import Derived.Test.YthpbaehnkmmkgaaGreatAlg11
import Derived.Test.YthpbaehnkmmkgaaGreatVm32
import Derived.Test.YthpbaehnkmmkgaaGreatK32

-- tables
-- rec
namespace Go.Proofs
open Go Go.Vm Go.Fg Go.Fg.PS
set_option maxRecDepth 100000
set_option maxHeartbeats 4000000
set_option linter.unusedSimpArgs false
set_option linter.unusedVariables false
variable {m : Int}
theorem one_lst (o : Bool) (sz : Nat) (cs : List D) : ∀ d ∈ [D.list o sz cs], d.one = true := fun d hd => by
  rw [List.mem_singleton.1 hd]; rfl
theorem Tb_take_push (f : PS (PS (Zm m))) {n i : Nat} {l : List Int} (h : i < n) (e : l = L (n - i) (f.c i)) : (Tb n f).take i ++ [l] = (Tb n f).take (i + 1) := by
  subst e
  rw [List.take_add_one, ← Tb_getD f h, List.getD_eq_getElem?_getD, List.getElem?_eq_getElem (by simpa using h)]; rfl
end Go.Proofs



-- tables
-- rec
namespace Go.Proofs
open Go Go.Vm Go.Fg Go.Fg.PS
set_option maxRecDepth 100000
set_option maxHeartbeats 4000000
set_option linter.unusedSimpArgs false
set_option linter.unusedVariables false
variable {m : Int}
theorem c_l03Add (hm : Md m) (o p o' p' : Bool) (n : Nat) (hn : 1 ≤ n ∧ n ≤ 100) (f g : PS (PS (Zm m))) : PureCall Tryz.prog 299 [dint m, TbD o p n f, TbD o' p' n g] (TbD true true n (f + g)) := by
  have hT : ∀ i, i < n → (Tb n (f + g)).take i ++ [L (n - i) (f.c i + g.c i)] = (Tb n (f + g)).take (i + 1) := fun i hi => Tb_take_push _ hi rfl
  refine pure_of_vcR Tryz.tabOk mixOrd Tryz.func299 rfl rfl ?_
  conv => whnf
  repeat' first | ((first | refine z0 ?_ | (refine And.intro (fun h => ?_) (fun h => ?_) <;> (try simp only [cnt1, ints_length] at h)) | refine zS ?_ | refine zV ?_ | (apply zI; refine zP vObt ?_) | (apply zI; refine zP vObx ?_) | refine zA ?_ | refine Alt.fst ?_ | refine Or.inl ?_) <;> conv => whnf) | fail
  refine loop_atR Tryz.tabOk mixOrd (α := Nat) (fun i => [(8, dint i), (7, .ref 0 [] 1 0 i), (9, .undef), (16, .undef)]) (fun i => [(0, some ⟨false, 1, rows true ((Tb n (f + g)).take i)⟩)]) (fun i => i ≤ n) (fun i => n - i) (0) ?_ ?_ ?_
  · omega
  · conv => whnf
    first | refine WeakS.autoR ?_ | refine Weak.autoR ?_
    conv => whnf
    repeat' ((first | refine z1 ?_ | refine z2 ?_ | refine zV ?_ | refine And.intro vRepl ?_ | refine And.intro vReplL ?_ | refine And.intro ?_ ?_ | exact trivial) <;> try (conv => whnf))
  intro i hi
  conv => whnf
  repeat' first | ((first | refine z0 ?_ | (apply zI; refine zP (c_l02Add hm _ _ (n - i) (by omega) (f.c i) (g.c i)) ?_) | (refine And.intro (fun h => ?_) (fun h => ?_) <;> (try simp only [cnt1, ints_length] at h)) | refine zS ?_ | refine zV ?_ | (apply zI; refine zP vObt ?_) | (apply zI; refine zP vObx ?_) | refine zA ?_ | (refine And.intro ((by simp; omega)) ?_) | refine And.intro (one_lst _ _ _) ?_ | refine And.intro (rows_plain _) ?_ | refine Alt.fst ?_ | refine Or.inl ?_) <;> conv => whnf) | fail
  · refine Exists.intro (i + 1) (And.intro vAr (And.intro vAr ?_))
    first | refine WeakS.autoR ?_ | refine Weak.autoR ?_
    conv => whnf
    repeat' ((first | refine z1 ?_ | refine z2 ?_ | refine zV ?_ | refine And.intro vRepl ?_ | refine And.intro vReplL ?_ | refine And.intro ?_ ?_ | exact trivial) <;> try (conv => whnf))
    exact rows_congr (hT i vAr)
  · have e : i = n := vAr
    subst e
    exact congrArg (D.list true 1) (rows_congr (List.take_of_length_le (by simp)))
theorem c_l03Scale (hm : Md m) (o p : Bool) (n : Nat) (hn : 1 ≤ n ∧ n ≤ 100) (z : Zm m) {Z : Int} (hZ : Z = z.val) (f : PS (PS (Zm m))) : PureCall Tryz.prog 300 [dint m, dint Z, TbD o p n f] (TbD true true n (PS.C (PS.C z) * f)) := by
  subst hZ
  have hT : ∀ i, i < n → (Tb n (PS.C (PS.C z) * f)).take i ++ [L (n - i) (PS.C z * f.c i)] = (Tb n (PS.C (PS.C z) * f)).take (i + 1) := fun i hi => Tb_take_push _ hi (by rw [C_mul])
  refine pure_of_vcR Tryz.tabOk mixOrd Tryz.func300 rfl rfl ?_
  conv => whnf
  repeat' first | ((first | refine z0 ?_ | (refine And.intro (fun h => ?_) (fun h => ?_) <;> (try simp only [cnt1, ints_length] at h)) | refine zS ?_ | refine zV ?_ | (apply zI; refine zP vObt ?_) | (apply zI; refine zP vObx ?_) | refine zA ?_ | refine Alt.fst ?_ | refine Or.inl ?_) <;> conv => whnf) | fail
  refine loop_atR Tryz.tabOk mixOrd (α := Nat) (fun i => [(8, dint i), (7, .ref 0 [] 1 0 i), (9, .undef), (16, .undef)]) (fun i => [(0, some ⟨false, 1, rows true ((Tb n (PS.C (PS.C z) * f)).take i)⟩)]) (fun i => i ≤ n) (fun i => n - i) (0) ?_ ?_ ?_
  · omega
  · conv => whnf
    first | refine WeakS.autoR ?_ | refine Weak.autoR ?_
    conv => whnf
    repeat' ((first | refine z1 ?_ | refine z2 ?_ | refine zV ?_ | refine And.intro vRepl ?_ | refine And.intro vReplL ?_ | refine And.intro ?_ ?_ | exact trivial) <;> try (conv => whnf))
  intro i hi
  conv => whnf
  repeat' first | ((first | refine z0 ?_ | (apply zI; refine zP (c_l02Scale hm _ (n - i) (by omega) z (f.c i)) ?_) | (refine And.intro (fun h => ?_) (fun h => ?_) <;> (try simp only [cnt1, ints_length] at h)) | refine zS ?_ | refine zV ?_ | (apply zI; refine zP vObt ?_) | (apply zI; refine zP vObx ?_) | refine zA ?_ | (refine And.intro ((by simp; omega)) ?_) | refine And.intro (one_lst _ _ _) ?_ | refine And.intro (rows_plain _) ?_ | refine Alt.fst ?_ | refine Or.inl ?_) <;> conv => whnf) | fail
  · refine Exists.intro (i + 1) (And.intro vAr (And.intro vAr ?_))
    first | refine WeakS.autoR ?_ | refine Weak.autoR ?_
    conv => whnf
    repeat' ((first | refine z1 ?_ | refine z2 ?_ | refine zV ?_ | refine And.intro vRepl ?_ | refine And.intro vReplL ?_ | refine And.intro ?_ ?_ | exact trivial) <;> try (conv => whnf))
    exact rows_congr (hT i vAr)
  · have e : i = n := vAr
    subst e
    exact congrArg (D.list true 1) (rows_congr (List.take_of_length_le (by simp)))
end Go.Proofs


