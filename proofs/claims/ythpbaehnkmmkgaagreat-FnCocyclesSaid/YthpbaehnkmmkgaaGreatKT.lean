/- Planes of the reference: turned planes, both variables replaced, coordinates. -/
import Derived.Test.YthpbaehnkmmkgaaGreatK22
import Derived.Test.YthpbaehnkmmkgaaGreatK32
import Derived.Test.YthpbaehnkmmkgaaGreatKN
import Derived.Test.YthpbaehnkmmkgaaGreatK1
import Derived.Test.YthpbaehnkmmkgaaGreatVm32

-- tables
-- rec
namespace Go.Proofs
open Go Go.Vm Go.Fg Go.Fg.PS
set_option maxRecDepth 100000
set_option maxHeartbeats 4000000
set_option linter.unusedSimpArgs false
set_option linter.unusedVariables false
variable {m : Int}
theorem vPwLL {n k q l' i l : Nat} {a : PS (Zm m)} (e : q = i) (e2 : l' = l) (h : i < k) (h2 : l < n) : LoadRow (rows true (pwr n a k)) ([] ++ [q]) l' (dint ((pw a i).c l).val) := by
  subst e; subst e2
  refine ⟨ints (L n (pw a q)), ?_, ?_⟩
  · rw [List.nil_append, getB_rows (by simpa using h), pwr_getD h]
  · simp [ints, L, h2]
theorem c_l03Both (hm : Md m) (o p o1 o2 : Bool) (n : Nat) (hn : 2 ≤ n ∧ n ≤ 100) (f : PS (PS (Zm m))) (a b : PS (Zm m)) : PureCall Tryz.prog 484 [dint m, TbD o p n f, LD o1 n a, LD o2 n b] (TbD true true n (bI f a b n n)) := by
  have hm1 := hm.1
  have hm2 := hm.2
  refine pure_of_vcR Tryz.tabOk mixOrd Tryz.func484 rfl rfl ?_
  conv => whnf
  repeat' first | ((first | refine z0 ?_ | (apply zI; refine zP (c_l03Zero (m := m) n vAr vAr) ?_) | (apply zI; refine zP (c_l03Powers hm _ n vAr _) ?_) | (refine And.intro (fun h => ?_) (fun h => ?_) <;> (try simp only [cnt1, ints_length] at h)) | refine zS ?_ | refine zV ?_ | (apply zI; refine zP vObt ?_) | (apply zI; refine zP vObx ?_) | refine zA ?_ | refine Alt.fst ?_ | refine Or.inl ?_) <;> conv => whnf) | fail
  refine loop_atR Tryz.tabOk mixOrd (α := Nat) (fun i => [(13, dint i), (16, .undef)]) (fun i => [(2, some ⟨false, 1, rows true (Tb n (bI f a b n i))⟩)]) (fun i => i ≤ n) (fun i => n - i) (0) ?_ ?_ ?_
  · omega
  · conv => whnf
    first | refine WeakS.autoR ?_ | refine Weak.autoR ?_
    conv => whnf
    repeat' ((first | refine z1 ?_ | refine z2 ?_ | refine zV ?_ | refine And.intro vRepl ?_ | refine And.intro vReplL ?_ | refine And.intro ?_ ?_ | exact trivial) <;> try (conv => whnf))
  intro i hi
  conv => whnf
  repeat' first | ((first | refine z0 ?_ | (refine And.intro (fun h => ?_) (fun h => ?_) <;> (try simp only [cnt1, ints_length] at h)) | refine zS ?_ | refine zV ?_ | (apply zI; refine zP vObt ?_) | (apply zI; refine zP vObx ?_) | refine zA ?_ | refine Alt.fst ?_ | refine Or.inl ?_) <;> conv => whnf) | fail
  · have hin : i < n := vAr
    refine loop_atR Tryz.tabOk mixOrd (α := Nat) (fun j => [(14, dint j), (16, .undef)]) (fun j => [(2, some ⟨false, 1, rows true (Tb n (bJ f a b n (bI f a b n i) i j))⟩)]) (fun j => j ≤ n - i) (fun j => n - j) (0) ?_ ?_ ?_
    · omega
    · conv => whnf
      first | refine WeakS.autoR ?_ | refine Weak.autoR ?_
      conv => whnf
      repeat' ((first | refine z1 ?_ | refine z2 ?_ | refine zV ?_ | refine And.intro vRepl ?_ | refine And.intro vReplL ?_ | refine And.intro ?_ ?_ | exact trivial) <;> try (conv => whnf))
      all_goals rfl
    intro j hj
    conv => whnf
    repeat' first | ((first | refine z0 ?_ | (refine And.intro (fun h => ?_) (fun h => ?_) <;> (try simp only [cnt1, ints_length] at h)) | refine zS ?_ | refine zV ?_ | (apply zI; refine zP vObt ?_) | (apply zI; refine zP vObx ?_) | refine zA ?_ | refine Alt.fst ?_ | refine Or.inl ?_) <;> conv => whnf) | fail
    · have hjn : i + j < n := vAr
      refine loop_atR Tryz.tabOk mixOrd (α := Nat) (fun t => [(15, dint ((i : Int) + t)), (16, .undef)]) (fun t => [(2, some ⟨false, 1, rows true (Tb n (bK f a b n (bJ f a b n (bI f a b n i) i j) i j t))⟩)]) (fun t => t ≤ n - i ∧ ((f.c i).c j = 0 → t = 0)) (fun t => n - t) (0) ?_ ?_ ?_
      · exact ⟨by omega, fun _ => rfl⟩
      · conv => whnf
        first | refine WeakS.autoR ?_ | refine Weak.autoR ?_
        conv => whnf
        repeat' ((first | refine z1 ?_ | refine z2 ?_ | refine zV ?_ | refine And.intro vRepl ?_ | refine And.intro vReplL ?_ | refine And.intro ?_ ?_ | exact trivial) <;> try (conv => whnf))
        all_goals first | rfl | omega
      intro t ht
      obtain ⟨ht, ht0⟩ := ht
      conv => whnf
      repeat' first | ((first | refine z0 ?_ | (refine And.intro (fun h => ?_) (fun h => ?_) <;> (try simp only [cnt1, ints_length] at h)) | refine zS ?_ | refine zV ?_ | (apply zI; refine zP vObt ?_) | (apply zI; refine zP vObx ?_) | refine zA ?_ | refine Alt.fst ?_ | refine Or.inl ?_) <;> conv => whnf) | fail
      · have hkn : i + t < n := vAr
        have hne : (f.c i).c j ≠ 0 := fun e => absurd (Zm.val_eq_zero.2 e) (by assumption)
        refine loop_atR Tryz.tabOk mixOrd (α := Nat) (fun s => [(17, dint ((j : Int) + s))]) (fun s => [(2, some ⟨false, 1, rows true (Tb n (bL f a b (bK f a b n (bJ f a b n (bI f a b n i) i j) i j t) i j (i + t) s))⟩)]) (fun s => s ≤ n - (i + t) - j) (fun s => n - s) (0) ?_ ?_ ?_
        · omega
        · conv => whnf
          first | refine WeakS.autoR ?_ | refine Weak.autoR ?_
          conv => whnf
          repeat' ((first | refine z1 ?_ | refine z2 ?_ | refine zV ?_ | refine And.intro vRepl ?_ | refine And.intro vReplL ?_ | refine And.intro ?_ ?_ | exact trivial) <;> try (conv => whnf))
          all_goals first | rfl | omega
        intro s hs
        conv => whnf
        have hx1 := Zm.val_range hm.pos (((bL f a b (bK f a b n (bJ f a b n (bI f a b n i) i j) i j t) i j (i + t) s).c (i + t)).c (j + s))
        have hx2 := hm.mul ((f.c i).c j) ((pw a i).c (i + t))
        have hx3 := hm.mul ((f.c i).c j * (pw a i).c (i + t)) ((pw b j).c (j + s))
        repeat' first | ((first | refine z0 ?_ | (apply zI; refine zP (vPwL i vIx vAr) ?_) | (apply zI; refine zP (vPwL j vIx vAr) ?_) | (apply zI; refine zP (vPwLL (i := i) (l := i + t) vIx vIx vAr vAr) ?_) | (apply zI; refine zP (vPwLL (i := j) (l := j + s) vIx vIx vAr vAr) ?_) | (refine And.intro (fun h => ?_) (fun h => ?_) <;> (try simp only [cnt1, ints_length] at h)) | refine zS ?_ | refine zV ?_ | (apply zI; refine zP vObt ?_) | (apply zI; refine zP vObx ?_) | refine zA ?_ | refine And.intro (vPwIx vAr) ?_ | refine Alt.fst ?_ | refine Or.inl ?_) <;> conv => whnf) | fail
        · rw [tm_mul hm]
          repeat' first | ((first | refine z0 ?_ | (apply zI; refine zP (vPwL i vIx vAr) ?_) | (apply zI; refine zP (vPwL j vIx vAr) ?_) | (apply zI; refine zP (vPwLL (i := i) (l := i + t) vIx vIx vAr vAr) ?_) | (apply zI; refine zP (vPwLL (i := j) (l := j + s) vIx vIx vAr vAr) ?_) | (refine And.intro (fun h => ?_) (fun h => ?_) <;> (try simp only [cnt1, ints_length] at h)) | refine zS ?_ | refine zV ?_ | (apply zI; refine zP vObt ?_) | (apply zI; refine zP vObx ?_) | refine zA ?_ | refine And.intro (vPwIx vAr) ?_ | refine Alt.fst ?_ | refine Or.inl ?_) <;> conv => whnf) | fail
          refine Exists.intro (s + 1) (And.intro vAr (And.intro vAr ?_))
          first | refine WeakS.autoR ?_ | refine Weak.autoR ?_
          conv => whnf
          repeat' ((first | refine z1 ?_ | refine z2 ?_ | refine zV ?_ | refine And.intro vRepl ?_ | refine And.intro vReplL ?_ | refine And.intro ?_ ?_ | exact trivial) <;> try (conv => whnf))
          all_goals first
            | exact rows_congr (setT_eq _ (tm_mulA hm _ _ _) vAr (Ag2.of_eq rfl))
            | omega
        · refine Exists.intro (t + 1) (And.intro ⟨vAr, fun e => absurd e hne⟩ (And.intro vAr ?_))
          first | refine WeakS.autoR ?_ | refine Weak.autoR ?_
          conv => whnf
          repeat' ((first | refine z1 ?_ | refine z2 ?_ | refine zV ?_ | refine And.intro vRepl ?_ | refine And.intro vReplL ?_ | refine And.intro ?_ ?_ | exact trivial) <;> try (conv => whnf))
          all_goals first
            | (rw [show s = n - (i + t) - j from vAr]; rfl)
            | omega
      · have he : (f.c i).c j = 0 := Zm.val_eq_zero.1 (Classical.not_not.1 (by assumption))
        refine Exists.intro (j + 1) (And.intro vAr (And.intro vAr ?_))
        first | refine WeakS.autoR ?_ | refine Weak.autoR ?_
        conv => whnf
        repeat' ((first | refine z1 ?_ | refine z2 ?_ | refine zV ?_ | refine And.intro vRepl ?_ | refine And.intro vReplL ?_ | refine And.intro ?_ ?_ | exact trivial) <;> try (conv => whnf))
        have h0 := ht0 he
        subst h0
        show rows true (Tb n (bJ f a b n (bI f a b n i) i j)) = rows true (Tb n (bJ f a b n (bI f a b n i) i (j + 1)))
        rw [show bJ f a b n (bI f a b n i) i (j + 1) = bJ f a b n (bI f a b n i) i j from if_pos he]
      · have htn : t = n - i := vAr
        have he : ¬ (f.c i).c j = 0 := fun e => by have := ht0 e; omega
        refine Exists.intro (j + 1) (And.intro vAr (And.intro vAr ?_))
        first | refine WeakS.autoR ?_ | refine Weak.autoR ?_
        conv => whnf
        repeat' ((first | refine z1 ?_ | refine z2 ?_ | refine zV ?_ | refine And.intro vRepl ?_ | refine And.intro vReplL ?_ | refine And.intro ?_ ?_ | exact trivial) <;> try (conv => whnf))
        subst htn
        rw [show bJ f a b n (bI f a b n i) i (j + 1) = bK f a b n (bJ f a b n (bI f a b n i) i j) i j (n - i) from if_neg he]
    · have hjn : j = n - i := vAr
      subst hjn
      refine Exists.intro (i + 1) (And.intro vAr (And.intro vAr ?_))
      first | refine WeakS.autoR ?_ | refine Weak.autoR ?_
      conv => whnf
      repeat' ((first | refine z1 ?_ | refine z2 ?_ | refine zV ?_ | refine And.intro vRepl ?_ | refine And.intro vReplL ?_ | refine And.intro ?_ ?_ | exact trivial) <;> try (conv => whnf))
      all_goals rfl
  · rw [show i = n from vAr]
end Go.Proofs



namespace Go.Proofs
open Go Go.Vm Go.Fg
set_option maxRecDepth 100000
set_option maxHeartbeats 4000000
set_option linter.unusedSimpArgs false
set_option linter.unusedVariables false

end Go.Proofs



-- tables
namespace Go.Proofs
open Go Go.Vm Go.Fg
set_option maxRecDepth 100000
set_option maxHeartbeats 4000000
set_option linter.unusedSimpArgs false
set_option linter.unusedVariables false

def lensOk (t : List (List Int)) : Prop := ∀ i, i < t.length → (t.getD i []).length ≤ 1048576
theorem eqT_of {t t' : List (List Int)} (h : t.length = t'.length) (h2 : ∀ j, j < t.length → t.getD j [] = t'.getD j []) : t = t' := by
  refine List.ext_getElem h (fun j k1 k2 => ?_)
  have := h2 j k1
  simpa [k1, k2] using this
theorem lensOk_Tb {m : Int} {n : Nat} (hn : n ≤ 1000) (f : PS (PS (Zm m))) : lensOk (Tb n f) := fun i hi => by
  have hi' : i < n := by simpa using hi
  rw [Tb_getD f hi']; simp; omega
end Go.Proofs


