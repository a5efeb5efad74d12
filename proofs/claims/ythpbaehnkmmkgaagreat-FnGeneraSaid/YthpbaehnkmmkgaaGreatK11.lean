/- Units; genera from values on projective spaces; Hirzebruch's series. -/
import Derived.Test.YthpbaehnkmmkgaaGreatKN
import Derived.Test.YthpbaehnkmmkgaaGreatK8
import Derived.Test.YthpbaehnkmmkgaaGreatK9
import Derived.Test.YthpbaehnkmmkgaaGreatAlg7
namespace Go.Proofs
open Go Go.Vm Go.Fg Go.Fg.PS
set_option maxRecDepth 100000
set_option maxHeartbeats 4000000
set_option linter.unusedSimpArgs false
set_option linter.unusedVariables false
variable {m : Int}

theorem c_integrated (hm : Md m) (o : Bool) (n : Nat) (hn : 1 ≤ n ∧ n ≤ 50) (a : PS (Zm m)) : PureCall Tryz.prog 175 [SerD m o n a] (SerD m true (n + 1) (intS a)) := by
  have hm1 := hm.1
  have hm2 := hm.2
  refine pure_of_vc Tryz.tabOk mixOrd Tryz.func175 rfl rfl ?_
  conv => whnf
  repeat' first | ((first | refine z0 ?_ | (apply zI; refine zP (c_degreeS _ _ vAr _) ?_) | (apply zI; refine zP (c_zero (n + 1) vAr vAr) ?_) | (refine And.intro (fun h => ?_) (fun h => ?_) <;> (try simp only [cnt1, ints_length] at h)) | refine zS ?_ | refine zV ?_ | (apply zI; refine zP vObx ?_) | refine Alt.fst ?_ | refine Or.inl ?_) <;> conv => whnf) | fail
  refine loop_at Tryz.tabOk mixOrd (α := Nat) (fun i => [(15, dint i)]) (fun i => [(4, some ⟨false, 1, ints (L (n + 1) (mix (i + 1) (intS a) 0))⟩)]) (fun i => i ≤ n) (fun i => n - i) (0) ?_ ?_ ?_
  · omega
  · conv => whnf
    first | refine WeakS.auto ?_ | refine Weak.auto ?_
    conv => whnf
    repeat' ((first | refine z1 ?_ | refine z2 ?_ | refine zV ?_ | refine And.intro vRepl ?_ | refine And.intro vReplL ?_ | refine And.intro ?_ ?_ | exact trivial) <;> try (conv => whnf))
    all_goals rw [mix_intS]
  intro i hi
  conv => whnf
  repeat' first | ((first | refine z0 ?_ | (apply zI; refine zP (c_mod _ _ hm.pos (by omega)) ?_) | (apply zI; refine zP (c_inverse hm _) ?_) | (refine And.intro (fun h => ?_) (fun h => ?_) <;> (try simp only [cnt1, ints_length] at h)) | refine zS ?_ | refine zV ?_ | (apply zI; refine zP vObx ?_) | refine Alt.fst ?_ | refine Or.inl ?_) <;> conv => whnf) | fail
  · refine Exists.intro (i + 1) (And.intro vAr (And.intro vAr ?_))
    first | refine WeakS.auto ?_ | refine Weak.auto ?_
    conv => whnf
    repeat' ((first | refine z1 ?_ | refine z2 ?_ | refine zV ?_ | refine And.intro vRepl ?_ | refine And.intro vReplL ?_ | refine And.intro ?_ ?_ | exact trivial) <;> try (conv => whnf))
    refine ints_congr' (L_set_eq ((intS a).c (i + 1)) ?_ (Ag.of_eq (mix_succ _ _ _).symm))
    rw [tm_mul hm, invN_mod]; rfl
  · have e : i = n := vAr
    subst e
    exact serD_congr (L_congr (fun k hk => by rw [mix_c, if_pos (by omega)]))
theorem c_l02Integrate (hm : Md m) (o : Bool) (n : Nat) (hn : 1 ≤ n ∧ n ≤ 50) (a : PS (Zm m)) : PureCall Tryz.prog 200 [dint m, LD o n a] (LD true (n + 1) (intS a)) := by
  have hm1 := hm.1
  have hm2 := hm.2
  refine pure_of_vc Tryz.tabOk mixOrd Tryz.func200 rfl rfl ?_
  conv => whnf
  repeat' first | ((first | refine z0 ?_ | (refine And.intro (fun h => ?_) (fun h => ?_) <;> (try simp only [cnt1, ints_length] at h)) | refine zS ?_ | refine zV ?_ | (apply zI; refine zP vObx ?_) | refine Alt.fst ?_ | refine Or.inl ?_) <;> conv => whnf) | fail
  refine loop_at Tryz.tabOk mixOrd (α := Nat) (fun i => [(5, .ref 0 [] 1 0 (i + 1)), (6, dint i), (7, .undef)]) (fun i => [(0, some ⟨false, 1, ints (L (i + 1) (intS a))⟩)]) (fun i => i ≤ n) (fun i => n - i) (0) ?_ ?_ ?_
  · omega
  · conv => whnf
    first | refine WeakS.auto ?_ | refine Weak.auto ?_
    conv => whnf
    repeat' ((first | refine z1 ?_ | refine z2 ?_ | refine zV ?_ | refine And.intro vRepl ?_ | refine And.intro vReplL ?_ | refine And.intro ?_ ?_ | exact trivial) <;> try (conv => whnf))
  intro i hi
  conv => whnf
  repeat' first | ((first | refine z0 ?_ | (apply zI; refine zP (c_l01Inv hm _) ?_) | (refine And.intro (fun h => ?_) (fun h => ?_) <;> (try simp only [cnt1, ints_length] at h)) | refine zS ?_ | refine zV ?_ | (apply zI; refine zP vObx ?_) | refine Alt.fst ?_ | refine Or.inl ?_) <;> conv => whnf) | fail
  · refine Exists.intro (i + 1) (And.intro vAr (And.intro vAr ?_))
    first | refine WeakS.auto ?_ | refine Weak.auto ?_
    conv => whnf
    repeat' ((first | refine z1 ?_ | refine z2 ?_ | refine zV ?_ | refine And.intro vRepl ?_ | refine And.intro vReplL ?_ | refine And.intro ?_ ?_ | exact trivial) <;> try (conv => whnf))
    refine ints_congr' (L_push ?_)
    rw [tm_mul hm]; rfl
  · have e : i = n := vAr
    subst e; rfl
theorem sub_drop1 {n : Nat} {a : PS (Zm m)} {k : Nat} (h : k = n) : sub (ints (L (n + 1) a)) 1 1 k = ints (L n a.shl) := by
  subst h
  rw [sub_ints', L_drop_one, L_take _ (Nat.le_refl _)]
def charG (m : Int) (l : List Int) : PS (Zm m) := (rev (invN m ((intS (rd m l)).c 1).val) (intS (rd m l))).shl
def codeG (m : Int) (l : List Int) : Int := if codeN m l = 0 then (if inB l.length 2 10 && decide (l.getD 0 0 = 1) then (if unitsB m l.length then 0 else 5) else 2) else codeN m l
theorem serRes_no {n : Nat} {a : PS (Zm m)} {c c' : Int} (h : c' ≠ 0) (e : c' = c) : D.tup [zserD, dint c'] = serRes m n a c := by
  subst e; rw [serRes, if_neg h]
theorem serRes_yes {n : Nat} {a b : PS (Zm m)} {c : Int} (h : c = 0) (e : a = b) : D.tup [SerD m true n a, dint 0] = serRes m n b c := by
  subst h; subst e; rw [serRes, if_pos rfl]
theorem codeN_L {m : Int} {l : List Int} (h : codeN m l = 0) : L l.length (rd m l) = l := L_rd (numsB_iff.1 (codeN_0 h).2)
theorem c_implCharacteristicOfGenera (o : Bool) (m : Int) (l : List Int) (hl : l.length ≤ 1048576) : PureCall Tryz.prog 24 [dint m, .list o 1 (ints l)] (serRes m l.length (inv (invN m ((charG m l).c 0).val) (charG m l)) (codeG m l)) := by
  refine pure_of_vc Tryz.tabOk mixOrd Tryz.func24 rfl rfl ?_
  conv => whnf
  repeat' first | ((first | refine z0 ?_ | (apply zI; refine zP (c_modular _ _ _ hl) ?_) | (apply zI; refine zP (c_impl_in _ _ _) ?_) | (refine And.intro (fun h => ?_) (fun h => ?_) <;> (try simp only [cnt1, ints_length] at h)) | refine zS ?_ | refine zV ?_ | (apply zI; refine zP vObx ?_) | refine Alt.fst ?_ | refine Or.inl ?_) <;> conv => whnf) | fail
  · exact serRes_no h (by unfold codeG; rw [if_neg h])
  · have h0 : codeN m l = 0 := Classical.not_not.1 (by assumption)
    have hm := (codeN_0 h0).1
    have hm1 := hm.1
    have hm2 := hm.2
    have hb : inB (l.length : Int) 2 10 = true := by assumption
    have hlen : 2 ≤ l.length ∧ l.length ≤ 10 := by simp only [inB, decide_eq_true_eq] at hb; omega
    have key := c_integrated hm o l.length (by omega) (rd m l)
    rw [SerD, codeN_L h0] at key
    repeat' first | ((first | refine z0 ?_ | (apply zI; refine zP (c_areUnits hm l.length vAr vAr) ?_) | (apply zI; refine zP (key) ?_) | (apply zI; refine zP (c_reverseU hm _ (l.length + 1) vAr (intS (rd m l))) ?_) | (apply zI; refine zP (sub_drop1 vAr) ?_) | (apply zI; refine zP (c_inverseU hm _ l.length vAr (charG m l)) ?_) | (refine And.intro (fun h => ?_) (fun h => ?_) <;> (try simp only [cnt1, ints_length] at h)) | refine zS ?_ | refine zV ?_ | (apply zI; refine zP vObx ?_) | refine Alt.fst ?_ | refine Or.inl ?_) <;> conv => whnf) | fail
    · exact serRes_no (by omega) (by unfold codeG; simp_all)
    · exact serRes_yes (by unfold codeG; simp_all) rfl
    · exact serRes_no (by omega) (by unfold codeG; simp_all)
  · exact serRes_no (by omega) (by unfold codeG; simp_all)
theorem c_specCharacteristicOfGenera (o : Bool) (m : Int) (l : List Int) (hl : l.length ≤ 1048576) : PureCall Tryz.prog 31 [dint m, .list o 1 (ints l)] (serRes m l.length (inv (invN m ((charG m l).c 0).val) (charG m l)) (codeG m l)) := by
  refine pure_of_vc Tryz.tabOk mixOrd Tryz.func31 rfl rfl ?_
  conv => whnf
  repeat' first | ((first | refine z0 ?_ | (apply zI; refine zP (c_l01Code _ _ _ hl) ?_) | (refine And.intro (fun h => ?_) (fun h => ?_) <;> (try simp only [cnt1, ints_length] at h)) | refine zS ?_ | refine zV ?_ | (apply zI; refine zP vObx ?_) | refine Alt.fst ?_ | refine Or.inl ?_) <;> conv => whnf) | fail
  · exact serRes_no h (by unfold codeG; rw [if_neg h])
  · exact serRes_no (by omega) (by unfold codeG; simp_all [inB]; omega)
  · exact serRes_no (by omega) (by unfold codeG; simp_all [inB]; omega)
  · exact serRes_no (by omega) (by unfold codeG; simp_all [inB])
  · have h0 : codeN m l = 0 := Classical.not_not.1 (by assumption)
    have hm := (codeN_0 h0).1
    have hm1 := hm.1
    have hm2 := hm.2
    have hlen : 2 ≤ l.length ∧ l.length ≤ 10 := by omega
    have key := c_l02Integrate hm o l.length (by omega) (rd m l)
    rw [LD, codeN_L h0] at key
    repeat' first | ((first | refine z0 ?_ | (apply zI; refine zP (c_l02Integers hm l.length vAr vAr) ?_) | (apply zI; refine zP (key) ?_) | (apply zI; refine zP (c_l02ReverseU hm _ (l.length + 1) (l.length + 1) vAr vAr vAr vAr (intS (rd m l))) ?_) | (apply zI; refine zP (sub_drop1 vAr) ?_) | (apply zI; refine zP (c_l02InverseU hm _ l.length l.length vAr vAr vAr vAr (charG m l)) ?_) | refine Or.inl (Or.inr (And.intro (mk_l02Make) ?_)) | refine Or.inr (And.intro (mk_l02Make) ?_) | (refine And.intro (fun h => ?_) (fun h => ?_) <;> (try simp only [cnt1, ints_length] at h)) | refine zS ?_ | refine zV ?_ | (apply zI; refine zP vObx ?_) | refine Alt.fst ?_ | refine Or.inl ?_) <;> conv => whnf) | fail
    · exact serRes_yes (by unfold codeG; simp_all [inB]) rfl
    · exact serRes_no (by omega) (by unfold codeG; simp_all [inB])
end Go.Proofs

