import Derived.Test.YtndhpcigpghejaaGreatK29
import Derived.Test.YtndhpcigpghejaaGreatK16
import Derived.Test.YtndhpcigpghejaaGreatK154
import Derived.Test.YtndhpcigpghejaaGreatK28
import Derived.Test.YtndhpcigpghejaaGreatKP
import Derived.Test.YtndhpcigpghejaaGreatVm32
import Derived.Test.YtndhpcigpghejaaGreatAlg8
import Derived.Test.YtndhpcigpghejaaGreatK79
namespace Go.Proofs
open Go Go.Vm Go.Fg Go.Fg.PS
set_option maxRecDepth 100000
set_option maxHeartbeats 4000000
set_option linter.unusedSimpArgs false
set_option linter.unusedVariables false
noncomputable def lawB (m : Int) (t : List (List Int)) : Bool := plB m t && trL (LawP (rd2 m t) t.length)
theorem lawB_no {m : Int} {t : List (List Int)} (h : plB m t = false) : lawB m t = false := by simp [lawB, h]
theorem lawB_yes {m : Int} {t : List (List Int)} (h : plB m t = true) : lawB m t = trL (LawP (rd2 m t) t.length) := by simp [lawB, h]
theorem c_l04Is (o p : Bool) (m : Int) (t : List (List Int)) (hl : t.length ≤ 1048576) (hr : lensOk t) : PureCall Tryz.prog 243 [.agg [dint m, .list o 1 (rows p t)]] (dbool (lawB m t)) := by
 cases hp : plB m t with
 | true =>
   obtain ⟨hm, h2, h3, _⟩ := plB_md hp
   have key := c_l04IsL hm o p t.length ⟨h2, h3⟩ (rd2 m t) (by rw [plB_T hp]; exact hp)
   simp only [PlD, plB_T hp] at key
   rw [lawB_yes hp]
   exact key
 | false =>
   have hli := c_l03Is o p m t hl hr
   rw [hp] at hli
   rw [lawB_no hp]
   refine pure_of_vcR Tryz.tabOk mixOrd Tryz.func243 rfl rfl ?_
   conv => whnf
   repeat' first | ((first | refine z0 ?_ | (apply zI; refine zP (hli) ?_) | (refine And.intro (fun h => ?_) (fun h => ?_) <;> (try simp only [cnt1, ints_length] at h)) | refine zS ?_ | refine zV ?_ | (apply zI; refine zP vObt ?_) | (apply zI; refine zP vObx ?_) | refine zA ?_ | refine Alt.fst ?_ | refine Or.inl ?_) <;> conv => whnf) | fail
   all_goals (exfalso; simp_all)
theorem c_IsLaw (o p : Bool) (m : Int) (t : List (List Int)) (hl : t.length ≤ 1048576) (hr : lensOk t) : PureCall Tryz.prog 18 [.agg [dint m, .list o 1 (rows p t)]] (dbool (lawB m t)) := by
 cases hp : plB m t with
 | true =>
   obtain ⟨hm, h2, h3, _⟩ := plB_md hp
   have key := c_implIsLawL hm o p t.length ⟨h2, h3⟩ (rd2 m t) (by rw [plB_T hp]; exact hp)
   simp only [PlD, plB_T hp] at key
   rw [lawB_yes hp]
   exact key
 | false =>
   have hli := c_IsPlane o p m t hl hr
   rw [hp] at hli
   rw [lawB_no hp]
   refine pure_of_vcR Tryz.tabOk mixOrd Tryz.func18 rfl rfl ?_
   conv => whnf
   repeat' first | ((first | refine z0 ?_ | (apply zI; refine zP (hli) ?_) | (refine And.intro (fun h => ?_) (fun h => ?_) <;> (try simp only [cnt1, ints_length] at h)) | refine zS ?_ | refine zV ?_ | (apply zI; refine zP vObt ?_) | (apply zI; refine zP vObx ?_) | refine zA ?_ | refine Alt.fst ?_ | refine Or.inl ?_) <;> conv => whnf) | fail
   all_goals (exfalso; simp_all)
end Go.Proofs
namespace Go.Proofs
open Go Go.Vm Go.Fg Go.Fg.PS
set_option maxRecDepth 100000
set_option maxHeartbeats 4000000
set_option linter.unusedSimpArgs false
set_option linter.unusedVariables false
variable {m : Int}
def eqK (f g : PS (PS (Zm m))) (k : Nat) : Prop := ∀ i, i ≤ k → (f.c i).c (k - i) = (g.c i).c (k - i)
open Classical in
noncomputable def agr (f g : PS (PS (Zm m))) : Nat → Nat
 | 0 => 0
 | k + 1 => if agr f g k = k ∧ eqK f g k then k + 1 else agr f g k
def fdL (f g : PS (PS (Zm m))) (k i : Nat) : List Int := (List.range i).map fun i => ((g.c i).c (k - i) + -(f.c i).c (k - i)).val
@[simp] theorem fdL_length (f g : PS (PS (Zm m))) (k i : Nat) : (fdL f g k i).length = i := by simp [fdL]
theorem c_slEqual (o o' : Bool) (l l' : List Int) (hl : l.length ≤ 1048576) : PureCall Tryz.prog 377 [.list o 1 (ints l), .list o' 1 (ints l')] (dbool (decide (l = l'))) := by
 refine pure_of_vc Tryz.tabOk mixOrd Tryz.func377 rfl rfl ?_
 conv => whnf
 repeat' first | ((first | refine z0 ?_ | (refine And.intro (fun h => ?_) (fun h => ?_) <;> (try simp only [cnt1, ints_length] at h)) | refine zS ?_ | refine zV ?_ | (apply zI; refine zP vObt ?_) | (apply zI; refine zP vObx ?_) | refine zA ?_ | refine Alt.fst ?_ | refine Or.inl ?_) <;> conv => whnf) | fail
 · refine dbool_congr ?_
   rw [eq_comm, decide_eq_false_iff_not]
   intro e; subst e; simp_all
 refine loop_at Tryz.tabOk mixOrd (α := Nat) (fun i => [(13, dint i)]) (fun i => []) (fun i => i ≤ l.length ∧ ∀ j, j < i → l.getD j 0 = l'.getD j 0) (fun i => l.length - i) (0) ?_ ?_ ?_
 · exact ⟨by omega, by omega⟩
 · conv => whnf
   first | refine WeakS.auto ?_ | refine Weak.auto ?_
   conv => whnf
   repeat' ((first | refine z1 ?_ | refine z2 ?_ | refine zV ?_ | refine And.intro vRepl ?_ | refine And.intro vReplL ?_ | refine And.intro ?_ ?_ | exact trivial) <;> try (conv => whnf))
 intro i hi
 conv => whnf
 repeat' first | ((first | refine z0 ?_ | (refine And.intro (fun h => ?_) (fun h => ?_) <;> (try simp only [cnt1, ints_length] at h)) | refine zS ?_ | refine zV ?_ | (apply zI; refine zP vObt ?_) | (apply zI; refine zP vObx ?_) | refine zA ?_ | refine Alt.fst ?_ | refine Or.inl ?_) <;> conv => whnf) | fail
 · exact dbool_congr (by rw [eq_comm, decide_eq_false_iff_not]; intro e; subst e; simp_all)
 · refine Exists.intro (i + 1) (And.intro ⟨by omega, lt_cases hi.2 (by omega)⟩ (And.intro (by omega) ?_))
   first | refine WeakS.auto ?_ | refine Weak.auto ?_
   conv => whnf
   repeat' ((first | refine z1 ?_ | refine z2 ?_ | refine zV ?_ | refine And.intro vRepl ?_ | refine And.intro vReplL ?_ | refine And.intro ?_ ?_ | exact trivial) <;> try (conv => whnf))
 · refine dbool_congr ?_
   rw [eq_comm, decide_eq_true_iff]
   refine List.ext_getElem (by omega) (fun j k1 k2 => ?_)
   have := hi.2 j (by omega)
   simpa [k1, k2] using this
theorem c_same1 (o o' : Bool) (l l' : List Int) (hl : l.length ≤ 1048576) : PureCall Tryz.prog 376 [.list o 1 (ints l), .list o' 1 (ints l')] (dbool (decide (l = l'))) := by
 refine pure_of_vc Tryz.tabOk mixOrd Tryz.func376 rfl rfl ?_
 conv => whnf
 repeat' first | ((first | refine z0 ?_ | (apply zI; refine zP (c_slEqual _ _ _ _ hl) ?_) | (refine And.intro (fun h => ?_) (fun h => ?_) <;> (try simp only [cnt1, ints_length] at h)) | refine zS ?_ | refine zV ?_ | (apply zI; refine zP vObt ?_) | (apply zI; refine zP vObx ?_) | refine zA ?_ | refine Alt.fst ?_ | refine Or.inl ?_) <;> conv => whnf) | fail
 all_goals (refine dbool_congr ?_; first | rfl | (simp_all []; done) | (simp_all []; omega) | (simp_all []; intros; omega))
theorem c_EqualFunc (o o' p p' : Bool) (t t' : List (List Int)) (hl : t.length ≤ 1048576) (hr : lensOk t) : PureCall Tryz.prog 375 [.list o 1 (rows p t), .list o' 1 (rows p' t'), .fn (.func 376) [] []] (dbool (decide (t = t'))) := by
 refine pure_of_vc Tryz.tabOk mixOrd Tryz.func375 rfl rfl ?_
 conv => whnf
 repeat' first | ((first | refine z0 ?_ | (refine And.intro (fun h => ?_) (fun h => ?_) <;> (try simp only [cnt1, ints_length] at h)) | refine zS ?_ | refine zV ?_ | (apply zI; refine zP vObt ?_) | (apply zI; refine zP vObx ?_) | refine zA ?_ | refine Alt.fst ?_ | refine Or.inl ?_) <;> conv => whnf) | fail
 · refine dbool_congr ?_
   rw [eq_comm, decide_eq_false_iff_not]
   intro e; subst e; simp_all
 · have hlen : t.length = t'.length := by simp only [rows_length] at *; omega
   refine loop_at Tryz.tabOk mixOrd (α := Nat) (fun i => [(17, dint i)]) (fun i => []) (fun i => i ≤ t.length ∧ ∀ j, j < i → t.getD j [] = t'.getD j []) (fun i => t.length - i) (0) ?_ ?_ ?_
   · exact ⟨by omega, by omega⟩
   · conv => whnf
     first | refine WeakS.auto ?_ | refine Weak.auto ?_
     conv => whnf
     repeat' ((first | refine z1 ?_ | refine z2 ?_ | refine zV ?_ | refine And.intro vRepl ?_ | refine And.intro vReplL ?_ | refine And.intro ?_ ?_ | exact trivial) <;> try (conv => whnf))
   intro i hi
   conv => whnf
   repeat' first | ((first | refine z0 ?_ | (apply zI; refine zP (c_same1 _ _ _ _ (hr i vAr)) ?_) | (refine And.intro (fun h => ?_) (fun h => ?_) <;> (try simp only [cnt1, ints_length] at h)) | refine zS ?_ | refine zV ?_ | (apply zI; refine zP vObt ?_) | (apply zI; refine zP vObx ?_) | refine zA ?_ | refine Alt.fst ?_ | refine Or.inl ?_) <;> conv => whnf) | fail
   · refine Exists.intro (i + 1) (And.intro ⟨vAr, lt_cases hi.2 (of_decide_eq_true (by assumption))⟩ (And.intro vAr ?_))
     first | refine WeakS.auto ?_ | refine Weak.auto ?_
     conv => whnf
     repeat' ((first | refine z1 ?_ | refine z2 ?_ | refine zV ?_ | refine And.intro vRepl ?_ | refine And.intro vReplL ?_ | refine And.intro ?_ ?_ | exact trivial) <;> try (conv => whnf))
   · refine dbool_congr ?_
     rw [eq_comm, decide_eq_false_iff_not]
     intro e; subst e
     have := of_decide_eq_false (by assumption)
     exact this rfl
   · refine dbool_congr ?_
     rw [eq_comm, decide_eq_true_iff]
     exact eqT_of hlen (fun j hj => hi.2 j vAr)
theorem c_sameP (o o' p p' : Bool) (n n' : Nat) (hn : n ≤ 100) (f g : PS (PS (Zm m))) : PureCall Tryz.prog 235 [PlD m o p n f, PlD m o' p' n' g] (dbool (decide (Tb n f = Tb n' g))) := by
 refine pure_of_vc Tryz.tabOk mixOrd Tryz.func235 rfl rfl ?_
 conv => whnf
 repeat' first | ((first | refine z0 ?_ | (apply zI; refine zP (c_EqualFunc _ _ _ _ _ _ vAr (lensOk_Tb (by omega) _)) ?_) | (refine And.intro (fun h => ?_) (fun h => ?_) <;> (try simp only [cnt1, ints_length] at h)) | refine zS ?_ | refine zV ?_ | (apply zI; refine zP vObt ?_) | (apply zI; refine zP vObx ?_) | refine zA ?_ | refine Alt.fst ?_ | refine Or.inl ?_) <;> conv => whnf) | fail
 all_goals (refine dbool_congr ?_; first | rfl | (simp_all []; done) | (simp_all []; omega) | (simp_all []; intros; omega))
theorem least {p : Nat → Prop} {b : Nat} : ∀ {k : Nat}, p k → k < b → ∃ j, j < b ∧ p j ∧ ∀ i, i < j → ¬ p i := by
 intro k
 induction k using Nat.strongRecOn with
 | ind k ih =>
   intro hp hk
   rcases Classical.em (∃ i, i < k ∧ p i) with ⟨i, hi, hpi⟩ | h
   · exact ih i hi hpi (by omega)
   · exact ⟨k, hk, hp, fun i hi hpi => h ⟨i, hi, hpi⟩⟩
@[simp] theorem lazL_length (n : Nat) : (lazL n).length = n + 1 := by simp [lazL]
open Classical in
noncomputable def twC (m : Int) (t : List (List Int)) (m' : Int) (t' : List (List Int)) : Int := if lawB m t = true ∧ lawB m' t' = true then (if m = m' ∧ t.length = t'.length then 0 else 2) else 1
theorem lawB_Tb {m : Int} {t : List (List Int)} (h : lawB m t = true) : (Md m ∧ (2 ≤ t.length ∧ t.length ≤ 11)) ∧ Tb t.length (rd2 m t) = t ∧ LawP (rd2 m t) t.length := by
 unfold lawB at h
 simp only [Bool.and_eq_true, trL, decide_eq_true_eq] at h
 obtain ⟨hm, h3, h4, _⟩ := plB_md h.1
 exact ⟨⟨hm, h3, h4⟩, plB_T h.1, h.2⟩
end Go.Proofs
