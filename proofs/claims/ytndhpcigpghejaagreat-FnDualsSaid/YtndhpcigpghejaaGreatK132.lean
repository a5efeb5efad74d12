import Derived.Test.YtndhpcigpghejaaGreatK29
import Derived.Test.YtndhpcigpghejaaGreatK16
import Derived.Test.YtndhpcigpghejaaGreatK112
namespace Go.Proofs
open Go Go.Vm Go.Fg Go.Fg.PS
set_option maxRecDepth 100000
set_option maxHeartbeats 4000000
set_option linter.unusedSimpArgs false
set_option linter.unusedVariables false
noncomputable def lawB (m : Int) (t : List (List Int)) : Bool := plB m t && trL (LawP (rd2 m t) t.length)
theorem lawB_no {m : Int} {t : List (List Int)} (h : plB m t = false) : lawB m t = false := by simp [lawB, h]
theorem lawB_yes {m : Int} {t : List (List Int)} (h : plB m t = true) : lawB m t = trL (LawP (rd2 m t) t.length) := by simp [lawB, h]
theorem c_l04Is (o p : Bool) (m : Int) (t : List (List Int)) (hl : t.length ≤ 1048576) (hr : lensOk t) : PureCall Tryz.prog 243 [.agg [dint m, .list o 1 (rows p t)]] (dbool (lawB m t)) := by
 cases hp : plB m t with
 | true =>
   obtain ⟨hm, h2, h3, _⟩ := plB_md hp
   have key := c_l04IsL hm o p t.length ⟨h2, h3⟩ (rd2 m t) (by rw [plB_T hp]; exact hp)
   simp only [PlD, plB_T hp] at key
   rw [lawB_yes hp]
   exact key
 | false =>
   have hli := c_l03Is o p m t hl hr
   rw [hp] at hli
   rw [lawB_no hp]
   refine pure_of_vcR Tryz.tabOk mixOrd Tryz.func243 rfl rfl ?_
   conv => whnf
   repeat' first | ((first | refine z0 ?_ | (apply zI; refine zP (hli) ?_) | (refine And.intro (fun h => ?_) (fun h => ?_) <;> (try simp only [cnt1, ints_length] at h)) | refine Or.inl ?_) <;> conv => whnf) | fail
   all_goals (exfalso; simp_all)
theorem c_IsLaw (o p : Bool) (m : Int) (t : List (List Int)) (hl : t.length ≤ 1048576) (hr : lensOk t) : PureCall Tryz.prog 18 [.agg [dint m, .list o 1 (rows p t)]] (dbool (lawB m t)) := by
 cases hp : plB m t with
 | true =>
   obtain ⟨hm, h2, h3, _⟩ := plB_md hp
   have key := c_implIsLawL hm o p t.length ⟨h2, h3⟩ (rd2 m t) (by rw [plB_T hp]; exact hp)
   simp only [PlD, plB_T hp] at key
   rw [lawB_yes hp]
   exact key
 | false =>
   have hli := c_IsPlane o p m t hl hr
   rw [hp] at hli
   rw [lawB_no hp]
   refine pure_of_vcR Tryz.tabOk mixOrd Tryz.func18 rfl rfl ?_
   conv => whnf
   repeat' first | ((first | refine z0 ?_ | (apply zI; refine zP (hli) ?_) | (refine And.intro (fun h => ?_) (fun h => ?_) <;> (try simp only [cnt1, ints_length] at h)) | refine Or.inl ?_) <;> conv => whnf) | fail
   all_goals (exfalso; simp_all)
end Go.Proofs
namespace Go.Proofs
open Go Go.Vm Go.Fg Go.Fg.PS
set_option maxRecDepth 100000
set_option maxHeartbeats 4000000
set_option linter.unusedSimpArgs false
set_option linter.unusedVariables false
variable {m : Int}
def fdL (f g : PS (PS (Zm m))) (k i : Nat) : List Int := (List.range i).map fun i => ((g.c i).c (k - i) + -(f.c i).c (k - i)).val
@[simp] theorem fdL_length (f g : PS (PS (Zm m))) (k i : Nat) : (fdL f g k i).length = i := by simp [fdL]
theorem lawB_Tb {m : Int} {t : List (List Int)} (h : lawB m t = true) : (Md m ∧ (2 ≤ t.length ∧ t.length ≤ 11)) ∧ Tb t.length (rd2 m t) = t ∧ LawP (rd2 m t) t.length := by
 unfold lawB at h
 simp only [Bool.and_eq_true, trL, decide_eq_true_eq] at h
 obtain ⟨hm, h3, h4, _⟩ := plB_md h.1
 exact ⟨⟨hm, h3, h4⟩, plB_T h.1, h.2⟩
end Go.Proofs
