/- All elements of a kernel algebra for which a condition holds. -/
-- tables
-- rec
import Derived.Test.YtmnphhjljlbfmaaGreatK114
namespace Go.Proofs
open Go Go.Vm Go.Fg Go.Fg.PS
set_option maxRecDepth 100000
set_option maxHeartbeats 4000000
set_option linter.unusedSimpArgs false
set_option linter.unusedVariables false
theorem c_elements (p q : Nat) (hp : 2 ≤ p ∧ p ≤ 100) (hq : 1 ≤ q ∧ q ≤ 100) (hpq : p ^ q ≤ 1000000) (d2 d3 d4 : D) (g : Nat)  (good : List Int → Bool)
    (hf : ∀ u : List Int, u.length = q → (∀ x ∈ u, 0 ≤ x ∧ x < (p : Int)) → PureCall Tryz.prog g [kerD p q d2 d3 d4, .list false 1 (ints u)] (dbool (good u))) :
    PureCall Tryz.prog 30 [kerD p q d2 d3 d4, .fn (.func g) [kerD p q d2 d3 d4] []] (.list true 1 (rows true (ext p good q []))) := by
  have key := c_extend p q hp hq d2 d3 d4 g good hf q [] [] (by simp) (by simp) (by simpa using hpq)
  refine pure_of_vcR Tryz.tabOk mixOrd Tryz.func30 rfl rfl ?_
  conv => whnf
  repeat' first | ((refine borF_of 0 5 (xs' := ints []) rfl rfl rfl rfl ?_; refine borD_of [0, 1, 3, 4, 2] key (by decide) ?_ (by simp) ?_; (focus ((conv => whnf); (repeat' ((first | exact trivial | refine And.intro rfl ?_ | refine And.intro (eqV_int vAr) ?_ | refine And.intro vOb ?_) <;> (conv => whnf))); done)); conv => whnf)) | ((first | refine And.intro (Or.inl rfl) ?_ | (apply Exists.intro; refine And.intro (rfl) ?_) | (refine And.intro (fun h => ?_) (fun h => ?_) <;> (try simp only [cnt1, ints_length] at h) <;> first | (exfalso; omega) | skip) | refine And.intro (show slotsOk _ = true by decide +kernel) ?_ | refine And.intro vOb ?_ | (apply Exists.intro; refine And.intro vObt ?_) | (apply Exists.intro; refine And.intro vObx ?_) | refine And.intro vArT ?_ | refine Or.inl ?_) <;> conv => whnf) | fail
  rfl
theorem c_elementsD (p q : Nat) (hp : 2 ≤ p ∧ p ≤ 100) (hq : 1 ≤ q ∧ q ≤ 100) (hpq : p ^ q ≤ 1000000) (d2 d3 d4 : D) (g : Nat) (e1 e2 : D) (good : List Int → Bool)
    (hf : ∀ u : List Int, u.length = q → (∀ x ∈ u, 0 ≤ x ∧ x < (p : Int)) → PureCall Tryz.prog g [.list false 1 (ints u), .cptr [e1] 0, .cptr [e2] 0] (dbool (good u))) :
    PureCall Tryz.prog 30 [kerD p q d2 d3 d4, .fn (.func g) [] [.cptr [e1] 0, .cptr [e2] 0]] (.list true 1 (rows true (ext p good q []))) := by
  have key := c_extendD p q hp hq d2 d3 d4 g e1 e2 good hf q [] [] (by simp) (by simp) (by simpa using hpq)
  refine pure_of_vcR Tryz.tabOk mixOrd Tryz.func30 rfl rfl ?_
  conv => whnf
  repeat' first | ((refine borF_of 0 5 (xs' := ints []) rfl rfl rfl rfl ?_; refine borD_of [0, 1, 3, 4, 2] key (by decide) ?_ (by simp) ?_; (focus ((conv => whnf); (repeat' ((first | exact trivial | refine And.intro rfl ?_ | refine And.intro (eqV_int vAr) ?_ | refine And.intro vOb ?_) <;> (conv => whnf))); done)); conv => whnf)) | ((first | refine And.intro (Or.inl rfl) ?_ | (apply Exists.intro; refine And.intro (rfl) ?_) | (refine And.intro (fun h => ?_) (fun h => ?_) <;> (try simp only [cnt1, ints_length] at h) <;> first | (exfalso; omega) | skip) | refine And.intro (show slotsOk _ = true by decide +kernel) ?_ | refine And.intro vOb ?_ | (apply Exists.intro; refine And.intro vObt ?_) | (apply Exists.intro; refine And.intro vObx ?_) | refine And.intro vArT ?_ | refine Or.inl ?_) <;> conv => whnf) | fail
  rfl
end Go.Proofs

