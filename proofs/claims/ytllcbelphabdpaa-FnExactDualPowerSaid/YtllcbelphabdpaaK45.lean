/- Kernel algebras: powers in the dual algebra. -/
-- tables
-- rec
import Derived.Test.YtllcbelphabdpaaK39
namespace Go.Proofs
open Go Go.Vm Go.Fg Go.Fg.PS
set_option maxRecDepth 100000
set_option maxHeartbeats 4000000
set_option linter.unusedSimpArgs false
set_option linter.unusedVariables false
variable {m : Int}
def dpw (f : PS (PS (Zm m))) (a : PS (Zm m)) (q : Nat) : Nat → PS (Zm m)
  | 0 => a
  | i + 1 => duS f (dpw f a q i) a q
theorem c_copyOf (o : Bool) (l : List Int) (hl : l.length ≤ 1048576) : PureCall Try.prog 92 [.list o 1 (ints l)] (.list true 1 (ints l)) := by
  refine pure_of_vcR Try.tabOk mixOrd Try.func92 rfl rfl ?_
  conv => whnf
  repeat' first
    | (refine And.intro (Or.inl rfl) ?_; conv => whnf)
    | (refine And.intro (fun h => ?_) (fun h => ?_) <;> (try simp only [cnt1, ints_length] at h) <;> conv => whnf)
    | (refine And.intro (show slotsOk _ = true by decide +kernel) ?_; conv => whnf)
    | (refine And.intro vOb ?_; conv => whnf)
    | (apply Exists.intro; refine And.intro vObt ?_; conv => whnf)
    | (apply Exists.intro; refine And.intro vObx ?_; conv => whnf)
    | (refine And.intro vArT ?_; conv => whnf)
    | (refine Or.inl ?_; conv => whnf)
    | fail
  rfl
theorem c_dualPower (hm : Md m) (q : Nat) (hq : 1 ≤ q ∧ q ≤ 100) (oo o1 : Bool) (d3 d4 : D) (f : PS (PS (Zm m))) (a : PS (Zm m)) (e : Nat) (he : e ≤ 1000) {E : Int} (hE : E = (e : Int) + 1) : PureCall Try.prog 55 [.cptr [dint m, dint q, .list oo 1 (tbq q f q), d3, d4] 0, LD o1 q a, dint E] (LD true q (dpw f a q e)) := by
  subst hE
  have hm1 := hm.1
  have hm2 := hm.2
  refine pure_of_vcR Try.tabOk mixOrd Try.func55 rfl rfl ?_
  conv => whnf
  repeat' first
    | (refine And.intro (Or.inl rfl) ?_; conv => whnf)
    | (refine Or.inl (Or.inl (Exists.intro _ (And.intro (c_copyOf _ (L q a) (by rw [L_length]; omega)) ?_))); conv => whnf)
    | (refine Or.inl (Exists.intro _ (And.intro (c_copyOf _ (L q a) (by rw [L_length]; omega)) ?_)); conv => whnf)
    | (apply Exists.intro; refine And.intro (c_copyOf _ (L q a) (by rw [L_length]; omega)) ?_; conv => whnf)
    | (refine And.intro (fun h => ?_) (fun h => ?_) <;> (try simp only [cnt1, ints_length] at h) <;> conv => whnf)
    | (refine And.intro (show slotsOk _ = true by decide +kernel) ?_; conv => whnf)
    | (refine And.intro vOb ?_; conv => whnf)
    | (apply Exists.intro; refine And.intro vObt ?_; conv => whnf)
    | (apply Exists.intro; refine And.intro vObx ?_; conv => whnf)
    | (refine And.intro vArT ?_; conv => whnf)
    | (refine Or.inl ?_; conv => whnf)
    | fail
  refine loop_atR Try.tabOk mixOrd (α := Nat) (fun i => [(12, dint i), (9, .undef), (7, .ref 0 [] 1 0 q)]) (fun i => [(0, some ⟨false, 1, ints (L q (dpw f a q i))⟩)]) (fun i => i ≤ e) (fun i => e - i) (0) ?_ ?_ ?_
  · omega
  · conv => whnf
    first | refine WeakS.auto ?_ | refine Weak.auto ?_
    conv => whnf
    repeat' first
      | exact trivial
      | (refine And.intro rfl ?_; conv => whnf)
      | (refine And.intro (eqV_int vAr) ?_; conv => whnf)
      | (refine And.intro vOb ?_; conv => whnf)
      | (refine And.intro vRepl ?_; conv => whnf)
      | (refine And.intro vReplL ?_; conv => whnf)
      | (refine And.intro ?_ ?_ <;> try (conv => whnf))
    all_goals first
      | rfl
      | exact vDA
  intro i hi
  conv => whnf
  repeat' first
    | (refine And.intro (Or.inl rfl) ?_; conv => whnf)
    | (refine Or.inl (Or.inl (Exists.intro _ (And.intro (c_dual hm q hq _ _ _ _ _ f (dpw f a q i) a) ?_))); conv => whnf)
    | (refine Or.inl (Exists.intro _ (And.intro (c_dual hm q hq _ _ _ _ _ f (dpw f a q i) a) ?_)); conv => whnf)
    | (apply Exists.intro; refine And.intro (c_dual hm q hq _ _ _ _ _ f (dpw f a q i) a) ?_; conv => whnf)
    | (refine And.intro (fun h => ?_) (fun h => ?_) <;> (try simp only [cnt1, ints_length] at h) <;> conv => whnf)
    | (refine And.intro (show slotsOk _ = true by decide +kernel) ?_; conv => whnf)
    | (refine And.intro vOb ?_; conv => whnf)
    | (apply Exists.intro; refine And.intro vObt ?_; conv => whnf)
    | (apply Exists.intro; refine And.intro vObx ?_; conv => whnf)
    | (refine And.intro vArT ?_; conv => whnf)
    | (refine Or.inl ?_; conv => whnf)
    | fail
  · refine Exists.intro (i + 1) (And.intro vDA (And.intro vDA ?_))
    first | refine WeakS.auto ?_ | refine Weak.auto ?_
    conv => whnf
    repeat' first
      | exact trivial
      | (refine And.intro rfl ?_; conv => whnf)
      | (refine And.intro (eqV_int vAr) ?_; conv => whnf)
      | (refine And.intro vOb ?_; conv => whnf)
      | (refine And.intro vRepl ?_; conv => whnf)
      | (refine And.intro vReplL ?_; conv => whnf)
      | (refine And.intro ?_ ?_ <;> try (conv => whnf))
    all_goals first
      | rfl
      | exact vDA
  · rw [show i = e from vDA]
end Go.Proofs

