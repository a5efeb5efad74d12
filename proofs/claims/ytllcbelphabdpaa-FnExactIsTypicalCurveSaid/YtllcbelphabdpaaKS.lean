/- Series as results: none, and what is held of them. -/
import Derived.Test.YtllcbelphabdpaaK2
import Derived.Test.YtllcbelphabdpaaKM
namespace Go.Proofs
open Go Go.Vm Go.Fg Go.Fg.PS
set_option maxRecDepth 100000
set_option maxHeartbeats 4000000
set_option linter.unusedSimpArgs false
set_option linter.unusedVariables false
variable {m : Int}
/-- What the law says of a zero series. -/
def zserD : D := .agg [dint 0, .lit (.slice none 0 0)]
def serRes (m : Int) (n : Nat) (a : PS (Zm m)) (code : Int) : D := if code = 0 then .tup [SerD m true n a, dint 0] else .tup [zserD, dint code]
theorem subd_nil2 : SubD (.agg [dint 0, .lit (.slice none 0 0)]) (.agg [dint 0, .list false 1 (ints [])]) := by
  refine SubD.agg rfl (fun i d d' h h' => ?_)
  match i, h, h' with
  | 0, h, h' => simp at h h'; subst h; subst h'; exact SubD.rfl _
  | 1, h, h' => simp at h h'; subst h; subst h'; exact SubD.nil _ _
  | n + 2, h, h' => simp at h
theorem c_eqSeriesNil : PureCall Try.prog 30 [.agg [dint 0, .lit (.slice none 0 0)], .agg [dint 0, .lit (.slice none 0 0)]] (dbool true) := by
  refine (c_eqSeries false false 0 0 [] [] (by simp)).mono rfl (fun i d d' h h' => ?_)
  match i, h, h' with
  | 0, h, h' => simp at h h'; subst h; subst h'; exact subd_nil2
  | 1, h, h' => simp at h h'; subst h; subst h'; exact subd_nil2
  | n + 2, h, h' => simp at h
theorem c_heldSeries (o : Bool) (m k : Int) (n : Nat) (hk : 0 ≤ k ∧ k + n ≤ 4611686018427387904) : PureCall Try.prog 34 [.agg [dint m, .list o 1 (ints (marks k n))], dint k] (dint (k + n)) := by
  refine pure_of_vc Try.tabOk mixOrd Try.func34 rfl rfl ?_
  conv => whnf
  repeat' first
    | (refine And.intro (Or.inl rfl) ?_; conv => whnf)
    | (refine Or.inl (Or.inl (Exists.intro _ (And.intro (c_heldInt64S _ _ _ hk) ?_))); conv => whnf)
    | (refine Or.inl (Exists.intro _ (And.intro (c_heldInt64S _ _ _ hk) ?_)); conv => whnf)
    | (apply Exists.intro; refine And.intro (c_heldInt64S _ _ _ hk) ?_; conv => whnf)
    | (refine And.intro (fun h => ?_) (fun h => ?_) <;> (try simp only [cnt1, ints_length] at h) <;> conv => whnf)
    | (refine And.intro (show slotsOk _ = true by decide +kernel) ?_; conv => whnf)
    | (refine And.intro vOb ?_; conv => whnf)
    | fail
    | (apply Exists.intro; refine And.intro vObx ?_; conv => whnf)
    | fail
    | (refine Or.inl ?_; conv => whnf)
    | fail
  exfalso; omega
theorem c_heldSeriesNil (k : Int) (hk : 0 ≤ k ∧ k ≤ 4611686018427387904) : PureCall Try.prog 34 [.agg [dint 0, .lit (.slice none 0 0)], dint k] (dint k) := by
  have := c_heldSeries false 0 k 0 (by omega)
  rw [show k + ((0 : Nat) : Int) = k by omega] at this
  refine this.mono rfl (fun i d d' h h' => ?_)
  match i, h, h' with
  | 0, h, h' => simp at h h'; subst h; subst h'; exact subd_nil2
  | 1, h, h' => simp at h h'; subst h; subst h'; exact SubD.rfl _
  | n + 2, h, h' => simp at h
theorem mk_l02Make : MakesAgg Try.prog 67 := fun m b n c => by
  refine pure_of_vc Try.tabOk mixOrd Try.func67 rfl rfl ?_
  conv => whnf
  repeat' first
    | (refine And.intro (Or.inl rfl) ?_; conv => whnf)
    | (refine And.intro (fun h => ?_) (fun h => ?_) <;> (try simp only [cnt1, ints_length] at h) <;> conv => whnf)
    | (refine And.intro (show slotsOk _ = true by decide +kernel) ?_; conv => whnf)
    | (refine And.intro vOb ?_; conv => whnf)
    | fail
    | (apply Exists.intro; refine And.intro vObx ?_; conv => whnf)
    | fail
    | (refine Or.inl ?_; conv => whnf)
    | fail
end Go.Proofs

