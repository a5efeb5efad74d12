/- Exponentials and logarithms of genera, and values on hypersurfaces. -/
import Derived.Test.YtnonhialafcjmaaK7
import Derived.Test.YtnonhialafcjmaaK4
import Derived.Test.YtnonhialafcjmaaKM
namespace Go.Proofs
open Go Go.Vm Go.Fg Go.Fg.PS
set_option maxRecDepth 100000
set_option maxHeartbeats 4000000
set_option linter.unusedSimpArgs false
set_option linter.unusedVariables false
variable {m : Int}

theorem c_inverseU (hm : Md m) (o : Bool) (n : Nat) (hn : 1 ≤ n ∧ n ≤ 100) (a : PS (Zm m)) : PureCall Try.prog 152 [SerD m o n a] (SerD m true n (inv (invN m (a.c 0).val) a)) :=
  c_inverseS hm o n hn a _ (c_inverse hm _)
theorem c_l02InverseU (hm : Md m) (o : Bool) (n na : Nat) {d : Int} (hd : d + 1 = n) (hn : 1 ≤ n ∧ n ≤ 100) (h1 : n ≤ na) (h3 : na ≤ 1048576) (a : PS (Zm m)) :
    PureCall Try.prog 187 [dint m, LD o na a, dint d] (LD true n (inv (invN m (a.c 0).val) a)) := c_l02Inverse hm o n na hd hn h1 h3 a _ (c_l01Inv hm _)
theorem c_reverseU (hm : Md m) (o : Bool) (n : Nat) (hn : 2 ≤ n ∧ n ≤ 100) (a : PS (Zm m)) : PureCall Try.prog 92 [SerD m o n a] (SerD m true n (rev (invN m (a.c 1).val) a)) :=
  c_reverseS hm o n hn a _ (c_inverse hm _)
theorem c_l02ReverseU (hm : Md m) (o : Bool) (n na : Nat) {d : Int} (hd : d + 1 = n) (hn : 2 ≤ n ∧ n ≤ 100) (h1 : n ≤ na) (h3 : na ≤ 1048576) (a : PS (Zm m)) :
    PureCall Try.prog 145 [dint m, LD o na a, dint d] (LD true n (rev (invN m (a.c 1).val) a)) := c_l02Reverse hm o n na hd hn h1 h3 a _ (c_l01Inv hm _)

theorem plain_cons (x : Int) (l : List Int) : ∀ d ∈ [dint x] ++ ints l, PlainD d := fun d hd => ints_plain (x :: l) d hd
theorem L_expG (n : Nat) (u : Zm m) (a : PS (Zm m)) : [dint 0] ++ ints (L n (inv u a)) = ints (L (n + 1) (PS.C 0 + PS.X * inv u a)) := by
  rw [← L_cons, Zm.val_zero]; rfl
/-- The exponential of a characteristic series. -/
def expG (a : PS (Zm m)) : PS (Zm m) := PS.C 0 + PS.X * inv (invN m (a.c 0).val) a
def shortCode (m : Int) (l : List Int) : Int := if charB m l then (if l.length = 11 then 5 else 0) else 1
theorem shortCode_0 {m : Int} {l : List Int} (h : shortCode m l = 0) : charB m l = true ∧ l.length ≠ 11 := by
  unfold shortCode at h; split at h
  · split at h
    · omega
    · exact ⟨by assumption, by assumption⟩
  · omega
theorem c_lawful (o : Bool) (m : Int) (l : List Int) (hl : l.length ≤ 1048576) : PureCall Try.prog 89 [.agg [dint m, .list o 1 (ints l)]] (dint (shortCode m l)) := by
  refine pure_of_vc Try.tabOk mixOrd Try.func89 rfl rfl ?_
  conv => whnf
  repeat' first
    | (refine And.intro (Or.inl rfl) ?_; conv => whnf)
    | (refine Or.inl (Or.inl (Exists.intro _ (And.intro (c_IsCharacteristic _ _ _ hl) ?_))); conv => whnf)
    | (refine Or.inl (Exists.intro _ (And.intro (c_IsCharacteristic _ _ _ hl) ?_)); conv => whnf)
    | (apply Exists.intro; refine And.intro (c_IsCharacteristic _ _ _ hl) ?_; conv => whnf)
    | (refine Or.inl (Or.inl (Exists.intro _ (And.intro (c_degree _ _ _ hl) ?_))); conv => whnf)
    | (refine Or.inl (Exists.intro _ (And.intro (c_degree _ _ _ hl) ?_)); conv => whnf)
    | (apply Exists.intro; refine And.intro (c_degree _ _ _ hl) ?_; conv => whnf)
    | (refine And.intro (fun h => ?_) (fun h => ?_) <;> (try simp only [cnt1, ints_length] at h) <;> conv => whnf)
    | (refine And.intro (show slotsOk _ = true by decide +kernel) ?_; conv => whnf)
    | (refine And.intro vOb ?_; conv => whnf)
    | fail
    | (apply Exists.intro; refine And.intro vObx ?_; conv => whnf)
    | fail
    | (refine Or.inl ?_; conv => whnf)
    | fail
  all_goals (refine congrArg dint ?_; simp_all [shortCode, charB])
  all_goals (intros; omega)
theorem c_l19Short (o : Bool) (m : Int) (l : List Int) (hl : l.length ≤ 1048576) : PureCall Try.prog 85 [.agg [dint m, .list o 1 (ints l)]] (dint (shortCode m l)) := by
  refine pure_of_vc Try.tabOk mixOrd Try.func85 rfl rfl ?_
  conv => whnf
  repeat' first
    | (refine And.intro (Or.inl rfl) ?_; conv => whnf)
    | (refine Or.inl (Or.inl (Exists.intro _ (And.intro (c_l19Is _ _ _ hl) ?_))); conv => whnf)
    | (refine Or.inl (Exists.intro _ (And.intro (c_l19Is _ _ _ hl) ?_)); conv => whnf)
    | (apply Exists.intro; refine And.intro (c_l19Is _ _ _ hl) ?_; conv => whnf)
    | (refine Or.inl (Or.inl (Exists.intro _ (And.intro (c_l02Degree _ _ _ hl) ?_))); conv => whnf)
    | (refine Or.inl (Exists.intro _ (And.intro (c_l02Degree _ _ _ hl) ?_)); conv => whnf)
    | (apply Exists.intro; refine And.intro (c_l02Degree _ _ _ hl) ?_; conv => whnf)
    | (refine And.intro (fun h => ?_) (fun h => ?_) <;> (try simp only [cnt1, ints_length] at h) <;> conv => whnf)
    | (refine And.intro (show slotsOk _ = true by decide +kernel) ?_; conv => whnf)
    | (refine And.intro vOb ?_; conv => whnf)
    | fail
    | (apply Exists.intro; refine And.intro vObx ?_; conv => whnf)
    | fail
    | (refine Or.inl ?_; conv => whnf)
    | fail
  all_goals (refine congrArg dint ?_; simp_all [shortCode, charB])
  all_goals (intros; omega)
theorem c_exponentialOf (hm : Md m) (o : Bool) (n : Nat) (hn : 2 ≤ n ∧ n ≤ 50) (a : PS (Zm m)) : PureCall Try.prog 91 [SerD m o n a] (SerD m true (n + 1) (expG a)) := by
  refine pure_of_vc Try.tabOk mixOrd Try.func91 rfl rfl ?_
  conv => whnf
  repeat' first
    | (refine And.intro (Or.inl rfl) ?_; conv => whnf)
    | (refine Or.inl (Or.inl (Exists.intro _ (And.intro (c_inverseU hm _ n vAr _) ?_))); conv => whnf)
    | (refine Or.inl (Exists.intro _ (And.intro (c_inverseU hm _ n vAr _) ?_)); conv => whnf)
    | (apply Exists.intro; refine And.intro (c_inverseU hm _ n vAr _) ?_; conv => whnf)
    | (refine And.intro (fun h => ?_) (fun h => ?_) <;> (try simp only [cnt1, ints_length] at h) <;> conv => whnf)
    | (refine And.intro (show slotsOk _ = true by decide +kernel) ?_; conv => whnf)
    | (refine And.intro vOb ?_; conv => whnf)
    | fail
    | (apply Exists.intro; refine And.intro vObx ?_; conv => whnf)
    | fail
    | (refine Or.inl ?_; conv => whnf)
    | fail
  refine And.intro (plain_cons _ _) ?_
  conv => whnf
  repeat' first
    | (refine And.intro (Or.inl rfl) ?_; conv => whnf)
    | (refine And.intro (fun h => ?_) (fun h => ?_) <;> (try simp only [cnt1, ints_length] at h) <;> conv => whnf)
    | (refine And.intro (show slotsOk _ = true by decide +kernel) ?_; conv => whnf)
    | (refine And.intro vOb ?_; conv => whnf)
    | fail
    | (apply Exists.intro; refine And.intro vObx ?_; conv => whnf)
    | fail
    | (refine Or.inl ?_; conv => whnf)
    | fail
  exact congrArg (fun x => D.agg [dint m, .list true 1 x]) (L_expG n _ a)
theorem c_l19Exponential (hm : Md m) (o : Bool) (n : Nat) (hn : 2 ≤ n ∧ n ≤ 50) (a : PS (Zm m)) : PureCall Try.prog 147 [SerD m o n a] (LD true (n + 1) (expG a)) := by
  refine pure_of_vc Try.tabOk mixOrd Try.func147 rfl rfl ?_
  conv => whnf
  repeat' first
    | (refine And.intro (Or.inl rfl) ?_; conv => whnf)
    | (refine Or.inl (Or.inl (Exists.intro _ (And.intro (c_l02InverseU hm _ n n vAr vAr vAr vAr _) ?_))); conv => whnf)
    | (refine Or.inl (Exists.intro _ (And.intro (c_l02InverseU hm _ n n vAr vAr vAr vAr _) ?_)); conv => whnf)
    | (apply Exists.intro; refine And.intro (c_l02InverseU hm _ n n vAr vAr vAr vAr _) ?_; conv => whnf)
    | (refine Or.inl (Or.inl (Exists.intro _ (And.intro (c_l02Degree _ _ _ vAr) ?_))); conv => whnf)
    | (refine Or.inl (Exists.intro _ (And.intro (c_l02Degree _ _ _ vAr) ?_)); conv => whnf)
    | (apply Exists.intro; refine And.intro (c_l02Degree _ _ _ vAr) ?_; conv => whnf)
    | (refine And.intro (fun h => ?_) (fun h => ?_) <;> (try simp only [cnt1, ints_length] at h) <;> conv => whnf)
    | (refine And.intro (show slotsOk _ = true by decide +kernel) ?_; conv => whnf)
    | (refine And.intro vOb ?_; conv => whnf)
    | fail
    | (apply Exists.intro; refine And.intro vObx ?_; conv => whnf)
    | fail
    | (refine Or.inl ?_; conv => whnf)
    | fail
  refine And.intro (plain_cons _ _) ?_
  conv => whnf
  repeat' first
    | (refine And.intro (Or.inl rfl) ?_; conv => whnf)
    | (refine And.intro (fun h => ?_) (fun h => ?_) <;> (try simp only [cnt1, ints_length] at h) <;> conv => whnf)
    | (refine And.intro (show slotsOk _ = true by decide +kernel) ?_; conv => whnf)
    | (refine And.intro vOb ?_; conv => whnf)
    | fail
    | (apply Exists.intro; refine And.intro vObx ?_; conv => whnf)
    | fail
    | (refine Or.inl ?_; conv => whnf)
    | fail
  exact congrArg (fun x => D.list true 1 x) (L_expG n _ a)
/-- What the law says of a zero series. -/
def zserD : D := .agg [dint 0, .lit (.slice none 0 0)]
def serRes (m : Int) (n : Nat) (a : PS (Zm m)) (code : Int) : D := if code = 0 then .tup [SerD m true n a, dint 0] else .tup [zserD, dint code]
theorem mk_l02Make : MakesAgg Try.prog 107 := fun m b n c => by
  refine pure_of_vc Try.tabOk mixOrd Try.func107 rfl rfl ?_
  conv => whnf
  repeat' first
    | (refine And.intro (Or.inl rfl) ?_; conv => whnf)
    | (refine And.intro (fun h => ?_) (fun h => ?_) <;> (try simp only [cnt1, ints_length] at h) <;> conv => whnf)
    | (refine And.intro (show slotsOk _ = true by decide +kernel) ?_; conv => whnf)
    | (refine And.intro vOb ?_; conv => whnf)
    | fail
    | (apply Exists.intro; refine And.intro vObx ?_; conv => whnf)
    | fail
    | (refine Or.inl ?_; conv => whnf)
    | fail
theorem subd_nil2 : SubD (.agg [dint 0, .lit (.slice none 0 0)]) (.agg [dint 0, .list false 1 (ints [])]) := by
  refine SubD.agg rfl (fun i d d' h h' => ?_)
  match i, h, h' with
  | 0, h, h' => simp at h h'; subst h; subst h'; exact SubD.rfl _
  | 1, h, h' => simp at h h'; subst h; subst h'; exact SubD.nil _ _
  | n + 2, h, h' => simp at h
theorem c_eqSeriesNil : PureCall Try.prog 30 [.agg [dint 0, .lit (.slice none 0 0)], .agg [dint 0, .lit (.slice none 0 0)]] (dbool true) := by
  refine (c_eqSeries false false 0 0 [] [] (by simp)).mono rfl (fun i d d' h h' => ?_)
  match i, h, h' with
  | 0, h, h' => simp at h h'; subst h; subst h'; exact subd_nil2
  | 1, h, h' => simp at h h'; subst h; subst h'; exact subd_nil2
  | n + 2, h, h' => simp at h
theorem c_heldSeries (o : Bool) (m k : Int) (n : Nat) (hk : 0 ≤ k ∧ k + n ≤ 4611686018427387904) : PureCall Try.prog 49 [.agg [dint m, .list o 1 (ints (marks k n))], dint k] (dint (k + n)) := by
  refine pure_of_vc Try.tabOk mixOrd Try.func49 rfl rfl ?_
  conv => whnf
  repeat' first
    | (refine And.intro (Or.inl rfl) ?_; conv => whnf)
    | (refine Or.inl (Or.inl (Exists.intro _ (And.intro (c_heldInt64S _ _ _ hk) ?_))); conv => whnf)
    | (refine Or.inl (Exists.intro _ (And.intro (c_heldInt64S _ _ _ hk) ?_)); conv => whnf)
    | (apply Exists.intro; refine And.intro (c_heldInt64S _ _ _ hk) ?_; conv => whnf)
    | (refine And.intro (fun h => ?_) (fun h => ?_) <;> (try simp only [cnt1, ints_length] at h) <;> conv => whnf)
    | (refine And.intro (show slotsOk _ = true by decide +kernel) ?_; conv => whnf)
    | (refine And.intro vOb ?_; conv => whnf)
    | fail
    | (apply Exists.intro; refine And.intro vObx ?_; conv => whnf)
    | fail
    | (refine Or.inl ?_; conv => whnf)
    | fail
  exfalso; omega
theorem c_heldSeriesNil (k : Int) (hk : 0 ≤ k ∧ k ≤ 4611686018427387904) : PureCall Try.prog 49 [.agg [dint 0, .lit (.slice none 0 0)], dint k] (dint k) := by
  have := c_heldSeries false 0 k 0 (by omega)
  rw [show k + ((0 : Nat) : Int) = k by omega] at this
  refine this.mono rfl (fun i d d' h h' => ?_)
  match i, h, h' with
  | 0, h, h' => simp at h h'; subst h; subst h'; exact subd_nil2
  | 1, h, h' => simp at h h'; subst h; subst h'; exact SubD.rfl _
  | n + 2, h, h' => simp at h
end Go.Proofs

