/- Exponentials and logarithms of genera, and values on hypersurfaces. -/
import Derived.Test.YthpbaehnkmmkgaaGreatK7
import Derived.Test.YthpbaehnkmmkgaaGreatK4
import Derived.Test.YthpbaehnkmmkgaaGreatKS
namespace Go.Proofs
open Go Go.Vm Go.Fg Go.Fg.PS
set_option maxRecDepth 100000
set_option maxHeartbeats 4000000
set_option linter.unusedSimpArgs false
set_option linter.unusedVariables false
variable {m : Int}

theorem c_inverseU (hm : Md m) (o : Bool) (n : Nat) (hn : 1 ≤ n ∧ n ≤ 100) (a : PS (Zm m)) : PureCall Tryz.prog 176 [SerD m o n a] (SerD m true n (inv (invN m (a.c 0).val) a)) :=
  c_inverseS hm o n hn a _ (c_inverse hm _)
theorem c_l02InverseU (hm : Md m) (o : Bool) (n na : Nat) {d : Int} (hd : d + 1 = n) (hn : 1 ≤ n ∧ n ≤ 100) (h1 : n ≤ na) (h3 : na ≤ 1048576) (a : PS (Zm m)) :
    PureCall Tryz.prog 192 [dint m, LD o na a, dint d] (LD true n (inv (invN m (a.c 0).val) a)) := c_l02Inverse hm o n na hd hn h1 h3 a _ (c_l01Inv hm _)
theorem c_reverseU (hm : Md m) (o : Bool) (n : Nat) (hn : 2 ≤ n ∧ n ≤ 100) (a : PS (Zm m)) : PureCall Tryz.prog 165 [SerD m o n a] (SerD m true n (rev (invN m (a.c 1).val) a)) :=
  c_reverseS hm o n hn a _ (c_inverse hm _)
theorem c_l02ReverseU (hm : Md m) (o : Bool) (n na : Nat) {d : Int} (hd : d + 1 = n) (hn : 2 ≤ n ∧ n ≤ 100) (h1 : n ≤ na) (h3 : na ≤ 1048576) (a : PS (Zm m)) :
    PureCall Tryz.prog 199 [dint m, LD o na a, dint d] (LD true n (rev (invN m (a.c 1).val) a)) := c_l02Reverse hm o n na hd hn h1 h3 a _ (c_l01Inv hm _)

theorem plain_cons (x : Int) (l : List Int) : ∀ d ∈ [dint x] ++ ints l, PlainD d := fun d hd => ints_plain (x :: l) d hd
theorem L_expG (n : Nat) (u : Zm m) (a : PS (Zm m)) : [dint 0] ++ ints (L n (inv u a)) = ints (L (n + 1) (PS.C 0 + PS.X * inv u a)) := by
  rw [← L_cons, Zm.val_zero]; rfl
def expG (a : PS (Zm m)) : PS (Zm m) := PS.C 0 + PS.X * inv (invN m (a.c 0).val) a
def shortCode (m : Int) (l : List Int) : Int := if charB m l then (if l.length = 11 then 5 else 0) else 1
theorem shortCode_0 {m : Int} {l : List Int} (h : shortCode m l = 0) : charB m l = true ∧ l.length ≠ 11 := by
  unfold shortCode at h; split at h
  · split at h
    · omega
    · exact ⟨by assumption, by assumption⟩
  · omega
theorem c_lawful (o : Bool) (m : Int) (l : List Int) (hl : l.length ≤ 1048576) : PureCall Tryz.prog 163 [.agg [dint m, .list o 1 (ints l)]] (dint (shortCode m l)) := by
  refine pure_of_vc Tryz.tabOk mixOrd Tryz.func163 rfl rfl ?_
  conv => whnf
  repeat' first | ((first | refine z0 ?_ | (apply zI; refine zP (c_IsCharacteristic _ _ _ hl) ?_) | (apply zI; refine zP (c_degree _ _ _ hl) ?_) | (refine And.intro (fun h => ?_) (fun h => ?_) <;> (try simp only [cnt1, ints_length] at h)) | refine zS ?_ | refine zV ?_ | (apply zI; refine zP vObx ?_) | refine Alt.fst ?_ | refine Or.inl ?_) <;> conv => whnf) | fail
  all_goals (refine congrArg dint ?_; simp_all [shortCode, charB])
  all_goals (intros; omega)
theorem c_l19Short (o : Bool) (m : Int) (l : List Int) (hl : l.length ≤ 1048576) : PureCall Tryz.prog 223 [.agg [dint m, .list o 1 (ints l)]] (dint (shortCode m l)) := by
  refine pure_of_vc Tryz.tabOk mixOrd Tryz.func223 rfl rfl ?_
  conv => whnf
  repeat' first | ((first | refine z0 ?_ | (apply zI; refine zP (c_l19Is _ _ _ hl) ?_) | (apply zI; refine zP (c_l02Degree _ _ _ hl) ?_) | (refine And.intro (fun h => ?_) (fun h => ?_) <;> (try simp only [cnt1, ints_length] at h)) | refine zS ?_ | refine zV ?_ | (apply zI; refine zP vObx ?_) | refine Alt.fst ?_ | refine Or.inl ?_) <;> conv => whnf) | fail
  all_goals (refine congrArg dint ?_; simp_all [shortCode, charB])
  all_goals (intros; omega)
theorem c_exponentialOf (hm : Md m) (o : Bool) (n : Nat) (hn : 2 ≤ n ∧ n ≤ 50) (a : PS (Zm m)) : PureCall Tryz.prog 164 [SerD m o n a] (SerD m true (n + 1) (expG a)) := by
  refine pure_of_vc Tryz.tabOk mixOrd Tryz.func164 rfl rfl ?_
  conv => whnf
  repeat' first | ((first | refine z0 ?_ | (apply zI; refine zP (c_inverseU hm _ n vAr _) ?_) | (refine And.intro (fun h => ?_) (fun h => ?_) <;> (try simp only [cnt1, ints_length] at h)) | refine zS ?_ | refine zV ?_ | (apply zI; refine zP vObx ?_) | refine Alt.fst ?_ | refine Or.inl ?_) <;> conv => whnf) | fail
  refine And.intro (plain_cons _ _) ?_
  conv => whnf
  repeat' first | ((first | refine z0 ?_ | (refine And.intro (fun h => ?_) (fun h => ?_) <;> (try simp only [cnt1, ints_length] at h)) | refine zS ?_ | refine zV ?_ | (apply zI; refine zP vObx ?_) | refine Alt.fst ?_ | refine Or.inl ?_) <;> conv => whnf) | fail
  exact congrArg (fun x => D.agg [dint m, .list true 1 x]) (L_expG n _ a)
theorem c_l19Exponential (hm : Md m) (o : Bool) (n : Nat) (hn : 2 ≤ n ∧ n ≤ 50) (a : PS (Zm m)) : PureCall Tryz.prog 366 [SerD m o n a] (LD true (n + 1) (expG a)) := by
  refine pure_of_vc Tryz.tabOk mixOrd Tryz.func366 rfl rfl ?_
  conv => whnf
  repeat' first | ((first | refine z0 ?_ | (apply zI; refine zP (c_l02InverseU hm _ n n vAr vAr vAr vAr _) ?_) | (apply zI; refine zP (c_l02Degree _ _ _ vAr) ?_) | (refine And.intro (fun h => ?_) (fun h => ?_) <;> (try simp only [cnt1, ints_length] at h)) | refine zS ?_ | refine zV ?_ | (apply zI; refine zP vObx ?_) | refine Alt.fst ?_ | refine Or.inl ?_) <;> conv => whnf) | fail
  refine And.intro (plain_cons _ _) ?_
  conv => whnf
  repeat' first | ((first | refine z0 ?_ | (refine And.intro (fun h => ?_) (fun h => ?_) <;> (try simp only [cnt1, ints_length] at h)) | refine zS ?_ | refine zV ?_ | (apply zI; refine zP vObx ?_) | refine Alt.fst ?_ | refine Or.inl ?_) <;> conv => whnf) | fail
  exact congrArg (fun x => D.list true 1 x) (L_expG n _ a)
end Go.Proofs

