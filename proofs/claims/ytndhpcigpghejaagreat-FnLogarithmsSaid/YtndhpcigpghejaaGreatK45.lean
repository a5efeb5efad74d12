import Derived.Test.YtndhpcigpghejaaGreatK133
import Derived.Test.YtndhpcigpghejaaGreatK31
import Derived.Test.YtndhpcigpghejaaGreatK140
import Derived.Test.YtndhpcigpghejaaGreatK13
import Derived.Test.YtndhpcigpghejaaGreatK132
import Derived.Test.YtndhpcigpghejaaGreatK154
import Derived.Test.YtndhpcigpghejaaGreatK125
import Derived.Test.YtndhpcigpghejaaGreatK135C
import Derived.Test.YtndhpcigpghejaaGreatKP
import Derived.Test.YtndhpcigpghejaaGreatK9
import Derived.Test.YtndhpcigpghejaaGreatK22
import Derived.Test.YtndhpcigpghejaaGreatK79
import Derived.Test.YtndhpcigpghejaaGreatAlg24
import Derived.Test.YtndhpcigpghejaaGreatK138
import Derived.Test.YtndhpcigpghejaaGreatAlg9
namespace Go.Proofs
open Go Go.Vm Go.Fg Go.Fg.PS
set_option linter.unusedVariables false
theorem wei : Wei := fun _ hm n hn _ hd o a => ⟨wF n a, c_l08Weierstrass hm o n hn hd a⟩
end Go.Proofs
namespace Go.Proofs
open Go Go.Vm Go.Fg Go.Fg.PS
set_option maxRecDepth 100000
set_option maxHeartbeats 4000000
set_option linter.unusedSimpArgs false
set_option linter.unusedVariables false
variable {m : Int}
theorem serB_LX (hm : Md m) {n : Nat} (hn : 2 ≤ n ∧ n ≤ 11) (a : PS (Zm m)) : serB m (L n a) = true := by
 simp only [serB, Bool.and_eq_true]
 refine ⟨⟨?_, ?_⟩, ?_⟩
 · simpa [inB, Md] using hm
 · simp [inB]; omega
 · refine numsB_of (fun j hj => ?_)
   rw [L_getD _ (by simpa using hj)]
   have := Zm.val_range hm.pos (a.c j)
   simp [inB]; omega
end Go.Proofs
namespace Go.Proofs
open Go Go.Vm Go.Fg Go.Fg.PS
set_option maxRecDepth 100000
set_option maxHeartbeats 4000000
set_option linter.unusedSimpArgs false
set_option linter.unusedVariables false
open Classical in
noncomputable def exC (m : Int) (t : List (List Int)) (m' : Int) (t' : List (List Int)) : Int := if twC m t m' t' = 0 then (if t.length = 2 then 2 else if agr (rd2 m t) (rd2 m t') t.length < t.length - 1 then 5 else 0) else twC m t m' t'
end Go.Proofs
namespace Go.Proofs
open Go Go.Vm Go.Fg Go.Fg.PS
set_option maxRecDepth 100000
set_option maxHeartbeats 4000000
set_option linter.unusedSimpArgs false
set_option linter.unusedVariables false
variable {m : Int}
theorem sub_intsT {l : List Int} {off n : Nat} : sub (ints l) 1 off n = ints ((l.drop off).take n) := by
 unfold sub ints
 rw [Nat.mul_one, Nat.mul_one, ← List.map_drop, ← List.map_take]
theorem fz_li {r off n : Nat} {t t' : List Int} (h1 : off + n ≤ t.length) (h2 : (t.drop off).take n = t') : Fz r (ints t) (.ref r [] 1 off n) (.list false 1 (ints t')) :=
 .ref _ _ _ _ (by rw [Nat.mul_one, Nat.mul_one, ints_length]; exact h1) (by rw [sub_intsT, ints_frz, h2])
theorem fz_agg2 {r : Nat} {cs : List D} {a b b' : D} (h : Fz r cs b b') : Fz r cs (.agg [a, b]) (.agg [a, b']) :=
 .agg _ _ rfl (fun i d d' hd hd' => by
   match i, hd, hd' with
   | 0, hd, hd' => simp at hd hd'; subst hd; subst hd'; exact .rfl _
   | 1, hd, hd' => simp at hd hd'; subst hd; subst hd'; exact h
   | i + 2, hd, hd' => simp at hd)
theorem fz_se {r off n : Nat} {t t' : List Int} (h1 : off + n ≤ t.length) (h2 : (t.drop off).take n = t') {x : D} : Fz r (ints t) (.agg [x, .ref r [] 1 off n]) (.agg [x, .list false 1 (ints t')]) := fz_agg2 (fz_li h1 h2)
abbrev seF (m : Int) (l : List Int) : D := .agg [dint m, .list false 1 (ints l)]
def lawG (n : Nat) (a : PS (Zm m)) : PS (PS (Zm m)) := comp2N (rev (invN m (a.c 1).val) a) (axX a + axY a) 0 n
theorem c_lawOf (hm : Md m) (o : Bool) (n : Nat) (hn : 2 ≤ n ∧ n ≤ 50) (a : PS (Zm m)) : PureCall Tryz.prog 249 [SerD m o n a] (PlD m true true n (lawG n a)) := by
 refine pure_of_vcR Tryz.tabOk mixOrd Tryz.func249 rfl rfl ?_
 conv => whnf
 repeat' first | ((first | refine z0 ?_ | (apply zI; refine zP (c_reverseU hm _ n vAr a) ?_) | (apply zI; refine zP (c_onAxis0 hm _ n vAr _) ?_) | (apply zI; refine zP (c_onAxis1 hm _ n vAr _) ?_) | (apply zI; refine zP (c_plusP hm _ _ _ _ n vAr _ _) ?_) | (apply zI; refine zP (c_of hm _ _ _ n vAr _ _) ?_) | (refine And.intro (fun h => ?_) (fun h => ?_) <;> (try simp only [cnt1, ints_length] at h)) | refine zS ?_ | refine zV ?_ | (apply zI; refine zP vObt ?_) | (apply zI; refine zP vObx ?_) | refine zA ?_ | refine Alt.fst ?_ | refine Or.inl ?_) <;> conv => whnf) | fail
 rfl
end Go.Proofs
namespace Go.Proofs
open Go Go.Vm Go.Fg Go.Fg.PS
set_option maxRecDepth 100000
set_option maxHeartbeats 4000000
set_option linter.unusedSimpArgs false
set_option linter.unusedVariables false
end Go.Proofs
namespace Go.Proofs
open Go Go.Vm Go.Fg Go.Fg.PS
set_option maxRecDepth 100000
set_option maxHeartbeats 4000000
set_option linter.unusedSimpArgs false
set_option linter.unusedVariables false
variable {m : Int}
end Go.Proofs
namespace Go.Proofs
open Go Go.Vm Go.Fg Go.Fg.PS
set_option maxRecDepth 100000
set_option maxHeartbeats 4000000
set_option linter.unusedSimpArgs false
set_option linter.unusedVariables false
def tbq {m : Int} (q : Nat) (f : PS (PS (Zm m))) (k : Nat) : List D := (List.range k).map fun c => .list true 1 (rows true (sqT q (pw f c)))
@[simp] theorem tbq_length {m : Int} (q : Nat) (f : PS (PS (Zm m))) (k : Nat) : (tbq q f k).length = k := by simp [tbq]
end Go.Proofs
namespace Go.Proofs
open Go Go.Vm Go.Fg Go.Fg.PS
set_option maxRecDepth 100000
set_option maxHeartbeats 4000000
set_option linter.unusedSimpArgs false
set_option linter.unusedVariables false
variable {m : Int}
theorem c_copyOf (o : Bool) (l : List Int) (hl : l.length ≤ 1048576) : PureCall Tryz.prog 210 [.list o 1 (ints l)] (.list true 1 (ints l)) := by
 refine pure_of_vcR Tryz.tabOk mixOrd Tryz.func210 rfl rfl ?_
 conv => whnf
 repeat' first | ((first | refine z0 ?_ | (refine And.intro (fun h => ?_) (fun h => ?_) <;> (try simp only [cnt1, ints_length] at h)) | refine zS ?_ | refine zV ?_ | (apply zI; refine zP vObt ?_) | (apply zI; refine zP vObx ?_) | refine zA ?_ | refine Alt.fst ?_ | refine Or.inl ?_) <;> conv => whnf) | fail
 rfl
end Go.Proofs
