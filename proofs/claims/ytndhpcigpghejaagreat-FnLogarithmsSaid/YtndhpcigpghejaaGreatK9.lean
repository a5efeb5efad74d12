import Derived.Test.YtndhpcigpghejaaGreatK2
import Derived.Test.YtndhpcigpghejaaGreatK3
import Derived.Test.YtndhpcigpghejaaGreatK1
import Derived.Test.YtndhpcigpghejaaGreatAlg7
import Derived.Test.YtndhpcigpghejaaGreatVm32
namespace Go.Proofs
open Go Go.Vm Go.Fg Go.Fg.PS
set_option maxRecDepth 100000
set_option maxHeartbeats 4000000
set_option linter.unusedSimpArgs false
set_option linter.unusedVariables false
theorem tdiv_nat (a b : Nat) : ((a : Int)).tdiv (b : Int) = ((a / b : Nat) : Int) := by
 rw [Int.tdiv_eq_ediv_of_nonneg (by omega)]; rfl
theorem eu_qs (e : Eu) : ((e.r / e.s : Nat) : Int) * (e.s : Int) = ((e.r / e.s * e.s : Nat) : Int) := by rw [Int.natCast_mul]
theorem eu_qs_le (e : Eu) : e.r / e.s * e.s ≤ e.r := Nat.div_mul_le_self _ _
theorem eu_qY (e : Eu) : ((e.r / e.s : Nat) : Int) * e.Y = sg (!e.b) (e.r / e.s * e.y) := by
 unfold Eu.Y
 cases e.b
 · simp only [sg, Bool.not_false, if_true, Int.natCast_mul]
 · simp only [sg, Bool.not_true, Bool.false_eq_true, if_false, Int.natCast_mul, Int.mul_neg]
theorem eu_facts {m : Int} (hm : Md m) {e : Eu} (he : e.Ok m.toNat) (hs : e.s ≠ 0) :
   inR .i64 ((e.r / e.s : Nat) : Int) ∧ inR .i64 (((e.r / e.s : Nat) : Int) * e.s) ∧ inR .i64 ((e.r : Int) - ((e.r / e.s : Nat) : Int) * e.s) ∧ inR .i64 (((e.r / e.s : Nat) : Int) * e.Y) ∧ inR .i64 (e.X - ((e.r / e.s : Nat) : Int) * e.Y) := by
 have h1 := hm.1
 have h2 := hm.2
 have h3 := he.2.2.1
 have h4 := Eu.qy_le he hs
 have h5 := Eu.x_le he hs
 have h6 := eu_qs_le e
 have h7 : e.r / e.s ≤ e.r := Nat.div_le_self _ _
 have h8 := sg_le (!e.b) (e.r / e.s * e.y)
 have h9 := sg_le e.b e.x
 rw [eu_qs, eu_qY]
 unfold Eu.X
 generalize sg (!e.b) (e.r / e.s * e.y) = A at *
 generalize sg e.b e.x = B at *
 generalize e.r / e.s * e.y = C at *
 generalize e.r / e.s * e.s = E at *
 generalize e.r / e.s = q at *
 exact ⟨inR64 (by omega) (by omega), inR64 (by omega) (by omega), inR64 (by omega) (by omega), inR64 (by omega) (by omega), inR64 (by omega) (by omega)⟩
theorem eu_end {m a : Int} {e : Eu} (hr : e.run = (eu0 m a).run) (hs : e.s = 0) : e.X % m = (invN m a).val := by
 rw [Eu.run_zero hs] at hr
 unfold invN
 rw [Zm.val_mk, hr]
theorem c_inverse {m : Int} (hm : Md m) (a : Int) : PureCall Tryz.prog 343 [dint m, dint a] (dint (invN m a).val) := by
 have hm1 := hm.1
 have hm2 := hm.2
 have ha := Int.emod_nonneg a (show m ≠ 0 by omega)
 have ha2 := Int.emod_lt_of_pos a (show 0 < m by omega)
 refine pure_of_vc Tryz.tabOk mixOrd Tryz.func343 rfl rfl ?_
 conv => whnf
 repeat' first | ((first | refine z0 ?_ | (apply zI; refine zP (c_mod _ _ hm.pos (by omega)) ?_) | (refine And.intro (fun h => ?_) (fun h => ?_) <;> (try simp only [cnt1, ints_length] at h)) | refine zS ?_ | refine zV ?_ | (apply zI; refine zP vObx ?_) | refine Alt.fst ?_ | refine Or.inl ?_) <;> conv => whnf) | fail
 refine loop_at Tryz.tabOk mixOrd (α := Eu) (fun e => [(5, dint e.X), (6, dint e.Y), (7, dint e.r), (8, dint e.s)]) (fun e => []) (fun e => e.Ok m.toNat ∧ e.run = (eu0 m a).run) (fun e => e.s) (eu0 m a) ?_ ?_ ?_
 · exact ⟨eu0_ok hm.1, rfl⟩
 · conv => whnf
   first | refine WeakS.auto ?_ | refine Weak.auto ?_
   conv => whnf
   repeat' ((first | refine z1 ?_ | refine z2 ?_ | refine zV ?_ | refine And.intro vRepl ?_ | refine And.intro vReplL ?_ | refine And.intro ?_ ?_ | exact trivial) <;> try (conv => whnf))
   · show m = ((m.toNat : Nat) : Int); omega
   · show a % m = (((a % m).toNat : Nat) : Int); omega
 intro e ⟨he, hr⟩
 conv => whnf
 repeat' first | ((first | refine z0 ?_ | (apply zI; refine zP (c_mod _ _ hm.pos (by omega)) ?_) | (refine And.intro (fun h => ?_) (fun h => ?_) <;> (try simp only [cnt1, ints_length] at h)) | refine zS ?_ | refine zV ?_ | (apply zI; refine zP vObx ?_) | refine Alt.fst ?_ | refine Or.inl ?_) <;> conv => whnf) | fail
 · have hs : e.s ≠ 0 := by omega
   obtain ⟨f1, f2, f3, f4, f5⟩ := eu_facts hm he hs
   rw [tdiv_nat]
   repeat' first | ((first | refine z0 ?_ | (apply zI; refine zP (c_mod _ _ hm.pos (by omega)) ?_) | (refine And.intro (fun h => ?_) (fun h => ?_) <;> (try simp only [cnt1, ints_length] at h)) | refine zS ?_ | refine zV ?_ | (apply zI; refine zP vObx ?_) | refine Alt.fst ?_ | refine Or.inl ?_) <;> conv => whnf) | fail
   refine Exists.intro e.next (And.intro ⟨Eu.next_ok he hs, (Eu.run_next hs).trans hr⟩ (And.intro (Eu.next_lt e hs) ?_))
   first | refine WeakS.auto ?_ | refine Weak.auto ?_
   conv => whnf
   repeat' ((first | refine z1 ?_ | refine z2 ?_ | refine zV ?_ | refine And.intro vRepl ?_ | refine And.intro vReplL ?_ | refine And.intro ?_ ?_ | exact trivial) <;> try (conv => whnf))
   all_goals first | exact (Eu.next_Y e).symm | exact (Eu.next_s e).symm
 · exact congrArg dint (eu_end hr (by omega))
theorem c_l01Inv {m : Int} (hm : Md m) (a : Int) : PureCall Tryz.prog 373 [dint m, dint a] (dint (invN m a).val) := by
 have hm1 := hm.1
 have hm2 := hm.2
 have ha := Int.emod_nonneg a (show m ≠ 0 by omega)
 have ha2 := Int.emod_lt_of_pos a (show 0 < m by omega)
 refine pure_of_vc Tryz.tabOk mixOrd Tryz.func373 rfl rfl ?_
 conv => whnf
 repeat' first | ((first | refine z0 ?_ | (apply zI; refine zP (c_l01Mod _ _ hm.pos (by omega)) ?_) | (refine And.intro (fun h => ?_) (fun h => ?_) <;> (try simp only [cnt1, ints_length] at h)) | refine zS ?_ | refine zV ?_ | (apply zI; refine zP vObx ?_) | refine Alt.fst ?_ | refine Or.inl ?_) <;> conv => whnf) | fail
 refine loop_at Tryz.tabOk mixOrd (α := Eu) (fun e => [(7, dint e.X), (8, dint e.Y), (5, dint e.r), (6, dint e.s)]) (fun e => []) (fun e => e.Ok m.toNat ∧ e.run = (eu0 m a).run) (fun e => e.s) (eu0 m a) ?_ ?_ ?_
 · exact ⟨eu0_ok hm.1, rfl⟩
 · conv => whnf
   first | refine WeakS.auto ?_ | refine Weak.auto ?_
   conv => whnf
   repeat' ((first | refine z1 ?_ | refine z2 ?_ | refine zV ?_ | refine And.intro vRepl ?_ | refine And.intro vReplL ?_ | refine And.intro ?_ ?_ | exact trivial) <;> try (conv => whnf))
   · show m = ((m.toNat : Nat) : Int); omega
   · show a % m = (((a % m).toNat : Nat) : Int); omega
 intro e ⟨he, hr⟩
 conv => whnf
 repeat' first | ((first | refine z0 ?_ | (apply zI; refine zP (c_l01Mod _ _ hm.pos (by omega)) ?_) | (refine And.intro (fun h => ?_) (fun h => ?_) <;> (try simp only [cnt1, ints_length] at h)) | refine zS ?_ | refine zV ?_ | (apply zI; refine zP vObx ?_) | refine Alt.fst ?_ | refine Or.inl ?_) <;> conv => whnf) | fail
 · have hs : e.s ≠ 0 := by omega
   obtain ⟨f1, f2, f3, f4, f5⟩ := eu_facts hm he hs
   rw [tdiv_nat]
   repeat' first | ((first | refine z0 ?_ | (apply zI; refine zP (c_l01Mod _ _ hm.pos (by omega)) ?_) | (refine And.intro (fun h => ?_) (fun h => ?_) <;> (try simp only [cnt1, ints_length] at h)) | refine zS ?_ | refine zV ?_ | (apply zI; refine zP vObx ?_) | refine Alt.fst ?_ | refine Or.inl ?_) <;> conv => whnf) | fail
   refine Exists.intro e.next (And.intro ⟨Eu.next_ok he hs, (Eu.run_next hs).trans hr⟩ (And.intro (Eu.next_lt e hs) ?_))
   first | refine WeakS.auto ?_ | refine Weak.auto ?_
   conv => whnf
   repeat' ((first | refine z1 ?_ | refine z2 ?_ | refine zV ?_ | refine And.intro vRepl ?_ | refine And.intro vReplL ?_ | refine And.intro ?_ ?_ | exact trivial) <;> try (conv => whnf))
   all_goals first | exact (Eu.next_Y e).symm | exact (Eu.next_s e).symm
 · exact congrArg dint (eu_end hr (by omega))
end Go.Proofs
namespace Go.Proofs
open Go Go.Vm Go.Fg
set_option maxRecDepth 100000
set_option maxHeartbeats 4000000
set_option linter.unusedSimpArgs false
set_option linter.unusedVariables false
end Go.Proofs
namespace Go.Proofs
open Go Go.Vm Go.Fg Go.Fg.PS
set_option maxRecDepth 100000
set_option maxHeartbeats 4000000
set_option linter.unusedSimpArgs false
set_option linter.unusedVariables false
variable {m : Int}
def zserD : D := .agg [dint 0, .lit (.slice none 0 0)]
def serRes (m : Int) (n : Nat) (a : PS (Zm m)) (code : Int) : D := if code = 0 then .tup [SerD m true n a, dint 0] else .tup [zserD, dint code]
theorem mk_l02Make : MakesAgg Tryz.prog 186 := fun m b n c => by
 refine pure_of_vc Tryz.tabOk mixOrd Tryz.func186 rfl rfl ?_
 conv => whnf
 repeat' first | ((first | refine z0 ?_ | (refine And.intro (fun h => ?_) (fun h => ?_) <;> (try simp only [cnt1, ints_length] at h)) | refine zS ?_ | refine zV ?_ | (apply zI; refine zP vObx ?_) | refine Alt.fst ?_ | refine Or.inl ?_) <;> conv => whnf) | fail
theorem c_inverseU (hm : Md m) (o : Bool) (n : Nat) (hn : 1 ≤ n ∧ n ≤ 100) (a : PS (Zm m)) : PureCall Tryz.prog 445 [SerD m o n a] (SerD m true n (inv (invN m (a.c 0).val) a)) :=
 c_inverseS hm o n hn a _ (c_inverse hm _)
theorem c_l02InverseU (hm : Md m) (o : Bool) (n na : Nat) {d : Int} (hd : d + 1 = n) (hn : 1 ≤ n ∧ n ≤ 100) (h1 : n ≤ na) (h3 : na ≤ 1048576) (a : PS (Zm m)) :
   PureCall Tryz.prog 352 [dint m, LD o na a, dint d] (LD true n (inv (invN m (a.c 0).val) a)) := c_l02Inverse hm o n na hd hn h1 h3 a _ (c_l01Inv hm _)
theorem c_reverseU (hm : Md m) (o : Bool) (n : Nat) (hn : 2 ≤ n ∧ n ≤ 100) (a : PS (Zm m)) : PureCall Tryz.prog 230 [SerD m o n a] (SerD m true n (rev (invN m (a.c 1).val) a)) :=
 c_reverseS hm o n hn a _ (c_inverse hm _)
theorem c_l02ReverseU (hm : Md m) (o : Bool) (n na : Nat) {d : Int} (hd : d + 1 = n) (hn : 2 ≤ n ∧ n ≤ 100) (h1 : n ≤ na) (h3 : na ≤ 1048576) (a : PS (Zm m)) :
   PureCall Tryz.prog 231 [dint m, LD o na a, dint d] (LD true n (rev (invN m (a.c 1).val) a)) := c_l02Reverse hm o n na hd hn h1 h3 a _ (c_l01Inv hm _)
end Go.Proofs
