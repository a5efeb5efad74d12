import Derived.Test.YthpbaehnkmmkgaaGreatK2
import Derived.Test.YthpbaehnkmmkgaaGreatK3
import Derived.Test.YthpbaehnkmmkgaaGreatK1
import Derived.Test.YthpbaehnkmmkgaaGreatAlg7
import Derived.Test.YthpbaehnkmmkgaaGreatVm32
namespace Go.Proofs
open Go Go.Vm Go.Fg Go.Fg.PS
set_option maxRecDepth 100000
set_option maxHeartbeats 4000000
set_option linter.unusedSimpArgs false
set_option linter.unusedVariables false
theorem tdiv_nat (a b : Nat) : ((a : Int)).tdiv (b : Int) = ((a / b : Nat) : Int) := by
 rw [Int.tdiv_eq_ediv_of_nonneg (by omega)]; rfl
theorem eu_qs (e : Eu) : ((e.r / e.s : Nat) : Int) * (e.s : Int) = ((e.r / e.s * e.s : Nat) : Int) := by rw [Int.natCast_mul]
theorem eu_qs_le (e : Eu) : e.r / e.s * e.s ≤ e.r := Nat.div_mul_le_self _ _
theorem eu_qY (e : Eu) : ((e.r / e.s : Nat) : Int) * e.Y = sg (!e.b) (e.r / e.s * e.y) := by
 unfold Eu.Y
 cases e.b
 · simp only [sg, Bool.not_false, if_true, Int.natCast_mul]
 · simp only [sg, Bool.not_true, Bool.false_eq_true, if_false, Int.natCast_mul, Int.mul_neg]
theorem eu_facts {m : Int} (hm : Md m) {e : Eu} (he : e.Ok m.toNat) (hs : e.s ≠ 0) :
   inR .i64 ((e.r / e.s : Nat) : Int) ∧ inR .i64 (((e.r / e.s : Nat) : Int) * e.s) ∧ inR .i64 ((e.r : Int) - ((e.r / e.s : Nat) : Int) * e.s) ∧ inR .i64 (((e.r / e.s : Nat) : Int) * e.Y) ∧ inR .i64 (e.X - ((e.r / e.s : Nat) : Int) * e.Y) := by
 have h1 := hm.1
 have h2 := hm.2
 have h3 := he.2.2.1
 have h4 := Eu.qy_le he hs
 have h5 := Eu.x_le he hs
 have h6 := eu_qs_le e
 have h7 : e.r / e.s ≤ e.r := Nat.div_le_self _ _
 have h8 := sg_le (!e.b) (e.r / e.s * e.y)
 have h9 := sg_le e.b e.x
 rw [eu_qs, eu_qY]
 unfold Eu.X
 generalize sg (!e.b) (e.r / e.s * e.y) = A at *
 generalize sg e.b e.x = B at *
 generalize e.r / e.s * e.y = C at *
 generalize e.r / e.s * e.s = E at *
 generalize e.r / e.s = q at *
 exact ⟨inR64 (by omega) (by omega), inR64 (by omega) (by omega), inR64 (by omega) (by omega), inR64 (by omega) (by omega), inR64 (by omega) (by omega)⟩
theorem eu_end {m a : Int} {e : Eu} (hr : e.run = (eu0 m a).run) (hs : e.s = 0) : e.X % m = (invN m a).val := by
 rw [Eu.run_zero hs] at hr
 unfold invN
 rw [Zm.val_mk, hr]
theorem c_inverse {m : Int} (hm : Md m) (a : Int) : PureCall Tryz.prog 217 [dint m, dint a] (dint (invN m a).val) := by
 have hm1 := hm.1
 have hm2 := hm.2
 have ha := Int.emod_nonneg a (show m ≠ 0 by omega)
 have ha2 := Int.emod_lt_of_pos a (show 0 < m by omega)
 refine pure_of_vc Tryz.tabOk mixOrd Tryz.func217 rfl rfl ?_
 conv => whnf
 repeat' first | ((first | refine z0 ?_ | (apply zI; refine zP (c_mod _ _ hm.pos (by omega)) ?_) | (refine And.intro (fun h => ?_) (fun h => ?_) <;> (try simp only [cnt1, ints_length] at h)) | refine zS ?_ | refine zV ?_ | (apply zI; refine zP vObx ?_) | refine Alt.fst ?_ | refine Or.inl ?_) <;> conv => whnf) | fail
 refine loop_at Tryz.tabOk mixOrd (α := Eu) (fun e => [(5, dint e.X), (6, dint e.Y), (7, dint e.r), (8, dint e.s)]) (fun e => []) (fun e => e.Ok m.toNat ∧ e.run = (eu0 m a).run) (fun e => e.s) (eu0 m a) ?_ ?_ ?_
 · exact ⟨eu0_ok hm.1, rfl⟩
 · conv => whnf
   first | refine WeakS.auto ?_ | refine Weak.auto ?_
   conv => whnf
   repeat' ((first | refine z1 ?_ | refine z2 ?_ | refine zV ?_ | refine And.intro vRepl ?_ | refine And.intro vReplL ?_ | refine And.intro ?_ ?_ | exact trivial) <;> try (conv => whnf))
   · show m = ((m.toNat : Nat) : Int); omega
   · show a % m = (((a % m).toNat : Nat) : Int); omega
 intro e ⟨he, hr⟩
 conv => whnf
 repeat' first | ((first | refine z0 ?_ | (apply zI; refine zP (c_mod _ _ hm.pos (by omega)) ?_) | (refine And.intro (fun h => ?_) (fun h => ?_) <;> (try simp only [cnt1, ints_length] at h)) | refine zS ?_ | refine zV ?_ | (apply zI; refine zP vObx ?_) | refine Alt.fst ?_ | refine Or.inl ?_) <;> conv => whnf) | fail
 · have hs : e.s ≠ 0 := by omega
   obtain ⟨f1, f2, f3, f4, f5⟩ := eu_facts hm he hs
   rw [tdiv_nat]
   repeat' first | ((first | refine z0 ?_ | (apply zI; refine zP (c_mod _ _ hm.pos (by omega)) ?_) | (refine And.intro (fun h => ?_) (fun h => ?_) <;> (try simp only [cnt1, ints_length] at h)) | refine zS ?_ | refine zV ?_ | (apply zI; refine zP vObx ?_) | refine Alt.fst ?_ | refine Or.inl ?_) <;> conv => whnf) | fail
   refine Exists.intro e.next (And.intro ⟨Eu.next_ok he hs, (Eu.run_next hs).trans hr⟩ (And.intro (Eu.next_lt e hs) ?_))
   first | refine WeakS.auto ?_ | refine Weak.auto ?_
   conv => whnf
   repeat' ((first | refine z1 ?_ | refine z2 ?_ | refine zV ?_ | refine And.intro vRepl ?_ | refine And.intro vReplL ?_ | refine And.intro ?_ ?_ | exact trivial) <;> try (conv => whnf))
   all_goals first | exact (Eu.next_Y e).symm | exact (Eu.next_s e).symm
 · exact congrArg dint (eu_end hr (by omega))
theorem c_l01Inv {m : Int} (hm : Md m) (a : Int) : PureCall Tryz.prog 221 [dint m, dint a] (dint (invN m a).val) := by
 have hm1 := hm.1
 have hm2 := hm.2
 have ha := Int.emod_nonneg a (show m ≠ 0 by omega)
 have ha2 := Int.emod_lt_of_pos a (show 0 < m by omega)
 refine pure_of_vc Tryz.tabOk mixOrd Tryz.func221 rfl rfl ?_
 conv => whnf
 repeat' first | ((first | refine z0 ?_ | (apply zI; refine zP (c_l01Mod _ _ hm.pos (by omega)) ?_) | (refine And.intro (fun h => ?_) (fun h => ?_) <;> (try simp only [cnt1, ints_length] at h)) | refine zS ?_ | refine zV ?_ | (apply zI; refine zP vObx ?_) | refine Alt.fst ?_ | refine Or.inl ?_) <;> conv => whnf) | fail
 refine loop_at Tryz.tabOk mixOrd (α := Eu) (fun e => [(7, dint e.X), (8, dint e.Y), (5, dint e.r), (6, dint e.s)]) (fun e => []) (fun e => e.Ok m.toNat ∧ e.run = (eu0 m a).run) (fun e => e.s) (eu0 m a) ?_ ?_ ?_
 · exact ⟨eu0_ok hm.1, rfl⟩
 · conv => whnf
   first | refine WeakS.auto ?_ | refine Weak.auto ?_
   conv => whnf
   repeat' ((first | refine z1 ?_ | refine z2 ?_ | refine zV ?_ | refine And.intro vRepl ?_ | refine And.intro vReplL ?_ | refine And.intro ?_ ?_ | exact trivial) <;> try (conv => whnf))
   · show m = ((m.toNat : Nat) : Int); omega
   · show a % m = (((a % m).toNat : Nat) : Int); omega
 intro e ⟨he, hr⟩
 conv => whnf
 repeat' first | ((first | refine z0 ?_ | (apply zI; refine zP (c_l01Mod _ _ hm.pos (by omega)) ?_) | (refine And.intro (fun h => ?_) (fun h => ?_) <;> (try simp only [cnt1, ints_length] at h)) | refine zS ?_ | refine zV ?_ | (apply zI; refine zP vObx ?_) | refine Alt.fst ?_ | refine Or.inl ?_) <;> conv => whnf) | fail
 · have hs : e.s ≠ 0 := by omega
   obtain ⟨f1, f2, f3, f4, f5⟩ := eu_facts hm he hs
   rw [tdiv_nat]
   repeat' first | ((first | refine z0 ?_ | (apply zI; refine zP (c_l01Mod _ _ hm.pos (by omega)) ?_) | (refine And.intro (fun h => ?_) (fun h => ?_) <;> (try simp only [cnt1, ints_length] at h)) | refine zS ?_ | refine zV ?_ | (apply zI; refine zP vObx ?_) | refine Alt.fst ?_ | refine Or.inl ?_) <;> conv => whnf) | fail
   refine Exists.intro e.next (And.intro ⟨Eu.next_ok he hs, (Eu.run_next hs).trans hr⟩ (And.intro (Eu.next_lt e hs) ?_))
   first | refine WeakS.auto ?_ | refine Weak.auto ?_
   conv => whnf
   repeat' ((first | refine z1 ?_ | refine z2 ?_ | refine zV ?_ | refine And.intro vRepl ?_ | refine And.intro vReplL ?_ | refine And.intro ?_ ?_ | exact trivial) <;> try (conv => whnf))
   all_goals first | exact (Eu.next_Y e).symm | exact (Eu.next_s e).symm
 · exact congrArg dint (eu_end hr (by omega))
end Go.Proofs
namespace Go.Proofs
open Go Go.Vm Go.Fg
set_option maxRecDepth 100000
set_option maxHeartbeats 4000000
set_option linter.unusedSimpArgs false
set_option linter.unusedVariables false
end Go.Proofs
namespace Go.Proofs
open Go Go.Vm Go.Fg Go.Fg.PS
set_option maxRecDepth 100000
set_option maxHeartbeats 4000000
set_option linter.unusedSimpArgs false
set_option linter.unusedVariables false
variable {m : Int}
def zserD : D := .agg [dint 0, .lit (.slice none 0 0)]
def serRes (m : Int) (n : Nat) (a : PS (Zm m)) (code : Int) : D := if code = 0 then .tup [SerD m true n a, dint 0] else .tup [zserD, dint code]
theorem mk_l02Make : MakesAgg Tryz.prog 201 := fun m b n c => by
 refine pure_of_vc Tryz.tabOk mixOrd Tryz.func201 rfl rfl ?_
 conv => whnf
 repeat' first | ((first | refine z0 ?_ | (refine And.intro (fun h => ?_) (fun h => ?_) <;> (try simp only [cnt1, ints_length] at h)) | refine zS ?_ | refine zV ?_ | (apply zI; refine zP vObx ?_) | refine Alt.fst ?_ | refine Or.inl ?_) <;> conv => whnf) | fail
theorem c_monomial (hm : Md m) {d k : Int} (n j : Nat) (c : Zm m) (hd : d + 1 = n) (hk : k = j) (hj : j < n) (hn : n ≤ 100) : PureCall Tryz.prog 331 [dint m, dint d, dint k, dint c.val] (SerD m true n (mono j c)) := by
 subst hk
 refine pure_of_vc Tryz.tabOk mixOrd Tryz.func331 rfl rfl ?_
 conv => whnf
 repeat' first | ((first | refine z0 ?_ | (apply zI; refine zP (c_zero n hd hn) ?_) | (refine And.intro (fun h => ?_) (fun h => ?_) <;> (try simp only [cnt1, ints_length] at h)) | refine zS ?_ | refine zV ?_ | (apply zI; refine zP vObx ?_) | refine Alt.fst ?_ | refine Or.inl ?_) <;> conv => whnf) | fail
 exact serD_congr (L_set_eq c rfl (fun i hi => by rw [upd_c, mono_c]; split <;> rfl))
theorem c_variable (n : Nat) {d : Int} (hd : d + 1 = n) (hn : 2 ≤ n ∧ n ≤ 100) (hm : Md m) : PureCall Tryz.prog 219 [dint m, dint d] (SerD m true n (PS.X : PS (Zm m))) := by
 have hm1 := hm.1
 refine pure_of_vc Tryz.tabOk mixOrd Tryz.func219 rfl rfl ?_
 conv => whnf
 repeat' first | ((first | refine z0 ?_ | (apply zI; refine zP (c_zero n hd vAr) ?_) | (refine And.intro (fun h => ?_) (fun h => ?_) <;> (try simp only [cnt1, ints_length] at h)) | refine zS ?_ | refine zV ?_ | (apply zI; refine zP vObx ?_) | refine Alt.fst ?_ | refine Or.inl ?_) <;> conv => whnf) | fail
 refine serD_congr (L_set_eq (1 : Zm m) (Zm.val_one (by omega)).symm (fun i hi => ?_))
 rw [upd_c, X_c]; split <;> rfl
def frc1 (d : D) (k : D → Prop) : Prop := match d with
 | .ref r p sz off n => forceN r fun r => k (.ref r p sz off n)
 | .ptr r p off => forceN r fun r => k (.ptr r p off)
 | .lit v => forceV v fun v => k (.lit v)
 | d => k d
def frcL (f : D → (D → Prop) → Prop) : List D → (List D → Prop) → Prop
 | [], k => k []
 | d :: ds, k => f d fun d => frcL f ds fun ds => k (d :: ds)
def frcT (f : D → (D → Prop) → Prop) (d : D) (k : D → Prop) : Prop := match d with
 | .agg ds => frcL f ds fun ds => k (.agg ds)
 | .tup ds => frcL f ds fun ds => k (.tup ds)
 | .fn g fs cs => frcL f fs fun fs => frcL f cs fun cs => k (.fn g fs cs)
 | d => frc1 d k
def frc (d : D) (k : D → Prop) : Prop := frcT (frcT (frcT frc1)) d k
def frcR : List (Option Root) → (List (Option Root) → Prop) → Prop
 | [], k => k []
 | none :: rs, k => frcR rs fun rs => k (none :: rs)
 | some ⟨true, sz, cs⟩ :: rs, k => frcL frc cs fun cs => frcR rs fun rs => k (some ⟨true, sz, cs⟩ :: rs)
 | some ⟨false, sz, cs⟩ :: rs, k => frcR rs fun rs => k (some ⟨false, sz, cs⟩ :: rs)
theorem frc1_eq (d : D) (k : D → Prop) : frc1 d k = k d := by
 unfold frc1; split <;> simp only [forceN_eq, forceV_eq]
theorem frcL_eq {f : D → (D → Prop) → Prop} (hf : ∀ d k, f d k = k d) : ∀ (ds : List D) (k : List D → Prop), frcL f ds k = k ds
 | [], k => rfl
 | d :: ds, k => by simp only [frcL, hf, frcL_eq hf ds]
theorem frcT_eq {f : D → (D → Prop) → Prop} (hf : ∀ d k, f d k = k d) (d : D) (k : D → Prop) : frcT f d k = k d := by
 unfold frcT; split <;> simp only [frcL_eq hf, frc1_eq]
theorem frc_eq (d : D) (k : D → Prop) : frc d k = k d := frcT_eq (frcT_eq (frcT_eq frc1_eq)) d k
theorem frcR_eq : ∀ (rs : List (Option Root)) (k : List (Option Root) → Prop), frcR rs k = k rs
 | [], k => rfl
 | none :: rs, k => by simp only [frcR, frcR_eq rs]
 | some ⟨true, sz, cs⟩ :: rs, k => by simp only [frcR, frcL_eq frc_eq, frcR_eq rs]
 | some ⟨false, sz, cs⟩ :: rs, k => by simp only [frcR, frcR_eq rs]
theorem bor_of {P : Program} {p : Prop} {g : Nat} {fs cs args argsB : List D} {rt rtB : List (Option Root)} {K KB : D → List (Option Root) → Prop} {kp : Nat} (σ : List Nat) (h : CallsTo P g kp args (none :: rt) K) (hkp : 1 ≤ kp ∧ kp ≤ σ.length + 1)
   (hent : chk (Go.Vm.distinct (sigN σ)) (wkL (sigN σ) args (fs ++ argsB ++ cs) (wkRoots (sigN σ) rtB (sigN σ) (none :: rt) True)))
   (hK : ∀ d rt', K d rt' → rt'[0]? = some none ∧ kp ≤ rt'.length ∧ frc (renD (renI σ kp rtB.length) d) fun d => frcR (rtFin σ kp rtB rt') fun r => KB d r) : p ∨ borK P (.fn (.func g) fs cs) argsB rtB KB :=
 .inr (CallsTo.frame σ hkp h hent (fun d rt' hd => by
   obtain ⟨h1, h2, h3⟩ := hK d rt' hd
   rw [frc_eq, frcR_eq] at h3
   exact ⟨h1, h2, h3⟩))
theorem borA {P : Program} {p : Prop} {g : Nat} {fs cs args argsB : List D} {rt rtB : List (Option Root)} {K KB : D → List (Option Root) → Prop} {kp : Nat} (σ : List Nat) (h : CallsTo P g kp args (none :: rt) K)
   (hK : ∀ d rt', K d rt' → rt'[0]? = some none ∧ kp ≤ rt'.length ∧ frc (renD (renI σ kp rtB.length) d) fun d => frcR (rtFin σ kp rtB rt') fun r => KB d r) (hkp : 1 ≤ kp ∧ kp ≤ σ.length + 1 := by decide)
   (hent : chk (Go.Vm.distinct (sigN σ)) (wkL (sigN σ) args (fs ++ argsB ++ cs) (wkRoots (sigN σ) rtB (sigN σ) (none :: rt) True)) := by first | ((conv => whnf); (repeat' ((first | refine And.intro rfl ?_ | refine And.intro (eqV_int vAr) ?_ | refine And.intro vOb ?_ | exact trivial) <;> (conv => whnf))); (first | done | fail))) : p ∨ borK P (.fn (.func g) fs cs) argsB rtB KB :=
 bor_of σ h hkp hent hK
theorem wkA {kp : Nat} (σ : List (Option Nat)) {st st2 : St} (h : weakK kp σ st st2 := by first | ((conv => whnf); (repeat' ((first | refine And.intro rfl ?_ | refine And.intro (eqV_int vAr) ?_ | refine And.intro vOb ?_ | refine And.intro ?_ ?_ | exact trivial) <;> try (conv => whnf))); (first | done | fail))) : Weak kp st st2 := Weak.of σ h
def lM (w : Nat) (r : Nat → Int) : List Int := (List.range w).map r
def tM (N w : Nat) (M : Nat → Nat → Int) : List (List Int) := (List.range N).map fun i => lM w (M i)
@[simp] theorem lM_length (w : Nat) (r : Nat → Int) : (lM w r).length = w := by simp [lM]
@[simp] theorem tM_length (N w : Nat) (M : Nat → Nat → Int) : (tM N w M).length = N := by simp [tM]
end Go.Proofs
