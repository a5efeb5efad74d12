import Derived.Test.YtndhpcigpghejaaGreatKN
import Derived.Test.YtndhpcigpghejaaGreatK9
import Derived.Test.YtndhpcigpghejaaGreatAlg7
import Derived.Test.YtndhpcigpghejaaGreatK1
import Derived.Test.YtndhpcigpghejaaGreatVm32
namespace Go.Proofs
open Go Go.Vm Go.Fg Go.Fg.PS
set_option maxRecDepth 100000
set_option maxHeartbeats 4000000
set_option linter.unusedSimpArgs false
set_option linter.unusedVariables false
variable {m : Int}
theorem c_integrated (hm : Md m) (o : Bool) (n : Nat) (hn : 1 ≤ n ∧ n ≤ 50) (a : PS (Zm m)) : PureCall Tryz.prog 371 [SerD m o n a] (SerD m true (n + 1) (intS a)) := by
 have hm1 := hm.1
 have hm2 := hm.2
 refine pure_of_vc Tryz.tabOk mixOrd Tryz.func371 rfl rfl ?_
 conv => whnf
 repeat' first | ((first | refine z0 ?_ | (apply zI; refine zP (c_degreeS _ _ vAr _) ?_) | (apply zI; refine zP (c_zero (n + 1) vAr vAr) ?_) | (refine And.intro (fun h => ?_) (fun h => ?_) <;> (try simp only [cnt1, ints_length] at h)) | refine zS ?_ | refine zV ?_ | (apply zI; refine zP vObx ?_) | refine Alt.fst ?_ | refine Or.inl ?_) <;> conv => whnf) | fail
 refine loop_at Tryz.tabOk mixOrd (α := Nat) (fun i => [(15, dint i)]) (fun i => [(4, some ⟨false, 1, ints (L (n + 1) (mix (i + 1) (intS a) 0))⟩)]) (fun i => i ≤ n) (fun i => n - i) (0) ?_ ?_ ?_
 · omega
 · conv => whnf
   first | refine WeakS.auto ?_ | refine Weak.auto ?_
   conv => whnf
   repeat' ((first | refine z1 ?_ | refine z2 ?_ | refine zV ?_ | refine And.intro vRepl ?_ | refine And.intro vReplL ?_ | refine And.intro ?_ ?_ | exact trivial) <;> try (conv => whnf))
   all_goals rw [mix_intS]
 intro i hi
 conv => whnf
 repeat' first | ((first | refine z0 ?_ | (apply zI; refine zP (c_mod _ _ hm.pos (by omega)) ?_) | (apply zI; refine zP (c_inverse hm _) ?_) | (refine And.intro (fun h => ?_) (fun h => ?_) <;> (try simp only [cnt1, ints_length] at h)) | refine zS ?_ | refine zV ?_ | (apply zI; refine zP vObx ?_) | refine Alt.fst ?_ | refine Or.inl ?_) <;> conv => whnf) | fail
 · refine Exists.intro (i + 1) (And.intro vAr (And.intro vAr ?_))
   first | refine WeakS.auto ?_ | refine Weak.auto ?_
   conv => whnf
   repeat' ((first | refine z1 ?_ | refine z2 ?_ | refine zV ?_ | refine And.intro vRepl ?_ | refine And.intro vReplL ?_ | refine And.intro ?_ ?_ | exact trivial) <;> try (conv => whnf))
   refine ints_congr' (L_set_eq ((intS a).c (i + 1)) ?_ (Ag.of_eq (mix_succ _ _ _).symm))
   rw [tm_mul hm, invN_mod]; rfl
 · have e : i = n := vAr
   subst e
   exact serD_congr (L_congr (fun k hk => by rw [mix_c, if_pos (by omega)]))
theorem c_l02Integrate (hm : Md m) (o : Bool) (n : Nat) (hn : 1 ≤ n ∧ n ≤ 50) (a : PS (Zm m)) : PureCall Tryz.prog 372 [dint m, LD o n a] (LD true (n + 1) (intS a)) := by
 have hm1 := hm.1
 have hm2 := hm.2
 refine pure_of_vc Tryz.tabOk mixOrd Tryz.func372 rfl rfl ?_
 conv => whnf
 repeat' first | ((first | refine z0 ?_ | (refine And.intro (fun h => ?_) (fun h => ?_) <;> (try simp only [cnt1, ints_length] at h)) | refine zS ?_ | refine zV ?_ | (apply zI; refine zP vObx ?_) | refine Alt.fst ?_ | refine Or.inl ?_) <;> conv => whnf) | fail
 refine loop_at Tryz.tabOk mixOrd (α := Nat) (fun i => [(5, .ref 0 [] 1 0 (i + 1)), (6, dint i), (7, .undef)]) (fun i => [(0, some ⟨false, 1, ints (L (i + 1) (intS a))⟩)]) (fun i => i ≤ n) (fun i => n - i) (0) ?_ ?_ ?_
 · omega
 · conv => whnf
   first | refine WeakS.auto ?_ | refine Weak.auto ?_
   conv => whnf
   repeat' ((first | refine z1 ?_ | refine z2 ?_ | refine zV ?_ | refine And.intro vRepl ?_ | refine And.intro vReplL ?_ | refine And.intro ?_ ?_ | exact trivial) <;> try (conv => whnf))
 intro i hi
 conv => whnf
 repeat' first | ((first | refine z0 ?_ | (apply zI; refine zP (c_l01Inv hm _) ?_) | (refine And.intro (fun h => ?_) (fun h => ?_) <;> (try simp only [cnt1, ints_length] at h)) | refine zS ?_ | refine zV ?_ | (apply zI; refine zP vObx ?_) | refine Alt.fst ?_ | refine Or.inl ?_) <;> conv => whnf) | fail
 · refine Exists.intro (i + 1) (And.intro vAr (And.intro vAr ?_))
   first | refine WeakS.auto ?_ | refine Weak.auto ?_
   conv => whnf
   repeat' ((first | refine z1 ?_ | refine z2 ?_ | refine zV ?_ | refine And.intro vRepl ?_ | refine And.intro vReplL ?_ | refine And.intro ?_ ?_ | exact trivial) <;> try (conv => whnf))
   refine ints_congr' (L_push ?_)
   rw [tm_mul hm]; rfl
 · have e : i = n := vAr
   subst e; rfl
def frc1 (d : D) (k : D → Prop) : Prop := match d with
 | .ref r p sz off n => forceN r fun r => k (.ref r p sz off n)
 | .ptr r p off => forceN r fun r => k (.ptr r p off)
 | .lit v => forceV v fun v => k (.lit v)
 | d => k d
def frcL (f : D → (D → Prop) → Prop) : List D → (List D → Prop) → Prop
 | [], k => k []
 | d :: ds, k => f d fun d => frcL f ds fun ds => k (d :: ds)
def frcT (f : D → (D → Prop) → Prop) (d : D) (k : D → Prop) : Prop := match d with
 | .agg ds => frcL f ds fun ds => k (.agg ds)
 | .tup ds => frcL f ds fun ds => k (.tup ds)
 | .fn g fs cs => frcL f fs fun fs => frcL f cs fun cs => k (.fn g fs cs)
 | d => frc1 d k
def frc (d : D) (k : D → Prop) : Prop := frcT (frcT (frcT frc1)) d k
def frcR : List (Option Root) → (List (Option Root) → Prop) → Prop
 | [], k => k []
 | none :: rs, k => frcR rs fun rs => k (none :: rs)
 | some ⟨true, sz, cs⟩ :: rs, k => frcL frc cs fun cs => frcR rs fun rs => k (some ⟨true, sz, cs⟩ :: rs)
 | some ⟨false, sz, cs⟩ :: rs, k => frcR rs fun rs => k (some ⟨false, sz, cs⟩ :: rs)
theorem frc1_eq (d : D) (k : D → Prop) : frc1 d k = k d := by
 unfold frc1; split <;> simp only [forceN_eq, forceV_eq]
theorem frcL_eq {f : D → (D → Prop) → Prop} (hf : ∀ d k, f d k = k d) : ∀ (ds : List D) (k : List D → Prop), frcL f ds k = k ds
 | [], k => rfl
 | d :: ds, k => by simp only [frcL, hf, frcL_eq hf ds]
theorem frcT_eq {f : D → (D → Prop) → Prop} (hf : ∀ d k, f d k = k d) (d : D) (k : D → Prop) : frcT f d k = k d := by
 unfold frcT; split <;> simp only [frcL_eq hf, frc1_eq]
theorem frc_eq (d : D) (k : D → Prop) : frc d k = k d := frcT_eq (frcT_eq (frcT_eq frc1_eq)) d k
theorem frcR_eq : ∀ (rs : List (Option Root)) (k : List (Option Root) → Prop), frcR rs k = k rs
 | [], k => rfl
 | none :: rs, k => by simp only [frcR, frcR_eq rs]
 | some ⟨true, sz, cs⟩ :: rs, k => by simp only [frcR, frcL_eq frc_eq, frcR_eq rs]
 | some ⟨false, sz, cs⟩ :: rs, k => by simp only [frcR, frcR_eq rs]
theorem bor_of {P : Program} {p : Prop} {g : Nat} {fs cs args argsB : List D} {rt rtB : List (Option Root)} {K KB : D → List (Option Root) → Prop} {kp : Nat} (σ : List Nat) (h : CallsTo P g kp args (none :: rt) K) (hkp : 1 ≤ kp ∧ kp ≤ σ.length + 1)
   (hent : chk (Go.Vm.distinct (sigN σ)) (wkL (sigN σ) args (fs ++ argsB ++ cs) (wkRoots (sigN σ) rtB (sigN σ) (none :: rt) True)))
   (hK : ∀ d rt', K d rt' → rt'[0]? = some none ∧ kp ≤ rt'.length ∧ frc (renD (renI σ kp rtB.length) d) fun d => frcR (rtFin σ kp rtB rt') fun r => KB d r) : p ∨ borK P (.fn (.func g) fs cs) argsB rtB KB :=
 .inr (CallsTo.frame σ hkp h hent (fun d rt' hd => by
   obtain ⟨h1, h2, h3⟩ := hK d rt' hd
   rw [frc_eq, frcR_eq] at h3
   exact ⟨h1, h2, h3⟩))
theorem borA {P : Program} {p : Prop} {g : Nat} {fs cs args argsB : List D} {rt rtB : List (Option Root)} {K KB : D → List (Option Root) → Prop} {kp : Nat} (σ : List Nat) (h : CallsTo P g kp args (none :: rt) K)
   (hK : ∀ d rt', K d rt' → rt'[0]? = some none ∧ kp ≤ rt'.length ∧ frc (renD (renI σ kp rtB.length) d) fun d => frcR (rtFin σ kp rtB rt') fun r => KB d r) (hkp : 1 ≤ kp ∧ kp ≤ σ.length + 1 := by decide)
   (hent : chk (Go.Vm.distinct (sigN σ)) (wkL (sigN σ) args (fs ++ argsB ++ cs) (wkRoots (sigN σ) rtB (sigN σ) (none :: rt) True)) := by first | ((conv => whnf); (repeat' ((first | refine And.intro rfl ?_ | refine And.intro (eqV_int vAr) ?_ | refine And.intro vOb ?_ | exact trivial) <;> (conv => whnf))); (first | done | fail))) : p ∨ borK P (.fn (.func g) fs cs) argsB rtB KB :=
 bor_of σ h hkp hent hK
theorem wkA {kp : Nat} (σ : List (Option Nat)) {st st2 : St} (h : weakK kp σ st st2 := by first | ((conv => whnf); (repeat' ((first | refine And.intro rfl ?_ | refine And.intro (eqV_int vAr) ?_ | refine And.intro vOb ?_ | refine And.intro ?_ ?_ | exact trivial) <;> try (conv => whnf))); (first | done | fail))) : Weak kp st st2 := Weak.of σ h
def lM (w : Nat) (r : Nat → Int) : List Int := (List.range w).map r
def tM (N w : Nat) (M : Nat → Nat → Int) : List (List Int) := (List.range N).map fun i => lM w (M i)
@[simp] theorem lM_length (w : Nat) (r : Nat → Int) : (lM w r).length = w := by simp [lM]
@[simp] theorem tM_length (N w : Nat) (M : Nat → Nat → Int) : (tM N w M).length = N := by simp [tM]
end Go.Proofs
