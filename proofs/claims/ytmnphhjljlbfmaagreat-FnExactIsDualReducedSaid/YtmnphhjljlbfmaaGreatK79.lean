/- Lists and tables of functions. -/
import Derived.Test.YtmnphhjljlbfmaaGreatK1
import Derived.Test.YtmnphhjljlbfmaaGreatVm32
namespace Go.Proofs
open Go Go.Vm Go.Fg Go.Fg.PS
set_option maxRecDepth 100000
set_option maxHeartbeats 4000000
set_option linter.unusedSimpArgs false
set_option linter.unusedVariables false
variable {m : Int}
def forceF1 (d : D) (k : D → Prop) : Prop := match d with
  | .ref r p sz off n => forceN r fun r => k (.ref r p sz off n)
  | d => k d
def forceFL : List D → (List D → Prop) → Prop
  | [], k => k []
  | d :: ds, k => forceF1 d fun d => forceFL ds fun ds => k (d :: ds)
def forceF (d : D) (k : D → Prop) : Prop := match d with
  | .agg ds => forceFL ds fun ds => k (.agg ds)
  | .tup ds => forceFL ds fun ds => k (.tup ds)
  | d => forceF1 d k
theorem forceF1_eq (d : D) (k : D → Prop) : forceF1 d k = k d := by
  unfold forceF1; split <;> simp only [forceN_eq]
theorem forceFL_eq : ∀ (ds : List D) (k : List D → Prop), forceFL ds k = k ds
  | [], k => rfl
  | d :: ds, k => by simp only [forceFL, forceF1_eq, forceFL_eq ds]
theorem forceF_eq (d : D) (k : D → Prop) : forceF d k = k d := by
  unfold forceF; split <;> simp only [forceFL_eq, forceF1_eq]
theorem bor_of {P : Program} {p : Prop} {g : Nat} {fs cs args argsB : List D} {rt rtB : List (Option Root)} {K KB : D → List (Option Root) → Prop} {kp : Nat} (σ : List Nat) (h : CallsTo P g kp args (none :: rt) K) (hkp : 1 ≤ kp ∧ kp ≤ σ.length + 1)
    (hent : chk (Go.Vm.distinct (sigN σ)) (wkL (sigN σ) args (fs ++ argsB ++ cs) (wkRoots (sigN σ) rtB (sigN σ) (none :: rt) True)))
    (hK : ∀ d rt', K d rt' → rt'[0]? = some none ∧ kp ≤ rt'.length ∧ forceF (renD (renI σ kp rtB.length) d) fun d => KB d (rtFin σ kp rtB rt')) : p ∨ borK P (.fn (.func g) fs cs) argsB rtB KB :=
  .inr (CallsTo.frame σ hkp h hent (fun d rt' hd => by
    obtain ⟨h1, h2, h3⟩ := hK d rt' hd
    rw [forceF_eq] at h3
    exact ⟨h1, h2, h3⟩))
theorem borD_of {P : Program} {p : Prop} {g : Nat} {fs cs args argsB : List D} {rt rt0 rtB : List (Option Root)} {d0 : D} {KB : D → List (Option Root) → Prop} {kp : Nat} (σ : List Nat) (h : CallsTo P g kp args (none :: rt) (fun d r => d = d0 ∧ r = none :: rt0)) (hkp : 1 ≤ kp ∧ kp ≤ σ.length + 1)
    (hent : chk (Go.Vm.distinct (sigN σ)) (wkL (sigN σ) args (fs ++ argsB ++ cs) (wkRoots (sigN σ) rtB (sigN σ) (none :: rt) True))) (hl : kp ≤ (none :: rt0 : List (Option Root)).length)
    (hK : forceF (renD (renI σ kp rtB.length) d0) fun d => KB d (rtFin σ kp rtB (none :: rt0))) : p ∨ borK P (.fn (.func g) fs cs) argsB rtB KB :=
  bor_of σ h hkp hent (fun d rt' hd => by
    obtain ⟨rfl, rfl⟩ := hd
    exact ⟨rfl, hl, hK⟩)
def lM (w : Nat) (r : Nat → Int) : List Int := (List.range w).map r
def tM (N w : Nat) (M : Nat → Nat → Int) : List (List Int) := (List.range N).map fun i => lM w (M i)
@[simp] theorem lM_length (w : Nat) (r : Nat → Int) : (lM w r).length = w := by simp [lM]
@[simp] theorem tM_length (N w : Nat) (M : Nat → Nat → Int) : (tM N w M).length = N := by simp [tM]
end Go.Proofs

