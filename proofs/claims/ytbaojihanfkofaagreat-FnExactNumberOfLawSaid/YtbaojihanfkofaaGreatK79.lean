/- Lists and tables of functions. -/
import Derived.Test.YtbaojihanfkofaaGreatK1
import Derived.Test.YtbaojihanfkofaaGreatVm32
namespace Go.Proofs
open Go Go.Vm Go.Fg Go.Fg.PS
set_option maxRecDepth 100000
set_option maxHeartbeats 4000000
set_option linter.unusedSimpArgs false
set_option linter.unusedVariables false
variable {m : Int}
def forceF1 (d : D) (k : D → Prop) : Prop := match d with
  | .ref r p sz off n => forceN r fun r => k (.ref r p sz off n)
  | d => k d
def forceFL : List D → (List D → Prop) → Prop
  | [], k => k []
  | d :: ds, k => forceF1 d fun d => forceFL ds fun ds => k (d :: ds)
def forceF (d : D) (k : D → Prop) : Prop := match d with
  | .agg ds => forceFL ds fun ds => k (.agg ds)
  | .tup ds => forceFL ds fun ds => k (.tup ds)
  | d => forceF1 d k
theorem forceF1_eq (d : D) (k : D → Prop) : forceF1 d k = k d := by
  unfold forceF1; split <;> simp only [forceN_eq]
theorem forceFL_eq : ∀ (ds : List D) (k : List D → Prop), forceFL ds k = k ds
  | [], k => rfl
  | d :: ds, k => by simp only [forceFL, forceF1_eq, forceFL_eq ds]
theorem forceF_eq (d : D) (k : D → Prop) : forceF d k = k d := by
  unfold forceF; split <;> simp only [forceFL_eq, forceF1_eq]
theorem bor_of {P : Program} {p : Prop} {g : Nat} {fs cs args argsB : List D} {rt rtB : List (Option Root)} {K KB : D → List (Option Root) → Prop} {kp : Nat} (σ : List Nat) (h : CallsTo P g kp args (none :: rt) K) (hkp : 1 ≤ kp ∧ kp ≤ σ.length + 1)
    (hent : chk (Go.Vm.distinct (sigN σ)) (wkL (sigN σ) args (fs ++ argsB ++ cs) (wkRoots (sigN σ) rtB (sigN σ) (none :: rt) True)))
    (hK : ∀ d rt', K d rt' → rt'[0]? = some none ∧ kp ≤ rt'.length ∧ forceF (renD (renI σ kp rtB.length) d) fun d => KB d (rtFin σ kp rtB rt')) : p ∨ borK P (.fn (.func g) fs cs) argsB rtB KB :=
  .inr (CallsTo.frame σ hkp h hent (fun d rt' hd => by
    obtain ⟨h1, h2, h3⟩ := hK d rt' hd
    rw [forceF_eq] at h3
    exact ⟨h1, h2, h3⟩))
def lM (w : Nat) (r : Nat → Int) : List Int := (List.range w).map r
def tM (N w : Nat) (M : Nat → Nat → Int) : List (List Int) := (List.range N).map fun i => lM w (M i)
@[simp] theorem lM_length (w : Nat) (r : Nat → Int) : (lM w r).length = w := by simp [lM]
@[simp] theorem tM_length (N w : Nat) (M : Nat → Nat → Int) : (tM N w M).length = N := by simp [tM]
theorem lM_getD {w j : Nat} (r : Nat → Int) (h : j < w) : (lM w r).getD j 0 = r j := by simp [lM, h]
theorem lM_get {w j : Nat} (r : Nat → Int) (h : j < w) : (lM w r)[j]? = some (r j) := by simp [lM, h]
theorem tM_getD {N w i : Nat} (M : Nat → Nat → Int) (h : i < N) : (tM N w M).getD i [] = lM w (M i) := by simp [tM, h]
theorem lM_congr {w : Nat} {r s : Nat → Int} (h : ∀ j, j < w → r j = s j) : lM w r = lM w s := List.map_congr_left (fun j hj => h j (List.mem_range.1 hj))
theorem tM_congr {N w : Nat} {M M' : Nat → Nat → Int} (h : ∀ i j, i < N → j < w → M i j = M' i j) : tM N w M = tM N w M' := List.map_congr_left (fun i hi => lM_congr (fun j hj => h i j (List.mem_range.1 hi) hj))
theorem lM_set {w k : Nat} (r : Nat → Int) (x : Int) : (lM w r).set k x = lM w (fun j => if j = k then x else r j) := by
  refine List.ext_getElem? (fun j => ?_)
  by_cases h : j < w
  · by_cases e : k = j
    · subst e; rw [List.getElem?_set_self (by simpa using h), lM_get _ h, if_pos rfl]
    · rw [List.getElem?_set_ne e, lM_get _ h, lM_get _ h, if_neg (fun h => e h.symm)]
  · rw [List.getElem?_eq_none (by simpa using h), List.getElem?_eq_none (by simpa using h)]
theorem tM_set {N w i : Nat} (M : Nat → Nat → Int) (r : Nat → Int) : (tM N w M).set i (lM w r) = tM N w (fun k => if k = i then r else M k) := by
  refine List.ext_getElem? (fun j => ?_)
  by_cases h : j < N
  · by_cases e : i = j
    · subst e; rw [List.getElem?_set_self (by simpa using h)]; simp [tM, h]
    · rw [List.getElem?_set_ne e]; simp [tM, h, show ¬ j = i from fun h => e h.symm]
  · rw [List.getElem?_eq_none (by simpa using h), List.getElem?_eq_none (by simpa using h)]
theorem tM_setT {N w i j : Nat} (M : Nat → Nat → Int) (x : Int) (h : i < N) : setT (tM N w M) i j x = tM N w (fun k l => if k = i ∧ l = j then x else M k l) := by
  unfold setT
  rw [tM_getD M h, lM_set, tM_set]
  refine tM_congr (fun k l _ _ => ?_)
  by_cases e : k = i
  · subst e; simp
  · simp [e]
theorem lM_push {w : Nat} {r : Nat → Int} {x : Int} (h : x = r w) : lM w r ++ [x] = lM (w + 1) r := by
  subst h; simp [lM, List.range_succ]
end Go.Proofs

