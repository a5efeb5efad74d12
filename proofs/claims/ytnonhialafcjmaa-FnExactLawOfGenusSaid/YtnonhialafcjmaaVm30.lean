/- States that are known in part. -/
import Derived.Test.YtnonhialafcjmaaVm28
set_option linter.unusedVariables false
set_option linter.unusedSimpArgs false
set_option linter.unusedSectionVars false
namespace Go.Vm
open Go Go.RowKit

/-- Slots forgotten. -/
def envLe : List D → List D → Prop
  | [], [] => True
  | d2 :: ds2, d :: ds => (d2 = .undef ∨ d2 = d) ∧ envLe ds2 ds
  | _, _ => False
theorem envLe_at : ∀ {e2 e : List D}, envLe e2 e → e2.length = e.length ∧ ∀ i, e2.getD i .undef = .undef ∨ e2.getD i .undef = e.getD i .undef
  | [], [], _ => ⟨rfl, fun i => .inl rfl⟩
  | d2 :: ds2, d :: ds, h => by
    obtain ⟨h1, h2⟩ := envLe_at h.2
    refine ⟨by simp [h1], fun i => ?_⟩
    cases i with
    | zero => simpa using h.1
    | succ i => simpa using h2 i
  | [], _ :: _, h => h.elim
  | _ :: _, [], h => h.elim
theorem Weak.env {kp : Nat} {e2 e : List D} {rt : List (Option Root)} (h : envLe e2 e) : Weak kp ⟨e, rt⟩ ⟨e2, rt⟩ := by
  intro w0 a w hkp hf
  obtain ⟨own, hd, hl, hs⟩ := hf
  obtain ⟨h1, h2⟩ := envLe_at h
  refine ⟨own, hd, by simpa [h1] using hl, ⟨hs.below, fun i => ?_, hs.roots, hs.lab, hs.inj, hs.susp⟩⟩
  rcases h2 i with e1 | e1
  · show Mt w _ _ _ (e2.getD i .undef) _
    rw [e1]; exact .undef _
  · show Mt w _ _ _ (e2.getD i .undef) _
    rw [e1]; exact hs.env i
theorem rtOf_at {rt : List (Option Root)} {r : Nat} {x : Option Root} (h : rt[r]? = some x) : rtOf rt r = some x := h
theorem forceR_to {l l' : List (Option Root)} {k : List (Option Root) → Prop} (e : l = l') (h : k l') : forceR l k := by rw [forceR_eq, e]; exact h
end Go.Vm
