/- For every input the law FnExactIsTypicalCurve returns true; no condition. -/
import Derived.Test.YtllcbelphabdpaaRows
import Derived.Test.YtllcbelphabdpaaK70
import Derived.Test.YtllcbelphabdpaaVm29
namespace Go.Proofs.Ytllcbelphabdpaa
open Go.ChangeShapes Go.WideShapes Go.ChangeAt Go.RowKit Go.Vm
set_option linter.unusedVariables false

theorem own : ownKnob Try.prog.godebug = none := by kernel_rfl
theorem laidOut : laidOutB Try.prog = true := by kernel_rfl

set_option maxRecDepth 100000 in
theorem lifted (os : Os) (started : os.Started) (H : Type) (enc : TypeId × Value → H) :
    ReturnsInHanded {} Try.checked os 5 .any (Rows.fnExactIsTypicalCurveSpec.pre6 enc Try.prog Try.f5 Rows.fnExactIsTypicalCurveRow.domain false) (Rows.fnExactIsTypicalCurveSpec.post enc Try.prog Try.f5 false true false false) := by
  refine returnsInHanded_of_change (C := Try.checked) own started (by kernel_rfl) Try.func5
    (ChangeSpec.witness6 (enc := enc) (C := Try.checked) false ⟨#[], #[.agg #[.int .i64 0, .slice none 0 0], .agg #[.int .i64 0, .slice none 0 0], .int .i64 0], []⟩ 8 (by kernel_rfl) (by kernel_rfl) (by kernel_rfl) (by kernel_rfl)) ?_
  intro W base args ds gs before hval0 hW hcnd _
  have hval : ∀ (j : Nat) t v, Try.f5.params[j]? = some t → args[j]? = some v → Value.okWide Try.prog W .any base t v := hval0
  have hW' := hW
  obtain ⟨p, q, hA0, hV, rfl, hfz, hnd⟩ := hW
  have hA : DataW.TrodAll enc Try.prog W 0 (fun _ => true) true Try.f5.params.toList args.toList ds p := hA0
  rw [Try.params5] at hA hval
  have hAll := hA
  obtain ⟨v0, vs0, d0, ds0, p0, q0, e0, rfl, rfl, h0, r0⟩ := trodAll_cons hA
  obtain ⟨v1, vs1, d1, ds1, p1, q1, e1, rfl, rfl, h1, r1⟩ := trodAll_cons r0
  obtain ⟨v2, vs2, d2, ds2, p2, q2, e2, rfl, rfl, h2, r2⟩ := trodAll_cons r1
  obtain ⟨rfl, rfl, rfl⟩ := trodAll_nil r2
  subst e2
  subst e1
  obtain rfl : args = #[v0, v1, v2] := by cases args; simp_all
  obtain ⟨rfl, rfl⟩ := trodVars_none hV
  obtain ⟨m0, l0, s0, w0, g0⟩ := sh_plane Try.underlying24 ⟨rfl, rfl⟩ ⟨rfl, rfl⟩ Try.underlying2 (by kernel_rfl) Try.underlying22 (by kernel_rfl) Try.underlying35 (by kernel_rfl) Try.underlying2 (by kernel_rfl) (by kernel_rfl) (hval 0 24 v0 rfl rfl) h0
  have b0 := wf_bounds w0
  obtain ⟨m1, l1, s1, w1, z1, g1⟩ := sh_series Try.underlying43 ⟨rfl, rfl⟩ ⟨rfl, rfl⟩ Try.underlying2 (by kernel_rfl) Try.underlying35 (by kernel_rfl) Try.underlying2 (by kernel_rfl) (by kernel_rfl) (by kernel_rfl) (hval 1 43 v1 rfl rfl) h1
  have b1 := wf_bounds w1
  obtain ⟨x2, rfl, rfl, rfl, w2⟩ := open_int Try.underlying2 (hval 2 2 v2 rfl rfl) h2
  have b2 := wf_bounds w2
  clear hA0 hval0
  have hpc := c_FnExactIsTypicalCurve m0 l0 m1 l1 x2 b0 g0 b1 (by have : maxLen = 9223372036854775807 := rfl; omega) b2
  refine (hpc.calls Try.func5 rfl rfl (w := W) (vals := #[v0, v1, .int .i64 x2]) rfl (fun i d v hd hv => by
    match i, hd, hv with
    | 0, hd, hv => simp at hd hv; subst hd; subst hv; exact s0
    | 1, hd, hv => simp at hd hv; subst hd; subst hv; exact s1
    | 2, hd, hv => simp at hd hv; subst hd; subst hv; exact .lit _
    | n + 3, hd, hv => simp at hd) 0).mono fun e W' ⟨v, he, bel, hres⟩ => ?_
  have hv := hres.bool
  subst hv
  subst he
  exact ⟨_, rfl, _, _, _, [], _, [], hW', trodAll_mk1 (shut_bool Try.underlying4 _), trodAll_below laidOut bel _ _ _ _ (by kernel_rfl) hAll, rfl, bel.frame _, fun h => by cases h⟩

theorem fnExactIsTypicalCurve_holds : Rows.FnExactIsTypicalCurveSaid :=
  OpenClaim.holds_of_wide 5 Try.f5 rfl rfl rfl rfl rfl rfl rfl ⟨rfl, rfl, rfl, rfl, rfl⟩ rfl rfl rfl rfl rfl (by kernel_rfl) Try.func5 (by kernel_rfl)
    (of_decide_eq_true (by kernel_rfl)) (by unfold Func.isWrapper; first | (rw [if_pos (by decide +kernel)]; kernel_rfl) | (rw [if_neg (by decide +kernel)]; exact ⟨rfl, rfl⟩))
    (fun os started H enc _ => lifted os started H enc)
#print axioms fnExactIsTypicalCurve_holds
end Go.Proofs.Ytllcbelphabdpaa
