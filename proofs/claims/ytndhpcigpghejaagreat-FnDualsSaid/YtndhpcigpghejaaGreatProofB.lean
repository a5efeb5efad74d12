import Derived.Test.YtndhpcigpghejaaGreatK181
import Derived.Test.YtndhpcigpghejaaGreatRows
import Derived.Test.YtndhpcigpghejaaGreatK191
import Derived.Test.YtndhpcigpghejaaGreatVm29
namespace Go.Proofs.YtndhpcigpghejaaGreat
open Go.ChangeShapes Go.WideShapes Go.ChangeAt Go.RowKit Go.Vm
set_option linter.unusedVariables false
theorem own : ownKnob Tryz.prog.godebug = none := by kernel_rfl
theorem laidOut : laidOutB Tryz.prog = true := by kernel_rfl
set_option maxRecDepth 100000 in
theorem lifted (os : Os) (started : os.Started) (H : Type) (enc : TypeId × Value → H) :
   ReturnsInHanded {} Tryz.checked os 8 .any (Rows.fnDualsSpec.pre6 enc Tryz.prog Tryz.f8 Rows.fnDualsRow.domain false) (Rows.fnDualsSpec.post enc Tryz.prog Tryz.f8 false true false false) := by
 refine returnsInHanded_of_change (C := Tryz.checked) own started (by kernel_rfl) Tryz.func8
   (ChangeSpec.witness6 (enc := enc) (C := Tryz.checked) false ⟨#[], #[.slice none 0 0], []⟩ 8 (by kernel_rfl) (by kernel_rfl) (by kernel_rfl) (by kernel_rfl)) ?_
 intro W base args ds gs before hval0 hW hcnd _
 have hval : ∀ (j : Nat) t v, Tryz.f8.params[j]? = some t → args[j]? = some v → Value.okWide Tryz.prog W .any base t v := hval0
 have hW' := hW
 obtain ⟨p, q, hA0, hV, rfl, hfz, hnd⟩ := hW
 have hA : DataW.TrodAll enc Tryz.prog W 0 (fun _ => true) true Tryz.f8.params.toList args.toList ds p := hA0
 rw [Tryz.params8] at hA hval
 have hAll := hA
 obtain ⟨v0, vs0, d0, ds0, p0, q0, e0, rfl, rfl, h0, r0⟩ := trodAll_cons hA
 obtain ⟨rfl, rfl, rfl⟩ := trodAll_nil r0
 obtain rfl : args = #[v0] := by cases args; simp_all
 obtain ⟨rfl, rfl⟩ := trodVars_none hV
 obtain ⟨l0, s0, w0, g0⟩ := sh_bytes Tryz.underlying22 Tryz.underlying5 (by kernel_rfl) (hval 0 22 v0 rfl rfl) h0
 clear hA0 hval0
 have hpc := c_FnDuals wei l0 w0 (by have : maxLen = 9223372036854775807 := rfl; omega)
 refine (hpc.calls Tryz.func8 rfl rfl (w := W) (vals := #[v0]) rfl (fun i d v hd hv => by
   match i, hd, hv with
   | 0, hd, hv => simp at hd hv; subst hd; subst hv; exact s0
   | n + 1, hd, hv => simp at hd) 0).mono fun e W' ⟨v, he, bel, hres⟩ => ?_
 have hv := hres.bool
 subst hv
 subst he
 exact ⟨_, rfl, _, _, _, [], _, [], hW', trodAll_mk1 (shut_bool Tryz.underlying4 _), trodAll_below laidOut bel _ _ _ _ (by kernel_rfl) hAll, rfl, bel.frame _, fun h => by cases h⟩
theorem cfIn : (Rows.fnDualsRow.inPlace == Tryz.prog.inPlace 8) = true := by kernel_rfl
theorem cfUn : (Rows.fnDualsRow.unfollowed == Tryz.prog.unfollowed 8) = true := by kernel_rfl
theorem cfRe : (Rows.fnDualsRow.recurses == Tryz.prog.recurses 8) = true := by kernel_rfl
theorem cfNa : (Rows.fnDualsRow.named == Tryz.prog.varsNamed 8) = true := by kernel_rfl
theorem cfMr : mapsRowed Tryz.prog = true := by kernel_rfl
theorem cfNt : namedTie Tryz.prog Rows.fnDualsRow.named Rows.fnDualsSpec.vars = true := by kernel_rfl
theorem cfPk : (Rows.fnDualsRow.plainKeys == Tryz.prog.plainKeys) = true := by kernel_rfl
theorem cfSh : Tryz.prog.stopsHeard = true := by kernel_rfl
theorem cfMe : Tryz.prog.mayEnter = true := by kernel_rfl
theorem cfLi : (Rows.fnDualsRow.lifted == Tryz.prog.liftsFinal) = true := by kernel_rfl
theorem cfMk : (Tryz.prog.make == some Rows.fnDualsRow.make) = true := by kernel_rfl
theorem cfFn : Tryz.prog.funcNamed Rows.fnDualsRow.func = some 8 := by kernel_rfl
theorem closedF : joinedFacts Tryz.prog 8 Tryz.f8 Rows.fnDualsSpec Rows.fnDualsRow = true := by
 unfold joinedFacts
 rw [laidOut, cfIn, cfUn, cfRe, cfNa, cfMr, cfNt, cfPk, cfSh, cfMe, cfLi, cfMk]
 kernel_rfl
theorem fnDuals_holds : Rows.FnDualsSaid :=
 OpenClaim.holds_of_wide 8 Tryz.f8 rfl rfl rfl rfl rfl rfl rfl ⟨rfl, rfl, rfl, rfl, rfl⟩ rfl rfl rfl rfl rfl cfFn Tryz.func8 closedF
   (of_decide_eq_true (by kernel_rfl)) (by unfold Func.isWrapper; first | (rw [if_pos (by decide +kernel)]; kernel_rfl) | (rw [if_neg (by decide +kernel)]; exact ⟨rfl, rfl⟩))
   (fun os started H enc _ => lifted os started H enc)
#print axioms fnDuals_holds
end Go.Proofs.YtndhpcigpghejaaGreat
