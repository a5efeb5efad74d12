import Derived.Test.YtghcpginhamelaaGreatK57
import Derived.Test.YtghcpginhamelaaGreatRows
import Derived.Test.YtghcpginhamelaaGreatK198
import Derived.Test.YtghcpginhamelaaGreatVm29
namespace Go.Proofs.YtghcpginhamelaaGreat
open Go.ChangeShapes Go.WideShapes Go.ChangeAt Go.RowKit Go.Vm
set_option linter.unusedVariables false
theorem own : ownKnob Tryz.prog.godebug = none := by kernel_rfl
theorem laidOut : laidOutB Tryz.prog = true := by kernel_rfl
set_option maxRecDepth 100000 in
theorem lifted (os : Os) (started : os.Started) (H : Type) (enc : TypeId × Value → H) :
   ReturnsInHanded {} Tryz.checked os 6 .any (Rows.fnOperatorsSpec.pre6 enc Tryz.prog Tryz.f6 Rows.fnOperatorsRow.domain false) (Rows.fnOperatorsSpec.post enc Tryz.prog Tryz.f6 false true false false) := by
 refine returnsInHanded_of_change (C := Tryz.checked) own started (by kernel_rfl) Tryz.func6
   (ChangeSpec.witness6 (enc := enc) (C := Tryz.checked) false ⟨#[], #[.slice none 0 0], []⟩ 8 (by kernel_rfl) (by kernel_rfl) (by kernel_rfl) (by kernel_rfl)) ?_
 intro W base args ds gs before hval0 hW hcnd _
 have hval : ∀ (j : Nat) t v, Tryz.f6.params[j]? = some t → args[j]? = some v → Value.okWide Tryz.prog W .any base t v := hval0
 have hW' := hW
 obtain ⟨p, q, hA0, hV, rfl, hfz, hnd⟩ := hW
 have hA : DataW.TrodAll enc Tryz.prog W 0 (fun _ => true) true Tryz.f6.params.toList args.toList ds p := hA0
 rw [Tryz.params6] at hA hval
 have hAll := hA
 obtain ⟨v0, vs0, d0, ds0, p0, q0, e0, rfl, rfl, h0, r0⟩ := trodAll_cons hA
 obtain ⟨rfl, rfl, rfl⟩ := trodAll_nil r0
 obtain rfl : args = #[v0] := by cases args; simp_all
 obtain ⟨rfl, rfl⟩ := trodVars_none hV
 obtain ⟨l0, s0, w0, g0⟩ := Apj Tryz.underlying22 Tryz.underlying5 (by kernel_rfl) (hval 0 22 v0 rfl rfl) h0
 clear hA0 hval0
 have hpc := Avz wei l0 w0 (by have : maxLen = 9223372036854775807 := rfl; omega)
 refine (hpc.calls Tryz.func6 rfl rfl (w := W) (vals := #[v0]) rfl (fun i d v hd hv => by
   match i, hd, hv with
   | 0, hd, hv => simp at hd hv; subst hd; subst hv; exact s0
   | n + 1, hd, hv => simp at hd) 0).mono fun e W' ⟨v, he, bel, hres⟩ => ?_
 have hv := hres.bool
 subst hv
 subst he
 exact ⟨_, rfl, _, _, _, [], _, [], hW', trodAll_mk1 (shut_bool Tryz.underlying4 _), Afi laidOut bel _ _ _ _ (by kernel_rfl) hAll, rfl, bel.frame _, fun h => by cases h⟩
theorem Aqh : (Rows.fnOperatorsRow.inPlace == Tryz.prog.inPlace 6) = true := by kernel_rfl
theorem Amx : (Rows.fnOperatorsRow.unfollowed == Tryz.prog.unfollowed 6) = true := by kernel_rfl
theorem Ao9 : (Rows.fnOperatorsRow.recurses == Tryz.prog.recurses 6) = true := by kernel_rfl
theorem Ajn : (Rows.fnOperatorsRow.named == Tryz.prog.varsNamed 6) = true := by kernel_rfl
theorem Apf : mapsRowed Tryz.prog = true := by kernel_rfl
theorem Asl : namedTie Tryz.prog Rows.fnOperatorsRow.named Rows.fnOperatorsSpec.vars = true := by kernel_rfl
theorem Avd : (Rows.fnOperatorsRow.plainKeys == Tryz.prog.plainKeys) = true := by kernel_rfl
theorem Atd : Tryz.prog.stopsHeard = true := by kernel_rfl
theorem Ap6 : Tryz.prog.mayEnter = true := by kernel_rfl
theorem Aw5 : (Rows.fnOperatorsRow.lifted == Tryz.prog.liftsFinal) = true := by kernel_rfl
theorem Anu : (Tryz.prog.make == some Rows.fnOperatorsRow.make) = true := by kernel_rfl
theorem Aov : Tryz.prog.funcNamed Rows.fnOperatorsRow.func = some 6 := by kernel_rfl
theorem Ajt : joinedFacts Tryz.prog 6 Tryz.f6 Rows.fnOperatorsSpec Rows.fnOperatorsRow = true := by
 unfold joinedFacts
 rw [laidOut, Aqh, Amx, Ao9, Ajn, Apf, Asl, Avd, Atd, Ap6, Aw5, Anu]
 kernel_rfl
theorem fnOperators_holds : Rows.FnOperatorsSaid :=
 OpenClaim.holds_of_wide 6 Tryz.f6 rfl rfl rfl rfl rfl rfl rfl ⟨rfl, rfl, rfl, rfl, rfl⟩ rfl rfl rfl rfl rfl Aov Tryz.func6 Ajt
   (of_decide_eq_true (by kernel_rfl)) (by unfold Func.isWrapper; first | (rw [if_pos (by decide +kernel)]; kernel_rfl) | (rw [if_neg (by decide +kernel)]; exact ⟨rfl, rfl⟩))
   (fun os started H enc _ => lifted os started H enc)
#print axioms fnOperators_holds
end Go.Proofs.YtghcpginhamelaaGreat
