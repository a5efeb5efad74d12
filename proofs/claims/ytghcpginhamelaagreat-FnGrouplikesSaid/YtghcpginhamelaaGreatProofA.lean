import Derived.Test.YtghcpginhamelaaGreatK187
import Derived.Test.YtghcpginhamelaaGreatRows
import Derived.Test.YtghcpginhamelaaGreatK195
import Derived.Test.YtghcpginhamelaaGreatVm29
namespace Go.Proofs.YtghcpginhamelaaGreat
open Go.ChangeShapes Go.WideShapes Go.ChangeAt Go.RowKit Go.Vm
set_option linter.unusedVariables false
theorem own : ownKnob Tryz.prog.godebug = none := by kernel_rfl
theorem laidOut : laidOutB Tryz.prog = true := by kernel_rfl
set_option maxRecDepth 100000 in
theorem lifted (os : Os) (started : os.Started) (H : Type) (enc : TypeId × Value → H) :
   ReturnsInHanded {} Tryz.checked os 7 .any (Rows.fnGrouplikesSpec.pre6 enc Tryz.prog Tryz.f7 Rows.fnGrouplikesRow.domain false) (Rows.fnGrouplikesSpec.post enc Tryz.prog Tryz.f7 false true false false) := by
 refine returnsInHanded_of_change (C := Tryz.checked) own started (by kernel_rfl) Tryz.func7
   (ChangeSpec.witness6 (enc := enc) (C := Tryz.checked) false ⟨#[], #[.slice none 0 0], []⟩ 8 (by kernel_rfl) (by kernel_rfl) (by kernel_rfl) (by kernel_rfl)) ?_
 intro W base args ds gs before hval0 hW hcnd _
 have hval : ∀ (j : Nat) t v, Tryz.f7.params[j]? = some t → args[j]? = some v → Value.okWide Tryz.prog W .any base t v := hval0
 have hW' := hW
 obtain ⟨p, q, hA0, hV, rfl, hfz, hnd⟩ := hW
 have hA : DataW.TrodAll enc Tryz.prog W 0 (fun _ => true) true Tryz.f7.params.toList args.toList ds p := hA0
 rw [Tryz.params7] at hA hval
 have hAll := hA
 obtain ⟨v0, vs0, d0, ds0, p0, q0, e0, rfl, rfl, h0, r0⟩ := trodAll_cons hA
 obtain ⟨rfl, rfl, rfl⟩ := trodAll_nil r0
 obtain rfl : args = #[v0] := by cases args; simp_all
 obtain ⟨rfl, rfl⟩ := trodVars_none hV
 obtain ⟨l0, s0, w0, g0⟩ := Apb Tryz.underlying22 Tryz.underlying5 (by kernel_rfl) (hval 0 22 v0 rfl rfl) h0
 clear hA0 hval0
 have hpc := Apm wei l0 w0 (by have : maxLen = 9223372036854775807 := rfl; omega)
 refine (hpc.calls Tryz.func7 rfl rfl (w := W) (vals := #[v0]) rfl (fun i d v hd hv => by
   match i, hd, hv with
   | 0, hd, hv => simp at hd hv; subst hd; subst hv; exact s0
   | n + 1, hd, hv => simp at hd) 0).mono fun e W' ⟨v, he, bel, hres⟩ => ?_
 have hv := hres.bool
 subst hv
 subst he
 exact ⟨_, rfl, _, _, _, [], _, [], hW', trodAll_mk1 (shut_bool Tryz.underlying4 _), Afv laidOut bel _ _ _ _ (by kernel_rfl) hAll, rfl, bel.frame _, fun h => by cases h⟩
theorem Aqp : (Rows.fnGrouplikesRow.inPlace == Tryz.prog.inPlace 7) = true := by kernel_rfl
theorem Ahv : (Rows.fnGrouplikesRow.unfollowed == Tryz.prog.unfollowed 7) = true := by kernel_rfl
theorem Anb : (Rows.fnGrouplikesRow.recurses == Tryz.prog.recurses 7) = true := by kernel_rfl
theorem Aka : (Rows.fnGrouplikesRow.named == Tryz.prog.varsNamed 7) = true := by kernel_rfl
theorem Ano : mapsRowed Tryz.prog = true := by kernel_rfl
theorem Amw : namedTie Tryz.prog Rows.fnGrouplikesRow.named Rows.fnGrouplikesSpec.vars = true := by kernel_rfl
theorem Ahh : (Rows.fnGrouplikesRow.plainKeys == Tryz.prog.plainKeys) = true := by kernel_rfl
theorem Akq : Tryz.prog.stopsHeard = true := by kernel_rfl
theorem Anz : Tryz.prog.mayEnter = true := by kernel_rfl
theorem Aow : (Rows.fnGrouplikesRow.lifted == Tryz.prog.liftsFinal) = true := by kernel_rfl
theorem Arh : (Tryz.prog.make == some Rows.fnGrouplikesRow.make) = true := by kernel_rfl
theorem Akn : Tryz.prog.funcNamed Rows.fnGrouplikesRow.func = some 7 := by kernel_rfl
theorem Am4 : joinedFacts Tryz.prog 7 Tryz.f7 Rows.fnGrouplikesSpec Rows.fnGrouplikesRow = true := by
 unfold joinedFacts
 rw [laidOut, Aqp, Ahv, Anb, Aka, Ano, Amw, Ahh, Akq, Anz, Aow, Arh]
 kernel_rfl
theorem fnGrouplikes_holds : Rows.FnGrouplikesSaid :=
 OpenClaim.holds_of_wide 7 Tryz.f7 rfl rfl rfl rfl rfl rfl rfl ⟨rfl, rfl, rfl, rfl, rfl⟩ rfl rfl rfl rfl rfl Akn Tryz.func7 Am4
   (of_decide_eq_true (by kernel_rfl)) (by unfold Func.isWrapper; first | (rw [if_pos (by decide +kernel)]; kernel_rfl) | (rw [if_neg (by decide +kernel)]; exact ⟨rfl, rfl⟩))
   (fun os started H enc _ => lifted os started H enc)
#print axioms fnGrouplikes_holds
end Go.Proofs.YtghcpginhamelaaGreat
