/-
  No cell of these rows narrows 'for every input' (looked for: loops, veiled, ifaces, maps, wideKeys, modest, calm, conditions, laid).
  DERIVED. THE GIVEN ROWS OF THIS SEAT. 10 by the template 'for every input the law returns true; each argument reads behind the call as it read before'; 0 by the template 'total and deterministic' (their statements: YthpbaehnkmmkgaaGreatTotals.lean).
  GIVEN WITH THE SEED: the statements are not yours to turn. If you find one false, say at which input.
  Laid BY PROGRAM, IN A SANDBOX (cutbox-rows.mjs): the forced cells as the released guide's own fill.sh prints them over the translation e453f0f2b00a1b27… (all of the seat's roots in one cut). By AI agents, Wed Nov 11 2026. No macro, syntax, notation, axiom, sorry.
-/
import Derived.Test.YthpbaehnkmmkgaaGreatChecked
import GoSem.Claim
import GoSem.ClaimJoined
import GoSem.ClaimMapViews
import Derived.JoinedTies
import Derived.KernelRfl
namespace Go.Proofs.YthpbaehnkmmkgaaGreat
/- THE CELL 'sum', in the pinned program and in every row, IS THE sha256 OF THE DUMP (.gsa) THAT YthpbaehnkmmkgaaGreatProg.lean LOADS. Nothing in Lean hashes anything: it is a label: what it is worth is what the hold of that sum in a sandbox is worth. -/
noncomputable def Tryz.pinned : Pinned := { name := "ythpbaehnkmmkgaagreat", sum := "e453f0f2b00a1b27c650c09b2fb69ad17cfd6e4731651f206f5df21cbb11b772", checked := Tryz.checked }
namespace Rows
def none {H : Type} : Left H := { results := [], args := [] }

/-- 'laws.FnGenera': WHATEVER THE INPUT: true; the input reads as it did. -/
def fnGeneraSpec : ChangeSpec := { name := "fnGenera", fn := fun _ => fun
  | [d] => { results := [.lit (.bool true)], args := [d] }
  | _ => none }
def fnGeneraRow : OpenClaim := { program := "ythpbaehnkmmkgaagreat", sum := "e453f0f2b00a1b27c650c09b2fb69ad17cfd6e4731651f206f5df21cbb11b772", func := "loop.example/g01152/laws.FnGenera", spec := "fnGenera", unfollowed := true, recurses := true, named := ["math/bits.divideError", "math/bits.overflowError"], apart := false }
def FnGeneraSaid : Prop := fnGeneraRow.holds Tryz.pinned (OpenSpec.ofChange fnGeneraSpec)

/-- ITS FALSE NEIGHBOUR: 'it returns false'. Refute it at one input. -/
def fnGeneraWrong : ChangeSpec := { name := "fnGenera", fn := fun _ => fun
  | [d] => { results := [.lit (.bool false)], args := [d] }
  | _ => none }
def FnGeneraWrongFalsely : Prop := fnGeneraRow.holds Tryz.pinned (OpenSpec.ofChange fnGeneraWrong)

/-- 'laws.FnMilnorGenera': WHATEVER THE INPUT: true; the input reads as it did. -/
def fnMilnorGeneraSpec : ChangeSpec := { name := "fnMilnorGenera", fn := fun _ => fun
  | [d] => { results := [.lit (.bool true)], args := [d] }
  | _ => none }
def fnMilnorGeneraRow : OpenClaim := { program := "ythpbaehnkmmkgaagreat", sum := "e453f0f2b00a1b27c650c09b2fb69ad17cfd6e4731651f206f5df21cbb11b772", func := "loop.example/g01152/laws.FnMilnorGenera", spec := "fnMilnorGenera", unfollowed := true, recurses := true, named := ["math/bits.divideError", "math/bits.overflowError"], apart := false }
def FnMilnorGeneraSaid : Prop := fnMilnorGeneraRow.holds Tryz.pinned (OpenSpec.ofChange fnMilnorGeneraSpec)

/-- ITS FALSE NEIGHBOUR: 'it returns false'. Refute it at one input. -/
def fnMilnorGeneraWrong : ChangeSpec := { name := "fnMilnorGenera", fn := fun _ => fun
  | [d] => { results := [.lit (.bool false)], args := [d] }
  | _ => none }
def FnMilnorGeneraWrongFalsely : Prop := fnMilnorGeneraRow.holds Tryz.pinned (OpenSpec.ofChange fnMilnorGeneraWrong)

/-- 'laws.FnStandardLaws': WHATEVER THE INPUT: true; the input reads as it did. -/
def fnStandardLawsSpec : ChangeSpec := { name := "fnStandardLaws", fn := fun _ => fun
  | [d] => { results := [.lit (.bool true)], args := [d] }
  | _ => none }
def fnStandardLawsRow : OpenClaim := { program := "ythpbaehnkmmkgaagreat", sum := "e453f0f2b00a1b27c650c09b2fb69ad17cfd6e4731651f206f5df21cbb11b772", func := "loop.example/g01152/laws.FnStandardLaws", spec := "fnStandardLaws", unfollowed := true, recurses := true, named := ["math/bits.divideError", "math/bits.overflowError"], apart := false }
def FnStandardLawsSaid : Prop := fnStandardLawsRow.holds Tryz.pinned (OpenSpec.ofChange fnStandardLawsSpec)

/-- ITS FALSE NEIGHBOUR: 'it returns false'. Refute it at one input. -/
def fnStandardLawsWrong : ChangeSpec := { name := "fnStandardLaws", fn := fun _ => fun
  | [d] => { results := [.lit (.bool false)], args := [d] }
  | _ => none }
def FnStandardLawsWrongFalsely : Prop := fnStandardLawsRow.holds Tryz.pinned (OpenSpec.ofChange fnStandardLawsWrong)

/-- 'laws.FnMultiples': WHATEVER THE INPUT: true; the input reads as it did. -/
def fnMultiplesSpec : ChangeSpec := { name := "fnMultiples", fn := fun _ => fun
  | [d] => { results := [.lit (.bool true)], args := [d] }
  | _ => none }
def fnMultiplesRow : OpenClaim := { program := "ythpbaehnkmmkgaagreat", sum := "e453f0f2b00a1b27c650c09b2fb69ad17cfd6e4731651f206f5df21cbb11b772", func := "loop.example/g01152/laws.FnMultiples", spec := "fnMultiples", unfollowed := true, recurses := true, named := ["math/bits.divideError", "math/bits.overflowError"], apart := false }
def FnMultiplesSaid : Prop := fnMultiplesRow.holds Tryz.pinned (OpenSpec.ofChange fnMultiplesSpec)

/-- ITS FALSE NEIGHBOUR: 'it returns false'. Refute it at one input. -/
def fnMultiplesWrong : ChangeSpec := { name := "fnMultiples", fn := fun _ => fun
  | [d] => { results := [.lit (.bool false)], args := [d] }
  | _ => none }
def FnMultiplesWrongFalsely : Prop := fnMultiplesRow.holds Tryz.pinned (OpenSpec.ofChange fnMultiplesWrong)

/-- 'laws.FnPointSums': WHATEVER THE INPUT: true; the input reads as it did. -/
def fnPointSumsSpec : ChangeSpec := { name := "fnPointSums", fn := fun _ => fun
  | [d] => { results := [.lit (.bool true)], args := [d] }
  | _ => none }
def fnPointSumsRow : OpenClaim := { program := "ythpbaehnkmmkgaagreat", sum := "e453f0f2b00a1b27c650c09b2fb69ad17cfd6e4731651f206f5df21cbb11b772", func := "loop.example/g01152/laws.FnPointSums", spec := "fnPointSums", unfollowed := true, recurses := true, named := ["math/bits.divideError", "math/bits.overflowError"], apart := false }
def FnPointSumsSaid : Prop := fnPointSumsRow.holds Tryz.pinned (OpenSpec.ofChange fnPointSumsSpec)

/-- ITS FALSE NEIGHBOUR: 'it returns false'. Refute it at one input. -/
def fnPointSumsWrong : ChangeSpec := { name := "fnPointSums", fn := fun _ => fun
  | [d] => { results := [.lit (.bool false)], args := [d] }
  | _ => none }
def FnPointSumsWrongFalsely : Prop := fnPointSumsRow.holds Tryz.pinned (OpenSpec.ofChange fnPointSumsWrong)

/-- 'laws.FnCocycles': WHATEVER THE INPUT: true; the input reads as it did. -/
def fnCocyclesSpec : ChangeSpec := { name := "fnCocycles", fn := fun _ => fun
  | [d] => { results := [.lit (.bool true)], args := [d] }
  | _ => none }
def fnCocyclesRow : OpenClaim := { program := "ythpbaehnkmmkgaagreat", sum := "e453f0f2b00a1b27c650c09b2fb69ad17cfd6e4731651f206f5df21cbb11b772", func := "loop.example/g01152/laws.FnCocycles", spec := "fnCocycles", unfollowed := true, recurses := true, named := ["math/bits.divideError", "math/bits.overflowError"], apart := false }
def FnCocyclesSaid : Prop := fnCocyclesRow.holds Tryz.pinned (OpenSpec.ofChange fnCocyclesSpec)

/-- ITS FALSE NEIGHBOUR: 'it returns false'. Refute it at one input. -/
def fnCocyclesWrong : ChangeSpec := { name := "fnCocycles", fn := fun _ => fun
  | [d] => { results := [.lit (.bool false)], args := [d] }
  | _ => none }
def FnCocyclesWrongFalsely : Prop := fnCocyclesRow.holds Tryz.pinned (OpenSpec.ofChange fnCocyclesWrong)

/-- 'laws.FnExactInvariantsOfPoints': WHATEVER THE INPUT: true; the input reads as it did. -/
def fnExactInvariantsOfPointsSpec : ChangeSpec := { name := "fnExactInvariantsOfPoints", fn := fun _ => fun
  | [d1, d2] => { results := [.lit (.bool true)], args := [d1, d2] }
  | _ => none }
def fnExactInvariantsOfPointsRow : OpenClaim := { program := "ythpbaehnkmmkgaagreat", sum := "e453f0f2b00a1b27c650c09b2fb69ad17cfd6e4731651f206f5df21cbb11b772", func := "loop.example/g01152/laws.FnExactInvariantsOfPoints", spec := "fnExactInvariantsOfPoints", unfollowed := true, recurses := true, named := ["math/bits.divideError", "math/bits.overflowError"], apart := false }
def FnExactInvariantsOfPointsSaid : Prop := fnExactInvariantsOfPointsRow.holds Tryz.pinned (OpenSpec.ofChange fnExactInvariantsOfPointsSpec)

/-- ITS FALSE NEIGHBOUR: 'it returns false'. Refute it at one input. -/
def fnExactInvariantsOfPointsWrong : ChangeSpec := { name := "fnExactInvariantsOfPoints", fn := fun _ => fun
  | [d1, d2] => { results := [.lit (.bool false)], args := [d1, d2] }
  | _ => none }
def FnExactInvariantsOfPointsWrongFalsely : Prop := fnExactInvariantsOfPointsRow.holds Tryz.pinned (OpenSpec.ofChange fnExactInvariantsOfPointsWrong)

/-- 'laws.FnLogarithms': WHATEVER THE INPUT: true; the input reads as it did. -/
def fnLogarithmsSpec : ChangeSpec := { name := "fnLogarithms", fn := fun _ => fun
  | [d] => { results := [.lit (.bool true)], args := [d] }
  | _ => none }
def fnLogarithmsRow : OpenClaim := { program := "ythpbaehnkmmkgaagreat", sum := "e453f0f2b00a1b27c650c09b2fb69ad17cfd6e4731651f206f5df21cbb11b772", func := "loop.example/g01152/laws.FnLogarithms", spec := "fnLogarithms", unfollowed := true, recurses := true, named := ["math/bits.divideError", "math/bits.overflowError"], apart := false }
def FnLogarithmsSaid : Prop := fnLogarithmsRow.holds Tryz.pinned (OpenSpec.ofChange fnLogarithmsSpec)

/-- ITS FALSE NEIGHBOUR: 'it returns false'. Refute it at one input. -/
def fnLogarithmsWrong : ChangeSpec := { name := "fnLogarithms", fn := fun _ => fun
  | [d] => { results := [.lit (.bool false)], args := [d] }
  | _ => none }
def FnLogarithmsWrongFalsely : Prop := fnLogarithmsRow.holds Tryz.pinned (OpenSpec.ofChange fnLogarithmsWrong)

/-- 'laws.FnCoordinates': WHATEVER THE INPUT: true; the input reads as it did. -/
def fnCoordinatesSpec : ChangeSpec := { name := "fnCoordinates", fn := fun _ => fun
  | [d] => { results := [.lit (.bool true)], args := [d] }
  | _ => none }
def fnCoordinatesRow : OpenClaim := { program := "ythpbaehnkmmkgaagreat", sum := "e453f0f2b00a1b27c650c09b2fb69ad17cfd6e4731651f206f5df21cbb11b772", func := "loop.example/g01152/laws.FnCoordinates", spec := "fnCoordinates", unfollowed := true, recurses := true, named := ["math/bits.divideError", "math/bits.overflowError"], apart := false }
def FnCoordinatesSaid : Prop := fnCoordinatesRow.holds Tryz.pinned (OpenSpec.ofChange fnCoordinatesSpec)

/-- ITS FALSE NEIGHBOUR: 'it returns false'. Refute it at one input. -/
def fnCoordinatesWrong : ChangeSpec := { name := "fnCoordinates", fn := fun _ => fun
  | [d] => { results := [.lit (.bool false)], args := [d] }
  | _ => none }
def FnCoordinatesWrongFalsely : Prop := fnCoordinatesRow.holds Tryz.pinned (OpenSpec.ofChange fnCoordinatesWrong)

/-- 'laws.FnDuals': WHATEVER THE INPUT: true; the input reads as it did. -/
def fnDualsSpec : ChangeSpec := { name := "fnDuals", fn := fun _ => fun
  | [d] => { results := [.lit (.bool true)], args := [d] }
  | _ => none }
def fnDualsRow : OpenClaim := { program := "ythpbaehnkmmkgaagreat", sum := "e453f0f2b00a1b27c650c09b2fb69ad17cfd6e4731651f206f5df21cbb11b772", func := "loop.example/g01152/laws.FnDuals", spec := "fnDuals", unfollowed := true, recurses := true, named := ["math/bits.divideError", "math/bits.overflowError"], apart := false }
def FnDualsSaid : Prop := fnDualsRow.holds Tryz.pinned (OpenSpec.ofChange fnDualsSpec)

/-- ITS FALSE NEIGHBOUR: 'it returns false'. Refute it at one input. -/
def fnDualsWrong : ChangeSpec := { name := "fnDuals", fn := fun _ => fun
  | [d] => { results := [.lit (.bool false)], args := [d] }
  | _ => none }
def FnDualsWrongFalsely : Prop := fnDualsRow.holds Tryz.pinned (OpenSpec.ofChange fnDualsWrong)

/- THE SECOND FORM. 'bulk': how many values and letters a reading holds, each counted each time it is reached (what is shared counts as often as it is met; a slice's spare places count too). A statement '..UptoSaid' is the law's where the arguments, and the package variables that the reading takes, are together of bulk at most 1048576: NARROWER than '..Said'. Prove '..Said' where nothing that the law and all that it calls make is longer than what came in: it says more and counts as full. Else prove '..UptoSaid'. A law counts once. -/
mutual
def uptoBulk {H : Type} : DataW H → Nat
  | .lit (.string bytes) => bytes.length + 1
  | .lit _ => 1
  | .nil => 1
  | .ptr d => uptoBulk d + 1
  | .slice elems spare => uptoBulkAll elems + uptoBulkAll spare + 1
  | .agg parts => uptoBulkAll parts + 1
  | .iface _ d => uptoBulk d + 1
  | .map entries => uptoBulkEntries entries + 1
  | .held _ => 1
def uptoBulkAll {H : Type} : List (DataW H) → Nat
  | [] => 0
  | d :: r => uptoBulk d + uptoBulkAll r
def uptoBulkEntries {H : Type} : List (Lit × DataW H) → Nat
  | [] => 0
  | x :: r => uptoBulkEntry x + uptoBulkEntries r
def uptoBulkEntry {H : Type} : Lit × DataW H → Nat
  | (.string bytes, d) => bytes.length + uptoBulk d + 1
  | (_, d) => uptoBulk d + 1
 end
def uptoSmall : (H : Type) → List (DataW H) → Bool := fun _ ds => decide (uptoBulkAll ds ≤ 1048576)
def OpenSpec.upto (s : _root_.Go.ChangeSpec) : _root_.Go.OpenSpec := { _root_.Go.OpenSpec.ofChange s with cond := some uptoSmall }

/-- 'laws.FnGenera', WHERE WHAT IT READS IS OF BULK AT MOST 1048576: true; the input reads as it did. -/
def fnGeneraUptoRow : OpenClaim := { program := "ythpbaehnkmmkgaagreat", sum := "e453f0f2b00a1b27c650c09b2fb69ad17cfd6e4731651f206f5df21cbb11b772", func := "loop.example/g01152/laws.FnGenera", spec := "fnGenera", unfollowed := true, recurses := true, named := ["math/bits.divideError", "math/bits.overflowError"], apart := false, narrowed := true }
def FnGeneraUptoSaid : Prop := fnGeneraUptoRow.holds Tryz.pinned (OpenSpec.upto fnGeneraSpec)

/-- 'laws.FnMilnorGenera', WHERE WHAT IT READS IS OF BULK AT MOST 1048576: true; the input reads as it did. -/
def fnMilnorGeneraUptoRow : OpenClaim := { program := "ythpbaehnkmmkgaagreat", sum := "e453f0f2b00a1b27c650c09b2fb69ad17cfd6e4731651f206f5df21cbb11b772", func := "loop.example/g01152/laws.FnMilnorGenera", spec := "fnMilnorGenera", unfollowed := true, recurses := true, named := ["math/bits.divideError", "math/bits.overflowError"], apart := false, narrowed := true }
def FnMilnorGeneraUptoSaid : Prop := fnMilnorGeneraUptoRow.holds Tryz.pinned (OpenSpec.upto fnMilnorGeneraSpec)

/-- 'laws.FnStandardLaws', WHERE WHAT IT READS IS OF BULK AT MOST 1048576: true; the input reads as it did. -/
def fnStandardLawsUptoRow : OpenClaim := { program := "ythpbaehnkmmkgaagreat", sum := "e453f0f2b00a1b27c650c09b2fb69ad17cfd6e4731651f206f5df21cbb11b772", func := "loop.example/g01152/laws.FnStandardLaws", spec := "fnStandardLaws", unfollowed := true, recurses := true, named := ["math/bits.divideError", "math/bits.overflowError"], apart := false, narrowed := true }
def FnStandardLawsUptoSaid : Prop := fnStandardLawsUptoRow.holds Tryz.pinned (OpenSpec.upto fnStandardLawsSpec)

/-- 'laws.FnMultiples', WHERE WHAT IT READS IS OF BULK AT MOST 1048576: true; the input reads as it did. -/
def fnMultiplesUptoRow : OpenClaim := { program := "ythpbaehnkmmkgaagreat", sum := "e453f0f2b00a1b27c650c09b2fb69ad17cfd6e4731651f206f5df21cbb11b772", func := "loop.example/g01152/laws.FnMultiples", spec := "fnMultiples", unfollowed := true, recurses := true, named := ["math/bits.divideError", "math/bits.overflowError"], apart := false, narrowed := true }
def FnMultiplesUptoSaid : Prop := fnMultiplesUptoRow.holds Tryz.pinned (OpenSpec.upto fnMultiplesSpec)

/-- 'laws.FnPointSums', WHERE WHAT IT READS IS OF BULK AT MOST 1048576: true; the input reads as it did. -/
def fnPointSumsUptoRow : OpenClaim := { program := "ythpbaehnkmmkgaagreat", sum := "e453f0f2b00a1b27c650c09b2fb69ad17cfd6e4731651f206f5df21cbb11b772", func := "loop.example/g01152/laws.FnPointSums", spec := "fnPointSums", unfollowed := true, recurses := true, named := ["math/bits.divideError", "math/bits.overflowError"], apart := false, narrowed := true }
def FnPointSumsUptoSaid : Prop := fnPointSumsUptoRow.holds Tryz.pinned (OpenSpec.upto fnPointSumsSpec)

/-- 'laws.FnCocycles', WHERE WHAT IT READS IS OF BULK AT MOST 1048576: true; the input reads as it did. -/
def fnCocyclesUptoRow : OpenClaim := { program := "ythpbaehnkmmkgaagreat", sum := "e453f0f2b00a1b27c650c09b2fb69ad17cfd6e4731651f206f5df21cbb11b772", func := "loop.example/g01152/laws.FnCocycles", spec := "fnCocycles", unfollowed := true, recurses := true, named := ["math/bits.divideError", "math/bits.overflowError"], apart := false, narrowed := true }
def FnCocyclesUptoSaid : Prop := fnCocyclesUptoRow.holds Tryz.pinned (OpenSpec.upto fnCocyclesSpec)

/-- 'laws.FnExactInvariantsOfPoints', WHERE WHAT IT READS IS OF BULK AT MOST 1048576: true; the input reads as it did. -/
def fnExactInvariantsOfPointsUptoRow : OpenClaim := { program := "ythpbaehnkmmkgaagreat", sum := "e453f0f2b00a1b27c650c09b2fb69ad17cfd6e4731651f206f5df21cbb11b772", func := "loop.example/g01152/laws.FnExactInvariantsOfPoints", spec := "fnExactInvariantsOfPoints", unfollowed := true, recurses := true, named := ["math/bits.divideError", "math/bits.overflowError"], apart := false, narrowed := true }
def FnExactInvariantsOfPointsUptoSaid : Prop := fnExactInvariantsOfPointsUptoRow.holds Tryz.pinned (OpenSpec.upto fnExactInvariantsOfPointsSpec)

/-- 'laws.FnLogarithms', WHERE WHAT IT READS IS OF BULK AT MOST 1048576: true; the input reads as it did. -/
def fnLogarithmsUptoRow : OpenClaim := { program := "ythpbaehnkmmkgaagreat", sum := "e453f0f2b00a1b27c650c09b2fb69ad17cfd6e4731651f206f5df21cbb11b772", func := "loop.example/g01152/laws.FnLogarithms", spec := "fnLogarithms", unfollowed := true, recurses := true, named := ["math/bits.divideError", "math/bits.overflowError"], apart := false, narrowed := true }
def FnLogarithmsUptoSaid : Prop := fnLogarithmsUptoRow.holds Tryz.pinned (OpenSpec.upto fnLogarithmsSpec)

/-- 'laws.FnCoordinates', WHERE WHAT IT READS IS OF BULK AT MOST 1048576: true; the input reads as it did. -/
def fnCoordinatesUptoRow : OpenClaim := { program := "ythpbaehnkmmkgaagreat", sum := "e453f0f2b00a1b27c650c09b2fb69ad17cfd6e4731651f206f5df21cbb11b772", func := "loop.example/g01152/laws.FnCoordinates", spec := "fnCoordinates", unfollowed := true, recurses := true, named := ["math/bits.divideError", "math/bits.overflowError"], apart := false, narrowed := true }
def FnCoordinatesUptoSaid : Prop := fnCoordinatesUptoRow.holds Tryz.pinned (OpenSpec.upto fnCoordinatesSpec)

/-- 'laws.FnDuals', WHERE WHAT IT READS IS OF BULK AT MOST 1048576: true; the input reads as it did. -/
def fnDualsUptoRow : OpenClaim := { program := "ythpbaehnkmmkgaagreat", sum := "e453f0f2b00a1b27c650c09b2fb69ad17cfd6e4731651f206f5df21cbb11b772", func := "loop.example/g01152/laws.FnDuals", spec := "fnDuals", unfollowed := true, recurses := true, named := ["math/bits.divideError", "math/bits.overflowError"], apart := false, narrowed := true }
def FnDualsUptoSaid : Prop := fnDualsUptoRow.holds Tryz.pinned (OpenSpec.upto fnDualsSpec)

end Rows
end Go.Proofs.YthpbaehnkmmkgaaGreat
