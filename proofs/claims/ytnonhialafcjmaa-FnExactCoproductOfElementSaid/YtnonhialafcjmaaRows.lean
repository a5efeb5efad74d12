/-
  No cell of these rows narrows 'for every input' (looked for: loops, veiled, ifaces, maps, wideKeys, modest, calm, conditions, laid).
  DERIVED. THE GIVEN ROWS OF THIS SEAT. 11 by the template 'for every input the law returns true; each argument reads behind the call as it read before'; 0 by the template 'total and deterministic' (their statements: YtnonhialafcjmaaTotals.lean).
  GIVEN WITH THE SEED: the statements are not yours to turn. If you find one false, say at which input.
  Laid BY PROGRAM, IN A SANDBOX (cutbox-rows.mjs): the forced cells as the released guide's own fill.sh prints them over the translation 24bb629a71db15b1… (all of the seat's roots in one cut). By AI agents, Wed Nov 11 2026. No macro, syntax, notation, axiom, sorry.
-/
import Derived.Test.YtnonhialafcjmaaChecked
import GoSem.Claim
import GoSem.ClaimJoined
import GoSem.ClaimMapViews
import Derived.JoinedTies
import Derived.KernelRfl
namespace Go.Proofs.Ytnonhialafcjmaa
/- THE CELL 'sum', in the pinned program and in every row, IS THE sha256 OF THE DUMP (.gsa) THAT YtnonhialafcjmaaProg.lean LOADS. Nothing in Lean hashes anything: it is a label: what it is worth is what the hold of that sum in a sandbox is worth. -/
noncomputable def Try.pinned : Pinned := { name := "ytnonhialafcjmaa", sum := "24bb629a71db15b147db2604fd7e8ef45d251582e7439c20116256e5c19ebb3e", checked := Try.checked }
namespace Rows
def none {H : Type} : Left H := { results := [], args := [] }

/-- 'laws.FnExactIsCocycle': WHATEVER THE INPUT: true; the input reads as it did. -/
def fnExactIsCocycleSpec : ChangeSpec := { name := "fnExactIsCocycle", fn := fun _ => fun
  | [d] => { results := [.lit (.bool true)], args := [d] }
  | _ => none }
def fnExactIsCocycleRow : OpenClaim := { program := "ytnonhialafcjmaa", sum := "24bb629a71db15b147db2604fd7e8ef45d251582e7439c20116256e5c19ebb3e", func := "loop.example/g01152/laws.FnExactIsCocycle", spec := "fnExactIsCocycle", unfollowed := true, recurses := true, apart := false }
def FnExactIsCocycleSaid : Prop := fnExactIsCocycleRow.holds Try.pinned (OpenSpec.ofChange fnExactIsCocycleSpec)

/-- ITS FALSE NEIGHBOUR: 'it returns false'. Refute it at one input. -/
def fnExactIsCocycleWrong : ChangeSpec := { name := "fnExactIsCocycle", fn := fun _ => fun
  | [d] => { results := [.lit (.bool false)], args := [d] }
  | _ => none }
def FnExactIsCocycleWrongFalsely : Prop := fnExactIsCocycleRow.holds Try.pinned (OpenSpec.ofChange fnExactIsCocycleWrong)

/-- 'laws.FnExactCocycleFactor': WHATEVER THE INPUT: true; the input reads as it did. -/
def fnExactCocycleFactorSpec : ChangeSpec := { name := "fnExactCocycleFactor", fn := fun _ => fun
  | [d] => { results := [.lit (.bool true)], args := [d] }
  | _ => none }
def fnExactCocycleFactorRow : OpenClaim := { program := "ytnonhialafcjmaa", sum := "24bb629a71db15b147db2604fd7e8ef45d251582e7439c20116256e5c19ebb3e", func := "loop.example/g01152/laws.FnExactCocycleFactor", spec := "fnExactCocycleFactor", unfollowed := true, recurses := true, apart := false }
def FnExactCocycleFactorSaid : Prop := fnExactCocycleFactorRow.holds Try.pinned (OpenSpec.ofChange fnExactCocycleFactorSpec)

/-- ITS FALSE NEIGHBOUR: 'it returns false'. Refute it at one input. -/
def fnExactCocycleFactorWrong : ChangeSpec := { name := "fnExactCocycleFactor", fn := fun _ => fun
  | [d] => { results := [.lit (.bool false)], args := [d] }
  | _ => none }
def FnExactCocycleFactorWrongFalsely : Prop := fnExactCocycleFactorRow.holds Try.pinned (OpenSpec.ofChange fnExactCocycleFactorWrong)

/-- 'laws.FnExactIsDesk': WHATEVER THE INPUT: true; the input reads as it did. -/
def fnExactIsDeskSpec : ChangeSpec := { name := "fnExactIsDesk", fn := fun _ => fun
  | [d] => { results := [.lit (.bool true)], args := [d] }
  | _ => none }
def fnExactIsDeskRow : OpenClaim := { program := "ytnonhialafcjmaa", sum := "24bb629a71db15b147db2604fd7e8ef45d251582e7439c20116256e5c19ebb3e", func := "loop.example/g01152/laws.FnExactIsDesk", spec := "fnExactIsDesk", unfollowed := true, recurses := true, named := ["math/bits.divideError", "math/bits.overflowError"], apart := false }
def FnExactIsDeskSaid : Prop := fnExactIsDeskRow.holds Try.pinned (OpenSpec.ofChange fnExactIsDeskSpec)

/-- ITS FALSE NEIGHBOUR: 'it returns false'. Refute it at one input. -/
def fnExactIsDeskWrong : ChangeSpec := { name := "fnExactIsDesk", fn := fun _ => fun
  | [d] => { results := [.lit (.bool false)], args := [d] }
  | _ => none }
def FnExactIsDeskWrongFalsely : Prop := fnExactIsDeskRow.holds Try.pinned (OpenSpec.ofChange fnExactIsDeskWrong)

/-- 'laws.FnExactLawOfGenus': WHATEVER THE INPUT: true; the input reads as it did. -/
def fnExactLawOfGenusSpec : ChangeSpec := { name := "fnExactLawOfGenus", fn := fun _ => fun
  | [d] => { results := [.lit (.bool true)], args := [d] }
  | _ => none }
def fnExactLawOfGenusRow : OpenClaim := { program := "ytnonhialafcjmaa", sum := "24bb629a71db15b147db2604fd7e8ef45d251582e7439c20116256e5c19ebb3e", func := "loop.example/g01152/laws.FnExactLawOfGenus", spec := "fnExactLawOfGenus", unfollowed := true, recurses := true, named := ["math/bits.divideError", "math/bits.overflowError"], apart := false }
def FnExactLawOfGenusSaid : Prop := fnExactLawOfGenusRow.holds Try.pinned (OpenSpec.ofChange fnExactLawOfGenusSpec)

/-- ITS FALSE NEIGHBOUR: 'it returns false'. Refute it at one input. -/
def fnExactLawOfGenusWrong : ChangeSpec := { name := "fnExactLawOfGenus", fn := fun _ => fun
  | [d] => { results := [.lit (.bool false)], args := [d] }
  | _ => none }
def FnExactLawOfGenusWrongFalsely : Prop := fnExactLawOfGenusRow.holds Try.pinned (OpenSpec.ofChange fnExactLawOfGenusWrong)

/-- 'laws.FnExactIsTypicalCurve': WHATEVER THE INPUT: true; the input reads as it did. -/
def fnExactIsTypicalCurveSpec : ChangeSpec := { name := "fnExactIsTypicalCurve", fn := fun _ => fun
  | [d1, d2, d3] => { results := [.lit (.bool true)], args := [d1, d2, d3] }
  | _ => none }
def fnExactIsTypicalCurveRow : OpenClaim := { program := "ytnonhialafcjmaa", sum := "24bb629a71db15b147db2604fd7e8ef45d251582e7439c20116256e5c19ebb3e", func := "loop.example/g01152/laws.FnExactIsTypicalCurve", spec := "fnExactIsTypicalCurve", unfollowed := true, recurses := true, named := ["math/bits.divideError", "math/bits.overflowError"], apart := false }
def FnExactIsTypicalCurveSaid : Prop := fnExactIsTypicalCurveRow.holds Try.pinned (OpenSpec.ofChange fnExactIsTypicalCurveSpec)

/-- ITS FALSE NEIGHBOUR: 'it returns false'. Refute it at one input. -/
def fnExactIsTypicalCurveWrong : ChangeSpec := { name := "fnExactIsTypicalCurve", fn := fun _ => fun
  | [d1, d2, d3] => { results := [.lit (.bool false)], args := [d1, d2, d3] }
  | _ => none }
def FnExactIsTypicalCurveWrongFalsely : Prop := fnExactIsTypicalCurveRow.holds Try.pinned (OpenSpec.ofChange fnExactIsTypicalCurveWrong)

/-- 'laws.FnExactCoproductOf': WHATEVER THE INPUT: true; the input reads as it did. -/
def fnExactCoproductOfSpec : ChangeSpec := { name := "fnExactCoproductOf", fn := fun _ => fun
  | [d] => { results := [.lit (.bool true)], args := [d] }
  | _ => none }
def fnExactCoproductOfRow : OpenClaim := { program := "ytnonhialafcjmaa", sum := "24bb629a71db15b147db2604fd7e8ef45d251582e7439c20116256e5c19ebb3e", func := "loop.example/g01152/laws.FnExactCoproductOf", spec := "fnExactCoproductOf", unfollowed := true, recurses := true, named := ["math/bits.divideError", "math/bits.overflowError"], apart := false }
def FnExactCoproductOfSaid : Prop := fnExactCoproductOfRow.holds Try.pinned (OpenSpec.ofChange fnExactCoproductOfSpec)

/-- ITS FALSE NEIGHBOUR: 'it returns false'. Refute it at one input. -/
def fnExactCoproductOfWrong : ChangeSpec := { name := "fnExactCoproductOf", fn := fun _ => fun
  | [d] => { results := [.lit (.bool false)], args := [d] }
  | _ => none }
def FnExactCoproductOfWrongFalsely : Prop := fnExactCoproductOfRow.holds Try.pinned (OpenSpec.ofChange fnExactCoproductOfWrong)

/-- 'laws.FnExactMultiplyElements': WHATEVER THE INPUT: true; the input reads as it did. -/
def fnExactMultiplyElementsSpec : ChangeSpec := { name := "fnExactMultiplyElements", fn := fun _ => fun
  | [d1, d2, d3] => { results := [.lit (.bool true)], args := [d1, d2, d3] }
  | _ => none }
def fnExactMultiplyElementsRow : OpenClaim := { program := "ytnonhialafcjmaa", sum := "24bb629a71db15b147db2604fd7e8ef45d251582e7439c20116256e5c19ebb3e", func := "loop.example/g01152/laws.FnExactMultiplyElements", spec := "fnExactMultiplyElements", unfollowed := true, recurses := true, named := ["math/bits.divideError", "math/bits.overflowError"], apart := false }
def FnExactMultiplyElementsSaid : Prop := fnExactMultiplyElementsRow.holds Try.pinned (OpenSpec.ofChange fnExactMultiplyElementsSpec)

/-- ITS FALSE NEIGHBOUR: 'it returns false'. Refute it at one input. -/
def fnExactMultiplyElementsWrong : ChangeSpec := { name := "fnExactMultiplyElements", fn := fun _ => fun
  | [d1, d2, d3] => { results := [.lit (.bool false)], args := [d1, d2, d3] }
  | _ => none }
def FnExactMultiplyElementsWrongFalsely : Prop := fnExactMultiplyElementsRow.holds Try.pinned (OpenSpec.ofChange fnExactMultiplyElementsWrong)

/-- 'laws.FnExactFrobeniusUnder': WHATEVER THE INPUT: true; the input reads as it did. -/
def fnExactFrobeniusUnderSpec : ChangeSpec := { name := "fnExactFrobeniusUnder", fn := fun _ => fun
  | [d1, d2, d3] => { results := [.lit (.bool true)], args := [d1, d2, d3] }
  | _ => none }
def fnExactFrobeniusUnderRow : OpenClaim := { program := "ytnonhialafcjmaa", sum := "24bb629a71db15b147db2604fd7e8ef45d251582e7439c20116256e5c19ebb3e", func := "loop.example/g01152/laws.FnExactFrobeniusUnder", spec := "fnExactFrobeniusUnder", unfollowed := true, recurses := true, named := ["math/bits.divideError", "math/bits.overflowError"], apart := false }
def FnExactFrobeniusUnderSaid : Prop := fnExactFrobeniusUnderRow.holds Try.pinned (OpenSpec.ofChange fnExactFrobeniusUnderSpec)

/-- ITS FALSE NEIGHBOUR: 'it returns false'. Refute it at one input. -/
def fnExactFrobeniusUnderWrong : ChangeSpec := { name := "fnExactFrobeniusUnder", fn := fun _ => fun
  | [d1, d2, d3] => { results := [.lit (.bool false)], args := [d1, d2, d3] }
  | _ => none }
def FnExactFrobeniusUnderWrongFalsely : Prop := fnExactFrobeniusUnderRow.holds Try.pinned (OpenSpec.ofChange fnExactFrobeniusUnderWrong)

/-- 'laws.FnExactNormUnder': WHATEVER THE INPUT: true; the input reads as it did. -/
def fnExactNormUnderSpec : ChangeSpec := { name := "fnExactNormUnder", fn := fun _ => fun
  | [d1, d2, d3] => { results := [.lit (.bool true)], args := [d1, d2, d3] }
  | _ => none }
def fnExactNormUnderRow : OpenClaim := { program := "ytnonhialafcjmaa", sum := "24bb629a71db15b147db2604fd7e8ef45d251582e7439c20116256e5c19ebb3e", func := "loop.example/g01152/laws.FnExactNormUnder", spec := "fnExactNormUnder", unfollowed := true, recurses := true, named := ["math/bits.divideError", "math/bits.overflowError"], apart := false }
def FnExactNormUnderSaid : Prop := fnExactNormUnderRow.holds Try.pinned (OpenSpec.ofChange fnExactNormUnderSpec)

/-- ITS FALSE NEIGHBOUR: 'it returns false'. Refute it at one input. -/
def fnExactNormUnderWrong : ChangeSpec := { name := "fnExactNormUnder", fn := fun _ => fun
  | [d1, d2, d3] => { results := [.lit (.bool false)], args := [d1, d2, d3] }
  | _ => none }
def FnExactNormUnderWrongFalsely : Prop := fnExactNormUnderRow.holds Try.pinned (OpenSpec.ofChange fnExactNormUnderWrong)

/-- 'laws.FnExactMultiplyDual': WHATEVER THE INPUT: true; the input reads as it did. -/
def fnExactMultiplyDualSpec : ChangeSpec := { name := "fnExactMultiplyDual", fn := fun _ => fun
  | [d1, d2, d3] => { results := [.lit (.bool true)], args := [d1, d2, d3] }
  | _ => none }
def fnExactMultiplyDualRow : OpenClaim := { program := "ytnonhialafcjmaa", sum := "24bb629a71db15b147db2604fd7e8ef45d251582e7439c20116256e5c19ebb3e", func := "loop.example/g01152/laws.FnExactMultiplyDual", spec := "fnExactMultiplyDual", unfollowed := true, recurses := true, named := ["math/bits.divideError", "math/bits.overflowError"], apart := false }
def FnExactMultiplyDualSaid : Prop := fnExactMultiplyDualRow.holds Try.pinned (OpenSpec.ofChange fnExactMultiplyDualSpec)

/-- ITS FALSE NEIGHBOUR: 'it returns false'. Refute it at one input. -/
def fnExactMultiplyDualWrong : ChangeSpec := { name := "fnExactMultiplyDual", fn := fun _ => fun
  | [d1, d2, d3] => { results := [.lit (.bool false)], args := [d1, d2, d3] }
  | _ => none }
def FnExactMultiplyDualWrongFalsely : Prop := fnExactMultiplyDualRow.holds Try.pinned (OpenSpec.ofChange fnExactMultiplyDualWrong)

/-- 'laws.FnExactCoproductOfElement': WHATEVER THE INPUT: true; the input reads as it did. -/
def fnExactCoproductOfElementSpec : ChangeSpec := { name := "fnExactCoproductOfElement", fn := fun _ => fun
  | [d1, d2] => { results := [.lit (.bool true)], args := [d1, d2] }
  | _ => none }
def fnExactCoproductOfElementRow : OpenClaim := { program := "ytnonhialafcjmaa", sum := "24bb629a71db15b147db2604fd7e8ef45d251582e7439c20116256e5c19ebb3e", func := "loop.example/g01152/laws.FnExactCoproductOfElement", spec := "fnExactCoproductOfElement", unfollowed := true, recurses := true, named := ["math/bits.divideError", "math/bits.overflowError"], apart := false }
def FnExactCoproductOfElementSaid : Prop := fnExactCoproductOfElementRow.holds Try.pinned (OpenSpec.ofChange fnExactCoproductOfElementSpec)

/-- ITS FALSE NEIGHBOUR: 'it returns false'. Refute it at one input. -/
def fnExactCoproductOfElementWrong : ChangeSpec := { name := "fnExactCoproductOfElement", fn := fun _ => fun
  | [d1, d2] => { results := [.lit (.bool false)], args := [d1, d2] }
  | _ => none }
def FnExactCoproductOfElementWrongFalsely : Prop := fnExactCoproductOfElementRow.holds Try.pinned (OpenSpec.ofChange fnExactCoproductOfElementWrong)

/- THE SECOND FORM. 'bulk': how many values and letters a reading holds, each counted each time it is reached (what is shared counts as often as it is met; a slice's spare places count too). A statement '..UptoSaid' is the law's where the arguments, and the package variables that the reading takes, are together of bulk at most 1048576: NARROWER than '..Said'. Prove '..Said' where nothing that the law and all that it calls make is longer than what came in: it says more and counts as full. Else prove '..UptoSaid'. A law counts once. -/
mutual
def uptoBulk {H : Type} : DataW H → Nat
  | .lit (.string bytes) => bytes.length + 1
  | .lit _ => 1
  | .nil => 1
  | .ptr d => uptoBulk d + 1
  | .slice elems spare => uptoBulkAll elems + uptoBulkAll spare + 1
  | .agg parts => uptoBulkAll parts + 1
  | .iface _ d => uptoBulk d + 1
  | .map entries => uptoBulkEntries entries + 1
  | .held _ => 1
def uptoBulkAll {H : Type} : List (DataW H) → Nat
  | [] => 0
  | d :: r => uptoBulk d + uptoBulkAll r
def uptoBulkEntries {H : Type} : List (Lit × DataW H) → Nat
  | [] => 0
  | x :: r => uptoBulkEntry x + uptoBulkEntries r
def uptoBulkEntry {H : Type} : Lit × DataW H → Nat
  | (.string bytes, d) => bytes.length + uptoBulk d + 1
  | (_, d) => uptoBulk d + 1
 end
def uptoSmall : (H : Type) → List (DataW H) → Bool := fun _ ds => decide (uptoBulkAll ds ≤ 1048576)
def OpenSpec.upto (s : _root_.Go.ChangeSpec) : _root_.Go.OpenSpec := { _root_.Go.OpenSpec.ofChange s with cond := some uptoSmall }

/-- 'laws.FnExactIsCocycle', WHERE WHAT IT READS IS OF BULK AT MOST 1048576: true; the input reads as it did. -/
def fnExactIsCocycleUptoRow : OpenClaim := { program := "ytnonhialafcjmaa", sum := "24bb629a71db15b147db2604fd7e8ef45d251582e7439c20116256e5c19ebb3e", func := "loop.example/g01152/laws.FnExactIsCocycle", spec := "fnExactIsCocycle", unfollowed := true, recurses := true, apart := false, narrowed := true }
def FnExactIsCocycleUptoSaid : Prop := fnExactIsCocycleUptoRow.holds Try.pinned (OpenSpec.upto fnExactIsCocycleSpec)

/-- 'laws.FnExactCocycleFactor', WHERE WHAT IT READS IS OF BULK AT MOST 1048576: true; the input reads as it did. -/
def fnExactCocycleFactorUptoRow : OpenClaim := { program := "ytnonhialafcjmaa", sum := "24bb629a71db15b147db2604fd7e8ef45d251582e7439c20116256e5c19ebb3e", func := "loop.example/g01152/laws.FnExactCocycleFactor", spec := "fnExactCocycleFactor", unfollowed := true, recurses := true, apart := false, narrowed := true }
def FnExactCocycleFactorUptoSaid : Prop := fnExactCocycleFactorUptoRow.holds Try.pinned (OpenSpec.upto fnExactCocycleFactorSpec)

/-- 'laws.FnExactIsDesk', WHERE WHAT IT READS IS OF BULK AT MOST 1048576: true; the input reads as it did. -/
def fnExactIsDeskUptoRow : OpenClaim := { program := "ytnonhialafcjmaa", sum := "24bb629a71db15b147db2604fd7e8ef45d251582e7439c20116256e5c19ebb3e", func := "loop.example/g01152/laws.FnExactIsDesk", spec := "fnExactIsDesk", unfollowed := true, recurses := true, named := ["math/bits.divideError", "math/bits.overflowError"], apart := false, narrowed := true }
def FnExactIsDeskUptoSaid : Prop := fnExactIsDeskUptoRow.holds Try.pinned (OpenSpec.upto fnExactIsDeskSpec)

/-- 'laws.FnExactLawOfGenus', WHERE WHAT IT READS IS OF BULK AT MOST 1048576: true; the input reads as it did. -/
def fnExactLawOfGenusUptoRow : OpenClaim := { program := "ytnonhialafcjmaa", sum := "24bb629a71db15b147db2604fd7e8ef45d251582e7439c20116256e5c19ebb3e", func := "loop.example/g01152/laws.FnExactLawOfGenus", spec := "fnExactLawOfGenus", unfollowed := true, recurses := true, named := ["math/bits.divideError", "math/bits.overflowError"], apart := false, narrowed := true }
def FnExactLawOfGenusUptoSaid : Prop := fnExactLawOfGenusUptoRow.holds Try.pinned (OpenSpec.upto fnExactLawOfGenusSpec)

/-- 'laws.FnExactIsTypicalCurve', WHERE WHAT IT READS IS OF BULK AT MOST 1048576: true; the input reads as it did. -/
def fnExactIsTypicalCurveUptoRow : OpenClaim := { program := "ytnonhialafcjmaa", sum := "24bb629a71db15b147db2604fd7e8ef45d251582e7439c20116256e5c19ebb3e", func := "loop.example/g01152/laws.FnExactIsTypicalCurve", spec := "fnExactIsTypicalCurve", unfollowed := true, recurses := true, named := ["math/bits.divideError", "math/bits.overflowError"], apart := false, narrowed := true }
def FnExactIsTypicalCurveUptoSaid : Prop := fnExactIsTypicalCurveUptoRow.holds Try.pinned (OpenSpec.upto fnExactIsTypicalCurveSpec)

/-- 'laws.FnExactCoproductOf', WHERE WHAT IT READS IS OF BULK AT MOST 1048576: true; the input reads as it did. -/
def fnExactCoproductOfUptoRow : OpenClaim := { program := "ytnonhialafcjmaa", sum := "24bb629a71db15b147db2604fd7e8ef45d251582e7439c20116256e5c19ebb3e", func := "loop.example/g01152/laws.FnExactCoproductOf", spec := "fnExactCoproductOf", unfollowed := true, recurses := true, named := ["math/bits.divideError", "math/bits.overflowError"], apart := false, narrowed := true }
def FnExactCoproductOfUptoSaid : Prop := fnExactCoproductOfUptoRow.holds Try.pinned (OpenSpec.upto fnExactCoproductOfSpec)

/-- 'laws.FnExactMultiplyElements', WHERE WHAT IT READS IS OF BULK AT MOST 1048576: true; the input reads as it did. -/
def fnExactMultiplyElementsUptoRow : OpenClaim := { program := "ytnonhialafcjmaa", sum := "24bb629a71db15b147db2604fd7e8ef45d251582e7439c20116256e5c19ebb3e", func := "loop.example/g01152/laws.FnExactMultiplyElements", spec := "fnExactMultiplyElements", unfollowed := true, recurses := true, named := ["math/bits.divideError", "math/bits.overflowError"], apart := false, narrowed := true }
def FnExactMultiplyElementsUptoSaid : Prop := fnExactMultiplyElementsUptoRow.holds Try.pinned (OpenSpec.upto fnExactMultiplyElementsSpec)

/-- 'laws.FnExactFrobeniusUnder', WHERE WHAT IT READS IS OF BULK AT MOST 1048576: true; the input reads as it did. -/
def fnExactFrobeniusUnderUptoRow : OpenClaim := { program := "ytnonhialafcjmaa", sum := "24bb629a71db15b147db2604fd7e8ef45d251582e7439c20116256e5c19ebb3e", func := "loop.example/g01152/laws.FnExactFrobeniusUnder", spec := "fnExactFrobeniusUnder", unfollowed := true, recurses := true, named := ["math/bits.divideError", "math/bits.overflowError"], apart := false, narrowed := true }
def FnExactFrobeniusUnderUptoSaid : Prop := fnExactFrobeniusUnderUptoRow.holds Try.pinned (OpenSpec.upto fnExactFrobeniusUnderSpec)

/-- 'laws.FnExactNormUnder', WHERE WHAT IT READS IS OF BULK AT MOST 1048576: true; the input reads as it did. -/
def fnExactNormUnderUptoRow : OpenClaim := { program := "ytnonhialafcjmaa", sum := "24bb629a71db15b147db2604fd7e8ef45d251582e7439c20116256e5c19ebb3e", func := "loop.example/g01152/laws.FnExactNormUnder", spec := "fnExactNormUnder", unfollowed := true, recurses := true, named := ["math/bits.divideError", "math/bits.overflowError"], apart := false, narrowed := true }
def FnExactNormUnderUptoSaid : Prop := fnExactNormUnderUptoRow.holds Try.pinned (OpenSpec.upto fnExactNormUnderSpec)

/-- 'laws.FnExactMultiplyDual', WHERE WHAT IT READS IS OF BULK AT MOST 1048576: true; the input reads as it did. -/
def fnExactMultiplyDualUptoRow : OpenClaim := { program := "ytnonhialafcjmaa", sum := "24bb629a71db15b147db2604fd7e8ef45d251582e7439c20116256e5c19ebb3e", func := "loop.example/g01152/laws.FnExactMultiplyDual", spec := "fnExactMultiplyDual", unfollowed := true, recurses := true, named := ["math/bits.divideError", "math/bits.overflowError"], apart := false, narrowed := true }
def FnExactMultiplyDualUptoSaid : Prop := fnExactMultiplyDualUptoRow.holds Try.pinned (OpenSpec.upto fnExactMultiplyDualSpec)

/-- 'laws.FnExactCoproductOfElement', WHERE WHAT IT READS IS OF BULK AT MOST 1048576: true; the input reads as it did. -/
def fnExactCoproductOfElementUptoRow : OpenClaim := { program := "ytnonhialafcjmaa", sum := "24bb629a71db15b147db2604fd7e8ef45d251582e7439c20116256e5c19ebb3e", func := "loop.example/g01152/laws.FnExactCoproductOfElement", spec := "fnExactCoproductOfElement", unfollowed := true, recurses := true, named := ["math/bits.divideError", "math/bits.overflowError"], apart := false, narrowed := true }
def FnExactCoproductOfElementUptoSaid : Prop := fnExactCoproductOfElementUptoRow.holds Try.pinned (OpenSpec.upto fnExactCoproductOfElementSpec)

end Rows
end Go.Proofs.Ytnonhialafcjmaa
