/-
  No cell of these rows narrows 'for every input' (looked for: loops, veiled, ifaces, maps, wideKeys, modest, calm, conditions, laid).
  DERIVED. THE GIVEN ROWS OF THIS SEAT. 12 by the template 'for every input the law returns true; each argument reads behind the call as it read before'; 0 by the template 'total and deterministic' (their statements: YtbpiacnadjfkhaaTotals.lean).
  GIVEN WITH THE SEED: the statements are not yours to turn. If you find one false, say at which input.
  Laid BY PROGRAM, IN A SANDBOX (cutbox-rows.mjs): the forced cells as the released guide's own fill.sh prints them over the translation ef1c0518cee554fa… (all of the seat's roots in one cut). By AI agents, Wed Nov 11 2026. No macro, syntax, notation, axiom, sorry.
-/
import Derived.Test.YtbpiacnadjfkhaaChecked
import GoSem.Claim
import GoSem.ClaimJoined
import GoSem.ClaimMapViews
import Derived.JoinedTies
import Derived.KernelRfl
namespace Go.Proofs.Ytbpiacnadjfkhaa
/- THE CELL 'sum', in the pinned program and in every row, IS THE sha256 OF THE DUMP (.gsa) THAT YtbpiacnadjfkhaaProg.lean LOADS. Nothing in Lean hashes anything: it is a label: what it is worth is what the hold of that sum in a sandbox is worth. -/
noncomputable def Try.pinned : Pinned := { name := "ytbpiacnadjfkhaa", sum := "ef1c0518cee554faf4885bfff645b787f45d76f08af8e89042256a4f67656669", checked := Try.checked }
namespace Rows
def none {H : Type} : Left H := { results := [], args := [] }

/-- 'laws.FnExactLazardCocycle': WHATEVER THE INPUT: true; the input reads as it did. -/
def fnExactLazardCocycleSpec : ChangeSpec := { name := "fnExactLazardCocycle", fn := fun _ => fun
  | [d1, d2] => { results := [.lit (.bool true)], args := [d1, d2] }
  | _ => none }
def fnExactLazardCocycleRow : OpenClaim := { program := "ytbpiacnadjfkhaa", sum := "ef1c0518cee554faf4885bfff645b787f45d76f08af8e89042256a4f67656669", func := "loop.example/g01152/laws.FnExactLazardCocycle", spec := "fnExactLazardCocycle", apart := false }
def FnExactLazardCocycleSaid : Prop := fnExactLazardCocycleRow.holds Try.pinned (OpenSpec.ofChange fnExactLazardCocycleSpec)

/-- ITS FALSE NEIGHBOUR: 'it returns false'. Refute it at one input. -/
def fnExactLazardCocycleWrong : ChangeSpec := { name := "fnExactLazardCocycle", fn := fun _ => fun
  | [d1, d2] => { results := [.lit (.bool false)], args := [d1, d2] }
  | _ => none }
def FnExactLazardCocycleWrongFalsely : Prop := fnExactLazardCocycleRow.holds Try.pinned (OpenSpec.ofChange fnExactLazardCocycleWrong)

/-- 'laws.FnExactProjectiveGenus': WHATEVER THE INPUT: true; the input reads as it did. -/
def fnExactProjectiveGenusSpec : ChangeSpec := { name := "fnExactProjectiveGenus", fn := fun _ => fun
  | [d1, d2] => { results := [.lit (.bool true)], args := [d1, d2] }
  | _ => none }
def fnExactProjectiveGenusRow : OpenClaim := { program := "ytbpiacnadjfkhaa", sum := "ef1c0518cee554faf4885bfff645b787f45d76f08af8e89042256a4f67656669", func := "loop.example/g01152/laws.FnExactProjectiveGenus", spec := "fnExactProjectiveGenus", unfollowed := true, recurses := true, named := ["math/bits.divideError", "math/bits.overflowError"], apart := false }
def FnExactProjectiveGenusSaid : Prop := fnExactProjectiveGenusRow.holds Try.pinned (OpenSpec.ofChange fnExactProjectiveGenusSpec)

/-- ITS FALSE NEIGHBOUR: 'it returns false'. Refute it at one input. -/
def fnExactProjectiveGenusWrong : ChangeSpec := { name := "fnExactProjectiveGenus", fn := fun _ => fun
  | [d1, d2] => { results := [.lit (.bool false)], args := [d1, d2] }
  | _ => none }
def FnExactProjectiveGenusWrongFalsely : Prop := fnExactProjectiveGenusRow.holds Try.pinned (OpenSpec.ofChange fnExactProjectiveGenusWrong)

/-- 'laws.FnExactProductOfGenera': WHATEVER THE INPUT: true; the input reads as it did. -/
def fnExactProductOfGeneraSpec : ChangeSpec := { name := "fnExactProductOfGenera", fn := fun _ => fun
  | [d1, d2] => { results := [.lit (.bool true)], args := [d1, d2] }
  | _ => none }
def fnExactProductOfGeneraRow : OpenClaim := { program := "ytbpiacnadjfkhaa", sum := "ef1c0518cee554faf4885bfff645b787f45d76f08af8e89042256a4f67656669", func := "loop.example/g01152/laws.FnExactProductOfGenera", spec := "fnExactProductOfGenera", unfollowed := true, recurses := true, named := ["math/bits.divideError", "math/bits.overflowError"], apart := false }
def FnExactProductOfGeneraSaid : Prop := fnExactProductOfGeneraRow.holds Try.pinned (OpenSpec.ofChange fnExactProductOfGeneraSpec)

/-- ITS FALSE NEIGHBOUR: 'it returns false'. Refute it at one input. -/
def fnExactProductOfGeneraWrong : ChangeSpec := { name := "fnExactProductOfGenera", fn := fun _ => fun
  | [d1, d2] => { results := [.lit (.bool false)], args := [d1, d2] }
  | _ => none }
def FnExactProductOfGeneraWrongFalsely : Prop := fnExactProductOfGeneraRow.holds Try.pinned (OpenSpec.ofChange fnExactProductOfGeneraWrong)

/-- 'laws.FnExactProjectiveGenera': WHATEVER THE INPUT: true; the input reads as it did. -/
def fnExactProjectiveGeneraSpec : ChangeSpec := { name := "fnExactProjectiveGenera", fn := fun _ => fun
  | [d] => { results := [.lit (.bool true)], args := [d] }
  | _ => none }
def fnExactProjectiveGeneraRow : OpenClaim := { program := "ytbpiacnadjfkhaa", sum := "ef1c0518cee554faf4885bfff645b787f45d76f08af8e89042256a4f67656669", func := "loop.example/g01152/laws.FnExactProjectiveGenera", spec := "fnExactProjectiveGenera", unfollowed := true, recurses := true, named := ["math/bits.divideError", "math/bits.overflowError"], apart := false }
def FnExactProjectiveGeneraSaid : Prop := fnExactProjectiveGeneraRow.holds Try.pinned (OpenSpec.ofChange fnExactProjectiveGeneraSpec)

/-- ITS FALSE NEIGHBOUR: 'it returns false'. Refute it at one input. -/
def fnExactProjectiveGeneraWrong : ChangeSpec := { name := "fnExactProjectiveGenera", fn := fun _ => fun
  | [d] => { results := [.lit (.bool false)], args := [d] }
  | _ => none }
def FnExactProjectiveGeneraWrongFalsely : Prop := fnExactProjectiveGeneraRow.holds Try.pinned (OpenSpec.ofChange fnExactProjectiveGeneraWrong)

/-- 'laws.FnExactExponentialOfGenus': WHATEVER THE INPUT: true; the input reads as it did. -/
def fnExactExponentialOfGenusSpec : ChangeSpec := { name := "fnExactExponentialOfGenus", fn := fun _ => fun
  | [d] => { results := [.lit (.bool true)], args := [d] }
  | _ => none }
def fnExactExponentialOfGenusRow : OpenClaim := { program := "ytbpiacnadjfkhaa", sum := "ef1c0518cee554faf4885bfff645b787f45d76f08af8e89042256a4f67656669", func := "loop.example/g01152/laws.FnExactExponentialOfGenus", spec := "fnExactExponentialOfGenus", unfollowed := true, recurses := true, named := ["math/bits.divideError", "math/bits.overflowError"], apart := false }
def FnExactExponentialOfGenusSaid : Prop := fnExactExponentialOfGenusRow.holds Try.pinned (OpenSpec.ofChange fnExactExponentialOfGenusSpec)

/-- ITS FALSE NEIGHBOUR: 'it returns false'. Refute it at one input. -/
def fnExactExponentialOfGenusWrong : ChangeSpec := { name := "fnExactExponentialOfGenus", fn := fun _ => fun
  | [d] => { results := [.lit (.bool false)], args := [d] }
  | _ => none }
def FnExactExponentialOfGenusWrongFalsely : Prop := fnExactExponentialOfGenusRow.holds Try.pinned (OpenSpec.ofChange fnExactExponentialOfGenusWrong)

/-- 'laws.FnExactIsCocycle': WHATEVER THE INPUT: true; the input reads as it did. -/
def fnExactIsCocycleSpec : ChangeSpec := { name := "fnExactIsCocycle", fn := fun _ => fun
  | [d] => { results := [.lit (.bool true)], args := [d] }
  | _ => none }
def fnExactIsCocycleRow : OpenClaim := { program := "ytbpiacnadjfkhaa", sum := "ef1c0518cee554faf4885bfff645b787f45d76f08af8e89042256a4f67656669", func := "loop.example/g01152/laws.FnExactIsCocycle", spec := "fnExactIsCocycle", unfollowed := true, recurses := true, apart := false }
def FnExactIsCocycleSaid : Prop := fnExactIsCocycleRow.holds Try.pinned (OpenSpec.ofChange fnExactIsCocycleSpec)

/-- ITS FALSE NEIGHBOUR: 'it returns false'. Refute it at one input. -/
def fnExactIsCocycleWrong : ChangeSpec := { name := "fnExactIsCocycle", fn := fun _ => fun
  | [d] => { results := [.lit (.bool false)], args := [d] }
  | _ => none }
def FnExactIsCocycleWrongFalsely : Prop := fnExactIsCocycleRow.holds Try.pinned (OpenSpec.ofChange fnExactIsCocycleWrong)

/-- 'laws.FnExactHypersurfaceGenus': WHATEVER THE INPUT: true; the input reads as it did. -/
def fnExactHypersurfaceGenusSpec : ChangeSpec := { name := "fnExactHypersurfaceGenus", fn := fun _ => fun
  | [d1, d2, d3] => { results := [.lit (.bool true)], args := [d1, d2, d3] }
  | _ => none }
def fnExactHypersurfaceGenusRow : OpenClaim := { program := "ytbpiacnadjfkhaa", sum := "ef1c0518cee554faf4885bfff645b787f45d76f08af8e89042256a4f67656669", func := "loop.example/g01152/laws.FnExactHypersurfaceGenus", spec := "fnExactHypersurfaceGenus", unfollowed := true, recurses := true, named := ["math/bits.divideError", "math/bits.overflowError"], apart := false }
def FnExactHypersurfaceGenusSaid : Prop := fnExactHypersurfaceGenusRow.holds Try.pinned (OpenSpec.ofChange fnExactHypersurfaceGenusSpec)

/-- ITS FALSE NEIGHBOUR: 'it returns false'. Refute it at one input. -/
def fnExactHypersurfaceGenusWrong : ChangeSpec := { name := "fnExactHypersurfaceGenus", fn := fun _ => fun
  | [d1, d2, d3] => { results := [.lit (.bool false)], args := [d1, d2, d3] }
  | _ => none }
def FnExactHypersurfaceGenusWrongFalsely : Prop := fnExactHypersurfaceGenusRow.holds Try.pinned (OpenSpec.ofChange fnExactHypersurfaceGenusWrong)

/-- 'laws.FnExactLogarithmOfGenus': WHATEVER THE INPUT: true; the input reads as it did. -/
def fnExactLogarithmOfGenusSpec : ChangeSpec := { name := "fnExactLogarithmOfGenus", fn := fun _ => fun
  | [d] => { results := [.lit (.bool true)], args := [d] }
  | _ => none }
def fnExactLogarithmOfGenusRow : OpenClaim := { program := "ytbpiacnadjfkhaa", sum := "ef1c0518cee554faf4885bfff645b787f45d76f08af8e89042256a4f67656669", func := "loop.example/g01152/laws.FnExactLogarithmOfGenus", spec := "fnExactLogarithmOfGenus", unfollowed := true, recurses := true, named := ["math/bits.divideError", "math/bits.overflowError"], apart := false }
def FnExactLogarithmOfGenusSaid : Prop := fnExactLogarithmOfGenusRow.holds Try.pinned (OpenSpec.ofChange fnExactLogarithmOfGenusSpec)

/-- ITS FALSE NEIGHBOUR: 'it returns false'. Refute it at one input. -/
def fnExactLogarithmOfGenusWrong : ChangeSpec := { name := "fnExactLogarithmOfGenus", fn := fun _ => fun
  | [d] => { results := [.lit (.bool false)], args := [d] }
  | _ => none }
def FnExactLogarithmOfGenusWrongFalsely : Prop := fnExactLogarithmOfGenusRow.holds Try.pinned (OpenSpec.ofChange fnExactLogarithmOfGenusWrong)

/-- 'laws.FnExactNewDesk': WHATEVER THE INPUT: true; the input reads as it did. -/
def fnExactNewDeskSpec : ChangeSpec := { name := "fnExactNewDesk", fn := fun _ => fun
  | [] => { results := [.lit (.bool true)], args := [] }
  | _ => none }
def fnExactNewDeskRow : OpenClaim := { program := "ytbpiacnadjfkhaa", sum := "ef1c0518cee554faf4885bfff645b787f45d76f08af8e89042256a4f67656669", func := "loop.example/g01152/laws.FnExactNewDesk", spec := "fnExactNewDesk", unfollowed := true, recurses := true, named := ["math/bits.divideError", "math/bits.overflowError"], apart := false }
def FnExactNewDeskSaid : Prop := fnExactNewDeskRow.holds Try.pinned (OpenSpec.ofChange fnExactNewDeskSpec)

/-- ITS FALSE NEIGHBOUR: 'it returns false'. Refute it at one input. -/
def fnExactNewDeskWrong : ChangeSpec := { name := "fnExactNewDesk", fn := fun _ => fun
  | [] => { results := [.lit (.bool false)], args := [] }
  | _ => none }
def FnExactNewDeskWrongFalsely : Prop := fnExactNewDeskRow.holds Try.pinned (OpenSpec.ofChange fnExactNewDeskWrong)

/-- 'laws.FnExactHirzebruchSeries': WHATEVER THE INPUT: true; the input reads as it did. -/
def fnExactHirzebruchSeriesSpec : ChangeSpec := { name := "fnExactHirzebruchSeries", fn := fun _ => fun
  | [d1, d2, d3] => { results := [.lit (.bool true)], args := [d1, d2, d3] }
  | _ => none }
def fnExactHirzebruchSeriesRow : OpenClaim := { program := "ytbpiacnadjfkhaa", sum := "ef1c0518cee554faf4885bfff645b787f45d76f08af8e89042256a4f67656669", func := "loop.example/g01152/laws.FnExactHirzebruchSeries", spec := "fnExactHirzebruchSeries", unfollowed := true, recurses := true, named := ["math/bits.divideError", "math/bits.overflowError"], apart := false }
def FnExactHirzebruchSeriesSaid : Prop := fnExactHirzebruchSeriesRow.holds Try.pinned (OpenSpec.ofChange fnExactHirzebruchSeriesSpec)

/-- ITS FALSE NEIGHBOUR: 'it returns false'. Refute it at one input. -/
def fnExactHirzebruchSeriesWrong : ChangeSpec := { name := "fnExactHirzebruchSeries", fn := fun _ => fun
  | [d1, d2, d3] => { results := [.lit (.bool false)], args := [d1, d2, d3] }
  | _ => none }
def FnExactHirzebruchSeriesWrongFalsely : Prop := fnExactHirzebruchSeriesRow.holds Try.pinned (OpenSpec.ofChange fnExactHirzebruchSeriesWrong)

/-- 'laws.FnExactCharacteristicOfGenera': WHATEVER THE INPUT: true; the input reads as it did. -/
def fnExactCharacteristicOfGeneraSpec : ChangeSpec := { name := "fnExactCharacteristicOfGenera", fn := fun _ => fun
  | [d1, d2] => { results := [.lit (.bool true)], args := [d1, d2] }
  | _ => none }
def fnExactCharacteristicOfGeneraRow : OpenClaim := { program := "ytbpiacnadjfkhaa", sum := "ef1c0518cee554faf4885bfff645b787f45d76f08af8e89042256a4f67656669", func := "loop.example/g01152/laws.FnExactCharacteristicOfGenera", spec := "fnExactCharacteristicOfGenera", unfollowed := true, recurses := true, named := ["math/bits.divideError", "math/bits.overflowError"], apart := false }
def FnExactCharacteristicOfGeneraSaid : Prop := fnExactCharacteristicOfGeneraRow.holds Try.pinned (OpenSpec.ofChange fnExactCharacteristicOfGeneraSpec)

/-- ITS FALSE NEIGHBOUR: 'it returns false'. Refute it at one input. -/
def fnExactCharacteristicOfGeneraWrong : ChangeSpec := { name := "fnExactCharacteristicOfGenera", fn := fun _ => fun
  | [d1, d2] => { results := [.lit (.bool false)], args := [d1, d2] }
  | _ => none }
def FnExactCharacteristicOfGeneraWrongFalsely : Prop := fnExactCharacteristicOfGeneraRow.holds Try.pinned (OpenSpec.ofChange fnExactCharacteristicOfGeneraWrong)

/-- 'laws.FnExactMilnorGenus': WHATEVER THE INPUT: true; the input reads as it did. -/
def fnExactMilnorGenusSpec : ChangeSpec := { name := "fnExactMilnorGenus", fn := fun _ => fun
  | [d1, d2, d3] => { results := [.lit (.bool true)], args := [d1, d2, d3] }
  | _ => none }
def fnExactMilnorGenusRow : OpenClaim := { program := "ytbpiacnadjfkhaa", sum := "ef1c0518cee554faf4885bfff645b787f45d76f08af8e89042256a4f67656669", func := "loop.example/g01152/laws.FnExactMilnorGenus", spec := "fnExactMilnorGenus", unfollowed := true, recurses := true, named := ["math/bits.divideError", "math/bits.overflowError"], apart := false }
def FnExactMilnorGenusSaid : Prop := fnExactMilnorGenusRow.holds Try.pinned (OpenSpec.ofChange fnExactMilnorGenusSpec)

/-- ITS FALSE NEIGHBOUR: 'it returns false'. Refute it at one input. -/
def fnExactMilnorGenusWrong : ChangeSpec := { name := "fnExactMilnorGenus", fn := fun _ => fun
  | [d1, d2, d3] => { results := [.lit (.bool false)], args := [d1, d2, d3] }
  | _ => none }
def FnExactMilnorGenusWrongFalsely : Prop := fnExactMilnorGenusRow.holds Try.pinned (OpenSpec.ofChange fnExactMilnorGenusWrong)

/- THE SECOND FORM. 'bulk': how many values and letters a reading holds, each counted each time it is reached (what is shared counts as often as it is met; a slice's spare places count too). A statement '..UptoSaid' is the law's where the arguments, and the package variables that the reading takes, are together of bulk at most 1048576: NARROWER than '..Said'. Prove '..Said' where nothing that the law and all that it calls make is longer than what came in: it says more and counts as full. Else prove '..UptoSaid'. A law counts once. -/
mutual
def uptoBulk {H : Type} : DataW H → Nat
  | .lit (.string bytes) => bytes.length + 1
  | .lit _ => 1
  | .nil => 1
  | .ptr d => uptoBulk d + 1
  | .slice elems spare => uptoBulkAll elems + uptoBulkAll spare + 1
  | .agg parts => uptoBulkAll parts + 1
  | .iface _ d => uptoBulk d + 1
  | .map entries => uptoBulkEntries entries + 1
  | .held _ => 1
def uptoBulkAll {H : Type} : List (DataW H) → Nat
  | [] => 0
  | d :: r => uptoBulk d + uptoBulkAll r
def uptoBulkEntries {H : Type} : List (Lit × DataW H) → Nat
  | [] => 0
  | x :: r => uptoBulkEntry x + uptoBulkEntries r
def uptoBulkEntry {H : Type} : Lit × DataW H → Nat
  | (.string bytes, d) => bytes.length + uptoBulk d + 1
  | (_, d) => uptoBulk d + 1
 end
def uptoSmall : (H : Type) → List (DataW H) → Bool := fun _ ds => decide (uptoBulkAll ds ≤ 1048576)
def OpenSpec.upto (s : _root_.Go.ChangeSpec) : _root_.Go.OpenSpec := { _root_.Go.OpenSpec.ofChange s with cond := some uptoSmall }

/-- 'laws.FnExactLazardCocycle', WHERE WHAT IT READS IS OF BULK AT MOST 1048576: true; the input reads as it did. -/
def fnExactLazardCocycleUptoRow : OpenClaim := { program := "ytbpiacnadjfkhaa", sum := "ef1c0518cee554faf4885bfff645b787f45d76f08af8e89042256a4f67656669", func := "loop.example/g01152/laws.FnExactLazardCocycle", spec := "fnExactLazardCocycle", apart := false, narrowed := true }
def FnExactLazardCocycleUptoSaid : Prop := fnExactLazardCocycleUptoRow.holds Try.pinned (OpenSpec.upto fnExactLazardCocycleSpec)

/-- 'laws.FnExactProjectiveGenus', WHERE WHAT IT READS IS OF BULK AT MOST 1048576: true; the input reads as it did. -/
def fnExactProjectiveGenusUptoRow : OpenClaim := { program := "ytbpiacnadjfkhaa", sum := "ef1c0518cee554faf4885bfff645b787f45d76f08af8e89042256a4f67656669", func := "loop.example/g01152/laws.FnExactProjectiveGenus", spec := "fnExactProjectiveGenus", unfollowed := true, recurses := true, named := ["math/bits.divideError", "math/bits.overflowError"], apart := false, narrowed := true }
def FnExactProjectiveGenusUptoSaid : Prop := fnExactProjectiveGenusUptoRow.holds Try.pinned (OpenSpec.upto fnExactProjectiveGenusSpec)

/-- 'laws.FnExactProductOfGenera', WHERE WHAT IT READS IS OF BULK AT MOST 1048576: true; the input reads as it did. -/
def fnExactProductOfGeneraUptoRow : OpenClaim := { program := "ytbpiacnadjfkhaa", sum := "ef1c0518cee554faf4885bfff645b787f45d76f08af8e89042256a4f67656669", func := "loop.example/g01152/laws.FnExactProductOfGenera", spec := "fnExactProductOfGenera", unfollowed := true, recurses := true, named := ["math/bits.divideError", "math/bits.overflowError"], apart := false, narrowed := true }
def FnExactProductOfGeneraUptoSaid : Prop := fnExactProductOfGeneraUptoRow.holds Try.pinned (OpenSpec.upto fnExactProductOfGeneraSpec)

/-- 'laws.FnExactProjectiveGenera', WHERE WHAT IT READS IS OF BULK AT MOST 1048576: true; the input reads as it did. -/
def fnExactProjectiveGeneraUptoRow : OpenClaim := { program := "ytbpiacnadjfkhaa", sum := "ef1c0518cee554faf4885bfff645b787f45d76f08af8e89042256a4f67656669", func := "loop.example/g01152/laws.FnExactProjectiveGenera", spec := "fnExactProjectiveGenera", unfollowed := true, recurses := true, named := ["math/bits.divideError", "math/bits.overflowError"], apart := false, narrowed := true }
def FnExactProjectiveGeneraUptoSaid : Prop := fnExactProjectiveGeneraUptoRow.holds Try.pinned (OpenSpec.upto fnExactProjectiveGeneraSpec)

/-- 'laws.FnExactExponentialOfGenus', WHERE WHAT IT READS IS OF BULK AT MOST 1048576: true; the input reads as it did. -/
def fnExactExponentialOfGenusUptoRow : OpenClaim := { program := "ytbpiacnadjfkhaa", sum := "ef1c0518cee554faf4885bfff645b787f45d76f08af8e89042256a4f67656669", func := "loop.example/g01152/laws.FnExactExponentialOfGenus", spec := "fnExactExponentialOfGenus", unfollowed := true, recurses := true, named := ["math/bits.divideError", "math/bits.overflowError"], apart := false, narrowed := true }
def FnExactExponentialOfGenusUptoSaid : Prop := fnExactExponentialOfGenusUptoRow.holds Try.pinned (OpenSpec.upto fnExactExponentialOfGenusSpec)

/-- 'laws.FnExactIsCocycle', WHERE WHAT IT READS IS OF BULK AT MOST 1048576: true; the input reads as it did. -/
def fnExactIsCocycleUptoRow : OpenClaim := { program := "ytbpiacnadjfkhaa", sum := "ef1c0518cee554faf4885bfff645b787f45d76f08af8e89042256a4f67656669", func := "loop.example/g01152/laws.FnExactIsCocycle", spec := "fnExactIsCocycle", unfollowed := true, recurses := true, apart := false, narrowed := true }
def FnExactIsCocycleUptoSaid : Prop := fnExactIsCocycleUptoRow.holds Try.pinned (OpenSpec.upto fnExactIsCocycleSpec)

/-- 'laws.FnExactHypersurfaceGenus', WHERE WHAT IT READS IS OF BULK AT MOST 1048576: true; the input reads as it did. -/
def fnExactHypersurfaceGenusUptoRow : OpenClaim := { program := "ytbpiacnadjfkhaa", sum := "ef1c0518cee554faf4885bfff645b787f45d76f08af8e89042256a4f67656669", func := "loop.example/g01152/laws.FnExactHypersurfaceGenus", spec := "fnExactHypersurfaceGenus", unfollowed := true, recurses := true, named := ["math/bits.divideError", "math/bits.overflowError"], apart := false, narrowed := true }
def FnExactHypersurfaceGenusUptoSaid : Prop := fnExactHypersurfaceGenusUptoRow.holds Try.pinned (OpenSpec.upto fnExactHypersurfaceGenusSpec)

/-- 'laws.FnExactLogarithmOfGenus', WHERE WHAT IT READS IS OF BULK AT MOST 1048576: true; the input reads as it did. -/
def fnExactLogarithmOfGenusUptoRow : OpenClaim := { program := "ytbpiacnadjfkhaa", sum := "ef1c0518cee554faf4885bfff645b787f45d76f08af8e89042256a4f67656669", func := "loop.example/g01152/laws.FnExactLogarithmOfGenus", spec := "fnExactLogarithmOfGenus", unfollowed := true, recurses := true, named := ["math/bits.divideError", "math/bits.overflowError"], apart := false, narrowed := true }
def FnExactLogarithmOfGenusUptoSaid : Prop := fnExactLogarithmOfGenusUptoRow.holds Try.pinned (OpenSpec.upto fnExactLogarithmOfGenusSpec)

/-- 'laws.FnExactNewDesk', WHERE WHAT IT READS IS OF BULK AT MOST 1048576: true; the input reads as it did. -/
def fnExactNewDeskUptoRow : OpenClaim := { program := "ytbpiacnadjfkhaa", sum := "ef1c0518cee554faf4885bfff645b787f45d76f08af8e89042256a4f67656669", func := "loop.example/g01152/laws.FnExactNewDesk", spec := "fnExactNewDesk", unfollowed := true, recurses := true, named := ["math/bits.divideError", "math/bits.overflowError"], apart := false, narrowed := true }
def FnExactNewDeskUptoSaid : Prop := fnExactNewDeskUptoRow.holds Try.pinned (OpenSpec.upto fnExactNewDeskSpec)

/-- 'laws.FnExactHirzebruchSeries', WHERE WHAT IT READS IS OF BULK AT MOST 1048576: true; the input reads as it did. -/
def fnExactHirzebruchSeriesUptoRow : OpenClaim := { program := "ytbpiacnadjfkhaa", sum := "ef1c0518cee554faf4885bfff645b787f45d76f08af8e89042256a4f67656669", func := "loop.example/g01152/laws.FnExactHirzebruchSeries", spec := "fnExactHirzebruchSeries", unfollowed := true, recurses := true, named := ["math/bits.divideError", "math/bits.overflowError"], apart := false, narrowed := true }
def FnExactHirzebruchSeriesUptoSaid : Prop := fnExactHirzebruchSeriesUptoRow.holds Try.pinned (OpenSpec.upto fnExactHirzebruchSeriesSpec)

/-- 'laws.FnExactCharacteristicOfGenera', WHERE WHAT IT READS IS OF BULK AT MOST 1048576: true; the input reads as it did. -/
def fnExactCharacteristicOfGeneraUptoRow : OpenClaim := { program := "ytbpiacnadjfkhaa", sum := "ef1c0518cee554faf4885bfff645b787f45d76f08af8e89042256a4f67656669", func := "loop.example/g01152/laws.FnExactCharacteristicOfGenera", spec := "fnExactCharacteristicOfGenera", unfollowed := true, recurses := true, named := ["math/bits.divideError", "math/bits.overflowError"], apart := false, narrowed := true }
def FnExactCharacteristicOfGeneraUptoSaid : Prop := fnExactCharacteristicOfGeneraUptoRow.holds Try.pinned (OpenSpec.upto fnExactCharacteristicOfGeneraSpec)

/-- 'laws.FnExactMilnorGenus', WHERE WHAT IT READS IS OF BULK AT MOST 1048576: true; the input reads as it did. -/
def fnExactMilnorGenusUptoRow : OpenClaim := { program := "ytbpiacnadjfkhaa", sum := "ef1c0518cee554faf4885bfff645b787f45d76f08af8e89042256a4f67656669", func := "loop.example/g01152/laws.FnExactMilnorGenus", spec := "fnExactMilnorGenus", unfollowed := true, recurses := true, named := ["math/bits.divideError", "math/bits.overflowError"], apart := false, narrowed := true }
def FnExactMilnorGenusUptoSaid : Prop := fnExactMilnorGenusUptoRow.holds Try.pinned (OpenSpec.upto fnExactMilnorGenusSpec)

end Rows
end Go.Proofs.Ytbpiacnadjfkhaa
