/-
  No cell of these rows narrows 'for every input' (looked for: loops, veiled, ifaces, maps, wideKeys, modest, calm, conditions, laid).
  DERIVED. THE GIVEN ROWS OF THIS SEAT. 6 by the template 'for every input the law returns true; each argument reads behind the call as it read before'; 0 by the template 'total and deterministic' (their statements: YtokhapfjcflijaaTotals.lean).
  GIVEN WITH THE SEED: the statements are not yours to turn. If you find one false, say at which input.
  Laid BY PROGRAM, IN A SANDBOX (cutbox-rows.mjs): the forced cells as the released guide's own fill.sh prints them over the translation 4ebacb28089aa29b… (all of the seat's roots in one cut). By AI agents, Wed Nov 11 2026. No macro, syntax, notation, axiom, sorry.
-/
import Derived.Test.YtokhapfjcflijaaChecked
import GoSem.Claim
import GoSem.ClaimJoined
import GoSem.ClaimMapViews
import Derived.JoinedTies
import Derived.KernelRfl
namespace Go.Proofs.Ytokhapfjcflijaa
/- THE CELL 'sum', in the pinned program and in every row, IS THE sha256 OF THE DUMP (.gsa) THAT YtokhapfjcflijaaProg.lean LOADS. Nothing in Lean hashes anything: it is a label: what it is worth is what the hold of that sum in a sandbox is worth. -/
noncomputable def Try.pinned : Pinned := { name := "ytokhapfjcflijaa", sum := "4ebacb28089aa29b5774c037d6961a256d5e669dfff9e88b68fc336c3883f7e7", checked := Try.checked }
namespace Rows
def none {H : Type} : Left H := { results := [], args := [] }

/-- 'laws.FnExactIsCharacteristic': WHATEVER THE INPUT: true; the input reads as it did. -/
def fnExactIsCharacteristicSpec : ChangeSpec := { name := "fnExactIsCharacteristic", fn := fun _ => fun
  | [d] => { results := [.lit (.bool true)], args := [d] }
  | _ => none }
def fnExactIsCharacteristicRow : OpenClaim := { program := "ytokhapfjcflijaa", sum := "4ebacb28089aa29b5774c037d6961a256d5e669dfff9e88b68fc336c3883f7e7", func := "loop.example/g01152/laws.FnExactIsCharacteristic", spec := "fnExactIsCharacteristic", unfollowed := true, recurses := true, apart := false }
def FnExactIsCharacteristicSaid : Prop := fnExactIsCharacteristicRow.holds Try.pinned (OpenSpec.ofChange fnExactIsCharacteristicSpec)

/-- ITS FALSE NEIGHBOUR: 'it returns false'. Refute it at one input. -/
def fnExactIsCharacteristicWrong : ChangeSpec := { name := "fnExactIsCharacteristic", fn := fun _ => fun
  | [d] => { results := [.lit (.bool false)], args := [d] }
  | _ => none }
def FnExactIsCharacteristicWrongFalsely : Prop := fnExactIsCharacteristicRow.holds Try.pinned (OpenSpec.ofChange fnExactIsCharacteristicWrong)

/-- 'laws.FnExactLazardCocycle': WHATEVER THE INPUT: true; the input reads as it did. -/
def fnExactLazardCocycleSpec : ChangeSpec := { name := "fnExactLazardCocycle", fn := fun _ => fun
  | [d1, d2] => { results := [.lit (.bool true)], args := [d1, d2] }
  | _ => none }
def fnExactLazardCocycleRow : OpenClaim := { program := "ytokhapfjcflijaa", sum := "4ebacb28089aa29b5774c037d6961a256d5e669dfff9e88b68fc336c3883f7e7", func := "loop.example/g01152/laws.FnExactLazardCocycle", spec := "fnExactLazardCocycle", apart := false }
def FnExactLazardCocycleSaid : Prop := fnExactLazardCocycleRow.holds Try.pinned (OpenSpec.ofChange fnExactLazardCocycleSpec)

/-- ITS FALSE NEIGHBOUR: 'it returns false'. Refute it at one input. -/
def fnExactLazardCocycleWrong : ChangeSpec := { name := "fnExactLazardCocycle", fn := fun _ => fun
  | [d1, d2] => { results := [.lit (.bool false)], args := [d1, d2] }
  | _ => none }
def FnExactLazardCocycleWrongFalsely : Prop := fnExactLazardCocycleRow.holds Try.pinned (OpenSpec.ofChange fnExactLazardCocycleWrong)

/-- 'laws.FnExactProjectiveGenus': WHATEVER THE INPUT: true; the input reads as it did. -/
def fnExactProjectiveGenusSpec : ChangeSpec := { name := "fnExactProjectiveGenus", fn := fun _ => fun
  | [d1, d2] => { results := [.lit (.bool true)], args := [d1, d2] }
  | _ => none }
def fnExactProjectiveGenusRow : OpenClaim := { program := "ytokhapfjcflijaa", sum := "4ebacb28089aa29b5774c037d6961a256d5e669dfff9e88b68fc336c3883f7e7", func := "loop.example/g01152/laws.FnExactProjectiveGenus", spec := "fnExactProjectiveGenus", unfollowed := true, recurses := true, named := ["math/bits.divideError", "math/bits.overflowError"], apart := false }
def FnExactProjectiveGenusSaid : Prop := fnExactProjectiveGenusRow.holds Try.pinned (OpenSpec.ofChange fnExactProjectiveGenusSpec)

/-- ITS FALSE NEIGHBOUR: 'it returns false'. Refute it at one input. -/
def fnExactProjectiveGenusWrong : ChangeSpec := { name := "fnExactProjectiveGenus", fn := fun _ => fun
  | [d1, d2] => { results := [.lit (.bool false)], args := [d1, d2] }
  | _ => none }
def FnExactProjectiveGenusWrongFalsely : Prop := fnExactProjectiveGenusRow.holds Try.pinned (OpenSpec.ofChange fnExactProjectiveGenusWrong)

/-- 'laws.FnExactProductOfGenera': WHATEVER THE INPUT: true; the input reads as it did. -/
def fnExactProductOfGeneraSpec : ChangeSpec := { name := "fnExactProductOfGenera", fn := fun _ => fun
  | [d1, d2] => { results := [.lit (.bool true)], args := [d1, d2] }
  | _ => none }
def fnExactProductOfGeneraRow : OpenClaim := { program := "ytokhapfjcflijaa", sum := "4ebacb28089aa29b5774c037d6961a256d5e669dfff9e88b68fc336c3883f7e7", func := "loop.example/g01152/laws.FnExactProductOfGenera", spec := "fnExactProductOfGenera", unfollowed := true, recurses := true, named := ["math/bits.divideError", "math/bits.overflowError"], apart := false }
def FnExactProductOfGeneraSaid : Prop := fnExactProductOfGeneraRow.holds Try.pinned (OpenSpec.ofChange fnExactProductOfGeneraSpec)

/-- ITS FALSE NEIGHBOUR: 'it returns false'. Refute it at one input. -/
def fnExactProductOfGeneraWrong : ChangeSpec := { name := "fnExactProductOfGenera", fn := fun _ => fun
  | [d1, d2] => { results := [.lit (.bool false)], args := [d1, d2] }
  | _ => none }
def FnExactProductOfGeneraWrongFalsely : Prop := fnExactProductOfGeneraRow.holds Try.pinned (OpenSpec.ofChange fnExactProductOfGeneraWrong)

/-- 'laws.FnExactProjectiveGenera': WHATEVER THE INPUT: true; the input reads as it did. -/
def fnExactProjectiveGeneraSpec : ChangeSpec := { name := "fnExactProjectiveGenera", fn := fun _ => fun
  | [d] => { results := [.lit (.bool true)], args := [d] }
  | _ => none }
def fnExactProjectiveGeneraRow : OpenClaim := { program := "ytokhapfjcflijaa", sum := "4ebacb28089aa29b5774c037d6961a256d5e669dfff9e88b68fc336c3883f7e7", func := "loop.example/g01152/laws.FnExactProjectiveGenera", spec := "fnExactProjectiveGenera", unfollowed := true, recurses := true, named := ["math/bits.divideError", "math/bits.overflowError"], apart := false }
def FnExactProjectiveGeneraSaid : Prop := fnExactProjectiveGeneraRow.holds Try.pinned (OpenSpec.ofChange fnExactProjectiveGeneraSpec)

/-- ITS FALSE NEIGHBOUR: 'it returns false'. Refute it at one input. -/
def fnExactProjectiveGeneraWrong : ChangeSpec := { name := "fnExactProjectiveGenera", fn := fun _ => fun
  | [d] => { results := [.lit (.bool false)], args := [d] }
  | _ => none }
def FnExactProjectiveGeneraWrongFalsely : Prop := fnExactProjectiveGeneraRow.holds Try.pinned (OpenSpec.ofChange fnExactProjectiveGeneraWrong)

/-- 'laws.FnExactExponentialOfGenus': WHATEVER THE INPUT: true; the input reads as it did. -/
def fnExactExponentialOfGenusSpec : ChangeSpec := { name := "fnExactExponentialOfGenus", fn := fun _ => fun
  | [d] => { results := [.lit (.bool true)], args := [d] }
  | _ => none }
def fnExactExponentialOfGenusRow : OpenClaim := { program := "ytokhapfjcflijaa", sum := "4ebacb28089aa29b5774c037d6961a256d5e669dfff9e88b68fc336c3883f7e7", func := "loop.example/g01152/laws.FnExactExponentialOfGenus", spec := "fnExactExponentialOfGenus", unfollowed := true, recurses := true, named := ["math/bits.divideError", "math/bits.overflowError"], apart := false }
def FnExactExponentialOfGenusSaid : Prop := fnExactExponentialOfGenusRow.holds Try.pinned (OpenSpec.ofChange fnExactExponentialOfGenusSpec)

/-- ITS FALSE NEIGHBOUR: 'it returns false'. Refute it at one input. -/
def fnExactExponentialOfGenusWrong : ChangeSpec := { name := "fnExactExponentialOfGenus", fn := fun _ => fun
  | [d] => { results := [.lit (.bool false)], args := [d] }
  | _ => none }
def FnExactExponentialOfGenusWrongFalsely : Prop := fnExactExponentialOfGenusRow.holds Try.pinned (OpenSpec.ofChange fnExactExponentialOfGenusWrong)

/- THE SECOND FORM. 'bulk': how many values and letters a reading holds, each counted each time it is reached (what is shared counts as often as it is met; a slice's spare places count too). A statement '..UptoSaid' is the law's where the arguments, and the package variables that the reading takes, are together of bulk at most 1048576: NARROWER than '..Said'. Prove '..Said' where nothing that the law and all that it calls make is longer than what came in: it says more and counts as full. Else prove '..UptoSaid'. A law counts once. -/
mutual
def uptoBulk {H : Type} : DataW H → Nat
  | .lit (.string bytes) => bytes.length + 1
  | .lit _ => 1
  | .nil => 1
  | .ptr d => uptoBulk d + 1
  | .slice elems spare => uptoBulkAll elems + uptoBulkAll spare + 1
  | .agg parts => uptoBulkAll parts + 1
  | .iface _ d => uptoBulk d + 1
  | .map entries => uptoBulkEntries entries + 1
  | .held _ => 1
def uptoBulkAll {H : Type} : List (DataW H) → Nat
  | [] => 0
  | d :: r => uptoBulk d + uptoBulkAll r
def uptoBulkEntries {H : Type} : List (Lit × DataW H) → Nat
  | [] => 0
  | x :: r => uptoBulkEntry x + uptoBulkEntries r
def uptoBulkEntry {H : Type} : Lit × DataW H → Nat
  | (.string bytes, d) => bytes.length + uptoBulk d + 1
  | (_, d) => uptoBulk d + 1
 end
def uptoSmall : (H : Type) → List (DataW H) → Bool := fun _ ds => decide (uptoBulkAll ds ≤ 1048576)
def OpenSpec.upto (s : _root_.Go.ChangeSpec) : _root_.Go.OpenSpec := { _root_.Go.OpenSpec.ofChange s with cond := some uptoSmall }

/-- 'laws.FnExactIsCharacteristic', WHERE WHAT IT READS IS OF BULK AT MOST 1048576: true; the input reads as it did. -/
def fnExactIsCharacteristicUptoRow : OpenClaim := { program := "ytokhapfjcflijaa", sum := "4ebacb28089aa29b5774c037d6961a256d5e669dfff9e88b68fc336c3883f7e7", func := "loop.example/g01152/laws.FnExactIsCharacteristic", spec := "fnExactIsCharacteristic", unfollowed := true, recurses := true, apart := false, narrowed := true }
def FnExactIsCharacteristicUptoSaid : Prop := fnExactIsCharacteristicUptoRow.holds Try.pinned (OpenSpec.upto fnExactIsCharacteristicSpec)

/-- 'laws.FnExactLazardCocycle', WHERE WHAT IT READS IS OF BULK AT MOST 1048576: true; the input reads as it did. -/
def fnExactLazardCocycleUptoRow : OpenClaim := { program := "ytokhapfjcflijaa", sum := "4ebacb28089aa29b5774c037d6961a256d5e669dfff9e88b68fc336c3883f7e7", func := "loop.example/g01152/laws.FnExactLazardCocycle", spec := "fnExactLazardCocycle", apart := false, narrowed := true }
def FnExactLazardCocycleUptoSaid : Prop := fnExactLazardCocycleUptoRow.holds Try.pinned (OpenSpec.upto fnExactLazardCocycleSpec)

/-- 'laws.FnExactProjectiveGenus', WHERE WHAT IT READS IS OF BULK AT MOST 1048576: true; the input reads as it did. -/
def fnExactProjectiveGenusUptoRow : OpenClaim := { program := "ytokhapfjcflijaa", sum := "4ebacb28089aa29b5774c037d6961a256d5e669dfff9e88b68fc336c3883f7e7", func := "loop.example/g01152/laws.FnExactProjectiveGenus", spec := "fnExactProjectiveGenus", unfollowed := true, recurses := true, named := ["math/bits.divideError", "math/bits.overflowError"], apart := false, narrowed := true }
def FnExactProjectiveGenusUptoSaid : Prop := fnExactProjectiveGenusUptoRow.holds Try.pinned (OpenSpec.upto fnExactProjectiveGenusSpec)

/-- 'laws.FnExactProductOfGenera', WHERE WHAT IT READS IS OF BULK AT MOST 1048576: true; the input reads as it did. -/
def fnExactProductOfGeneraUptoRow : OpenClaim := { program := "ytokhapfjcflijaa", sum := "4ebacb28089aa29b5774c037d6961a256d5e669dfff9e88b68fc336c3883f7e7", func := "loop.example/g01152/laws.FnExactProductOfGenera", spec := "fnExactProductOfGenera", unfollowed := true, recurses := true, named := ["math/bits.divideError", "math/bits.overflowError"], apart := false, narrowed := true }
def FnExactProductOfGeneraUptoSaid : Prop := fnExactProductOfGeneraUptoRow.holds Try.pinned (OpenSpec.upto fnExactProductOfGeneraSpec)

/-- 'laws.FnExactProjectiveGenera', WHERE WHAT IT READS IS OF BULK AT MOST 1048576: true; the input reads as it did. -/
def fnExactProjectiveGeneraUptoRow : OpenClaim := { program := "ytokhapfjcflijaa", sum := "4ebacb28089aa29b5774c037d6961a256d5e669dfff9e88b68fc336c3883f7e7", func := "loop.example/g01152/laws.FnExactProjectiveGenera", spec := "fnExactProjectiveGenera", unfollowed := true, recurses := true, named := ["math/bits.divideError", "math/bits.overflowError"], apart := false, narrowed := true }
def FnExactProjectiveGeneraUptoSaid : Prop := fnExactProjectiveGeneraUptoRow.holds Try.pinned (OpenSpec.upto fnExactProjectiveGeneraSpec)

/-- 'laws.FnExactExponentialOfGenus', WHERE WHAT IT READS IS OF BULK AT MOST 1048576: true; the input reads as it did. -/
def fnExactExponentialOfGenusUptoRow : OpenClaim := { program := "ytokhapfjcflijaa", sum := "4ebacb28089aa29b5774c037d6961a256d5e669dfff9e88b68fc336c3883f7e7", func := "loop.example/g01152/laws.FnExactExponentialOfGenus", spec := "fnExactExponentialOfGenus", unfollowed := true, recurses := true, named := ["math/bits.divideError", "math/bits.overflowError"], apart := false, narrowed := true }
def FnExactExponentialOfGenusUptoSaid : Prop := fnExactExponentialOfGenusUptoRow.holds Try.pinned (OpenSpec.upto fnExactExponentialOfGenusSpec)

end Rows
end Go.Proofs.Ytokhapfjcflijaa
