/-
  No cell of these rows narrows 'for every input' (looked for: loops, veiled, ifaces, maps, wideKeys, modest, calm, conditions, laid).
  DERIVED. THE GIVEN ROWS OF THIS SEAT. 5 by the template 'for every input the law returns true; each argument reads behind the call as it read before'; 0 by the template 'total and deterministic' (their statements: YtocnfkphpmolkaaGreatTotals.lean).
  GIVEN WITH THE SEED: the statements are not yours to turn. If you find one false, say at which input.
  Laid BY PROGRAM, IN A SANDBOX (cutbox-rows.mjs): the forced cells as the released guide's own fill.sh prints them over the translation f9f00f24b0ae23d3… (all of the seat's roots in one cut). By AI agents, Wed Nov 11 2026. No macro, syntax, notation, axiom, sorry.
-/
import Derived.Test.YtocnfkphpmolkaaGreatChecked
import GoSem.Claim
import GoSem.ClaimJoined
import GoSem.ClaimMapViews
import Derived.JoinedTies
import Derived.KernelRfl
namespace Go.Proofs.YtocnfkphpmolkaaGreat
/- THE CELL 'sum', in the pinned program and in every row, IS THE sha256 OF THE DUMP (.gsa) THAT YtocnfkphpmolkaaGreatProg.lean LOADS. Nothing in Lean hashes anything: it is a label: what it is worth is what the hold of that sum in a sandbox is worth. -/
noncomputable def Tryz.pinned : Pinned := { name := "ytocnfkphpmolkaagreat", sum := "f9f00f24b0ae23d32a0b931730a86aa710b71226b918dc619af448528b2ac123", checked := Tryz.checked }
namespace Rows
def none {H : Type} : Left H := { results := [], args := [] }

/-- 'laws.FnStandardLaws': WHATEVER THE INPUT: true; the input reads as it did. -/
def fnStandardLawsSpec : ChangeSpec := { name := "fnStandardLaws", fn := fun _ => fun
  | [d] => { results := [.lit (.bool true)], args := [d] }
  | _ => none }
def fnStandardLawsRow : OpenClaim := { program := "ytocnfkphpmolkaagreat", sum := "f9f00f24b0ae23d32a0b931730a86aa710b71226b918dc619af448528b2ac123", func := "loop.example/g01152/laws.FnStandardLaws", spec := "fnStandardLaws", unfollowed := true, recurses := true, named := ["math/bits.divideError", "math/bits.overflowError"], apart := false }
def FnStandardLawsSaid : Prop := fnStandardLawsRow.holds Tryz.pinned (OpenSpec.ofChange fnStandardLawsSpec)

/-- ITS FALSE NEIGHBOUR: 'it returns false'. Refute it at one input. -/
def fnStandardLawsWrong : ChangeSpec := { name := "fnStandardLaws", fn := fun _ => fun
  | [d] => { results := [.lit (.bool false)], args := [d] }
  | _ => none }
def FnStandardLawsWrongFalsely : Prop := fnStandardLawsRow.holds Tryz.pinned (OpenSpec.ofChange fnStandardLawsWrong)

/-- 'laws.FnDifferences': WHATEVER THE INPUT: true; the input reads as it did. -/
def fnDifferencesSpec : ChangeSpec := { name := "fnDifferences", fn := fun _ => fun
  | [d] => { results := [.lit (.bool true)], args := [d] }
  | _ => none }
def fnDifferencesRow : OpenClaim := { program := "ytocnfkphpmolkaagreat", sum := "f9f00f24b0ae23d32a0b931730a86aa710b71226b918dc619af448528b2ac123", func := "loop.example/g01152/laws.FnDifferences", spec := "fnDifferences", unfollowed := true, recurses := true, named := ["math/bits.divideError", "math/bits.overflowError"], apart := false }
def FnDifferencesSaid : Prop := fnDifferencesRow.holds Tryz.pinned (OpenSpec.ofChange fnDifferencesSpec)

/-- ITS FALSE NEIGHBOUR: 'it returns false'. Refute it at one input. -/
def fnDifferencesWrong : ChangeSpec := { name := "fnDifferences", fn := fun _ => fun
  | [d] => { results := [.lit (.bool false)], args := [d] }
  | _ => none }
def FnDifferencesWrongFalsely : Prop := fnDifferencesRow.holds Tryz.pinned (OpenSpec.ofChange fnDifferencesWrong)

/-- 'laws.FnMultiples': WHATEVER THE INPUT: true; the input reads as it did. -/
def fnMultiplesSpec : ChangeSpec := { name := "fnMultiples", fn := fun _ => fun
  | [d] => { results := [.lit (.bool true)], args := [d] }
  | _ => none }
def fnMultiplesRow : OpenClaim := { program := "ytocnfkphpmolkaagreat", sum := "f9f00f24b0ae23d32a0b931730a86aa710b71226b918dc619af448528b2ac123", func := "loop.example/g01152/laws.FnMultiples", spec := "fnMultiples", unfollowed := true, recurses := true, named := ["math/bits.divideError", "math/bits.overflowError"], apart := false }
def FnMultiplesSaid : Prop := fnMultiplesRow.holds Tryz.pinned (OpenSpec.ofChange fnMultiplesSpec)

/-- ITS FALSE NEIGHBOUR: 'it returns false'. Refute it at one input. -/
def fnMultiplesWrong : ChangeSpec := { name := "fnMultiples", fn := fun _ => fun
  | [d] => { results := [.lit (.bool false)], args := [d] }
  | _ => none }
def FnMultiplesWrongFalsely : Prop := fnMultiplesRow.holds Tryz.pinned (OpenSpec.ofChange fnMultiplesWrong)

/-- 'laws.FnCocycles': WHATEVER THE INPUT: true; the input reads as it did. -/
def fnCocyclesSpec : ChangeSpec := { name := "fnCocycles", fn := fun _ => fun
  | [d] => { results := [.lit (.bool true)], args := [d] }
  | _ => none }
def fnCocyclesRow : OpenClaim := { program := "ytocnfkphpmolkaagreat", sum := "f9f00f24b0ae23d32a0b931730a86aa710b71226b918dc619af448528b2ac123", func := "loop.example/g01152/laws.FnCocycles", spec := "fnCocycles", unfollowed := true, recurses := true, named := ["math/bits.divideError", "math/bits.overflowError"], apart := false }
def FnCocyclesSaid : Prop := fnCocyclesRow.holds Tryz.pinned (OpenSpec.ofChange fnCocyclesSpec)

/-- ITS FALSE NEIGHBOUR: 'it returns false'. Refute it at one input. -/
def fnCocyclesWrong : ChangeSpec := { name := "fnCocycles", fn := fun _ => fun
  | [d] => { results := [.lit (.bool false)], args := [d] }
  | _ => none }
def FnCocyclesWrongFalsely : Prop := fnCocyclesRow.holds Tryz.pinned (OpenSpec.ofChange fnCocyclesWrong)

/-- 'laws.FnExactAllExtensions': WHATEVER THE INPUT: true; the input reads as it did. -/
def fnExactAllExtensionsSpec : ChangeSpec := { name := "fnExactAllExtensions", fn := fun _ => fun
  | [d] => { results := [.lit (.bool true)], args := [d] }
  | _ => none }
def fnExactAllExtensionsRow : OpenClaim := { program := "ytocnfkphpmolkaagreat", sum := "f9f00f24b0ae23d32a0b931730a86aa710b71226b918dc619af448528b2ac123", func := "loop.example/g01152/laws.FnExactAllExtensions", spec := "fnExactAllExtensions", unfollowed := true, recurses := true, named := ["math/bits.divideError", "math/bits.overflowError"], apart := false }
def FnExactAllExtensionsSaid : Prop := fnExactAllExtensionsRow.holds Tryz.pinned (OpenSpec.ofChange fnExactAllExtensionsSpec)

/-- ITS FALSE NEIGHBOUR: 'it returns false'. Refute it at one input. -/
def fnExactAllExtensionsWrong : ChangeSpec := { name := "fnExactAllExtensions", fn := fun _ => fun
  | [d] => { results := [.lit (.bool false)], args := [d] }
  | _ => none }
def FnExactAllExtensionsWrongFalsely : Prop := fnExactAllExtensionsRow.holds Tryz.pinned (OpenSpec.ofChange fnExactAllExtensionsWrong)

/- THE SECOND FORM. 'bulk': how many values and letters a reading holds, each counted each time it is reached (what is shared counts as often as it is met; a slice's spare places count too). A statement '..UptoSaid' is the law's where the arguments, and the package variables that the reading takes, are together of bulk at most 1048576: NARROWER than '..Said'. Prove '..Said' where nothing that the law and all that it calls make is longer than what came in: it says more and counts as full. Else prove '..UptoSaid'. A law counts once. -/
mutual
def uptoBulk {H : Type} : DataW H → Nat
  | .lit (.string bytes) => bytes.length + 1
  | .lit _ => 1
  | .nil => 1
  | .ptr d => uptoBulk d + 1
  | .slice elems spare => uptoBulkAll elems + uptoBulkAll spare + 1
  | .agg parts => uptoBulkAll parts + 1
  | .iface _ d => uptoBulk d + 1
  | .map entries => uptoBulkEntries entries + 1
  | .held _ => 1
def uptoBulkAll {H : Type} : List (DataW H) → Nat
  | [] => 0
  | d :: r => uptoBulk d + uptoBulkAll r
def uptoBulkEntries {H : Type} : List (Lit × DataW H) → Nat
  | [] => 0
  | x :: r => uptoBulkEntry x + uptoBulkEntries r
def uptoBulkEntry {H : Type} : Lit × DataW H → Nat
  | (.string bytes, d) => bytes.length + uptoBulk d + 1
  | (_, d) => uptoBulk d + 1
 end
def uptoSmall : (H : Type) → List (DataW H) → Bool := fun _ ds => decide (uptoBulkAll ds ≤ 1048576)
def OpenSpec.upto (s : _root_.Go.ChangeSpec) : _root_.Go.OpenSpec := { _root_.Go.OpenSpec.ofChange s with cond := some uptoSmall }

/-- 'laws.FnStandardLaws', WHERE WHAT IT READS IS OF BULK AT MOST 1048576: true; the input reads as it did. -/
def fnStandardLawsUptoRow : OpenClaim := { program := "ytocnfkphpmolkaagreat", sum := "f9f00f24b0ae23d32a0b931730a86aa710b71226b918dc619af448528b2ac123", func := "loop.example/g01152/laws.FnStandardLaws", spec := "fnStandardLaws", unfollowed := true, recurses := true, named := ["math/bits.divideError", "math/bits.overflowError"], apart := false, narrowed := true }
def FnStandardLawsUptoSaid : Prop := fnStandardLawsUptoRow.holds Tryz.pinned (OpenSpec.upto fnStandardLawsSpec)

/-- 'laws.FnDifferences', WHERE WHAT IT READS IS OF BULK AT MOST 1048576: true; the input reads as it did. -/
def fnDifferencesUptoRow : OpenClaim := { program := "ytocnfkphpmolkaagreat", sum := "f9f00f24b0ae23d32a0b931730a86aa710b71226b918dc619af448528b2ac123", func := "loop.example/g01152/laws.FnDifferences", spec := "fnDifferences", unfollowed := true, recurses := true, named := ["math/bits.divideError", "math/bits.overflowError"], apart := false, narrowed := true }
def FnDifferencesUptoSaid : Prop := fnDifferencesUptoRow.holds Tryz.pinned (OpenSpec.upto fnDifferencesSpec)

/-- 'laws.FnMultiples', WHERE WHAT IT READS IS OF BULK AT MOST 1048576: true; the input reads as it did. -/
def fnMultiplesUptoRow : OpenClaim := { program := "ytocnfkphpmolkaagreat", sum := "f9f00f24b0ae23d32a0b931730a86aa710b71226b918dc619af448528b2ac123", func := "loop.example/g01152/laws.FnMultiples", spec := "fnMultiples", unfollowed := true, recurses := true, named := ["math/bits.divideError", "math/bits.overflowError"], apart := false, narrowed := true }
def FnMultiplesUptoSaid : Prop := fnMultiplesUptoRow.holds Tryz.pinned (OpenSpec.upto fnMultiplesSpec)

/-- 'laws.FnCocycles', WHERE WHAT IT READS IS OF BULK AT MOST 1048576: true; the input reads as it did. -/
def fnCocyclesUptoRow : OpenClaim := { program := "ytocnfkphpmolkaagreat", sum := "f9f00f24b0ae23d32a0b931730a86aa710b71226b918dc619af448528b2ac123", func := "loop.example/g01152/laws.FnCocycles", spec := "fnCocycles", unfollowed := true, recurses := true, named := ["math/bits.divideError", "math/bits.overflowError"], apart := false, narrowed := true }
def FnCocyclesUptoSaid : Prop := fnCocyclesUptoRow.holds Tryz.pinned (OpenSpec.upto fnCocyclesSpec)

/-- 'laws.FnExactAllExtensions', WHERE WHAT IT READS IS OF BULK AT MOST 1048576: true; the input reads as it did. -/
def fnExactAllExtensionsUptoRow : OpenClaim := { program := "ytocnfkphpmolkaagreat", sum := "f9f00f24b0ae23d32a0b931730a86aa710b71226b918dc619af448528b2ac123", func := "loop.example/g01152/laws.FnExactAllExtensions", spec := "fnExactAllExtensions", unfollowed := true, recurses := true, named := ["math/bits.divideError", "math/bits.overflowError"], apart := false, narrowed := true }
def FnExactAllExtensionsUptoSaid : Prop := fnExactAllExtensionsUptoRow.holds Tryz.pinned (OpenSpec.upto fnExactAllExtensionsSpec)

end Rows
end Go.Proofs.YtocnfkphpmolkaaGreat
