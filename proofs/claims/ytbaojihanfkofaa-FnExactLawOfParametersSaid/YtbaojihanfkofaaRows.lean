/-
  No cell of these rows narrows 'for every input' (looked for: loops, veiled, ifaces, maps, wideKeys, modest, calm, conditions, laid).
  DERIVED. THE GIVEN ROWS OF THIS SEAT. 3 by the template 'for every input the law returns true; each argument reads behind the call as it read before'; 0 by the template 'total and deterministic' (their statements: YtbaojihanfkofaaTotals.lean).
  GIVEN WITH THE SEED: the statements are not yours to turn. If you find one false, say at which input.
  Laid BY PROGRAM, IN A SANDBOX (cutbox-rows.mjs): the forced cells as the released guide's own fill.sh prints them over the translation 4600a79606012be2… (all of the seat's roots in one cut). By AI agents, Wed Nov 11 2026. No macro, syntax, notation, axiom, sorry.
-/
import Derived.Test.YtbaojihanfkofaaChecked
import GoSem.Claim
import GoSem.ClaimJoined
import GoSem.ClaimMapViews
import Derived.JoinedTies
import Derived.KernelRfl
namespace Go.Proofs.Ytbaojihanfkofaa
/- THE CELL 'sum', in the pinned program and in every row, IS THE sha256 OF THE DUMP (.gsa) THAT YtbaojihanfkofaaProg.lean LOADS. Nothing in Lean hashes anything: it is a label: what it is worth is what the hold of that sum in a sandbox is worth. -/
noncomputable def Try.pinned : Pinned := { name := "ytbaojihanfkofaa", sum := "4600a79606012be2df7a08a175a21111674ae74b41e34c0010cdcce70415bfc6", checked := Try.checked }
namespace Rows
def none {H : Type} : Left H := { results := [], args := [] }

/-- 'laws.FnExactFirstExtension': WHATEVER THE INPUT: true; the input reads as it did. -/
def fnExactFirstExtensionSpec : ChangeSpec := { name := "fnExactFirstExtension", fn := fun _ => fun
  | [d] => { results := [.lit (.bool true)], args := [d] }
  | _ => none }
def fnExactFirstExtensionRow : OpenClaim := { program := "ytbaojihanfkofaa", sum := "4600a79606012be2df7a08a175a21111674ae74b41e34c0010cdcce70415bfc6", func := "loop.example/g01152/laws.FnExactFirstExtension", spec := "fnExactFirstExtension", unfollowed := true, recurses := true, named := ["math/bits.divideError", "math/bits.overflowError"], apart := false }
def FnExactFirstExtensionSaid : Prop := fnExactFirstExtensionRow.holds Try.pinned (OpenSpec.ofChange fnExactFirstExtensionSpec)

/-- ITS FALSE NEIGHBOUR: 'it returns false'. Refute it at one input. -/
def fnExactFirstExtensionWrong : ChangeSpec := { name := "fnExactFirstExtension", fn := fun _ => fun
  | [d] => { results := [.lit (.bool false)], args := [d] }
  | _ => none }
def FnExactFirstExtensionWrongFalsely : Prop := fnExactFirstExtensionRow.holds Try.pinned (OpenSpec.ofChange fnExactFirstExtensionWrong)

/-- 'laws.FnExactLawOfParameters': WHATEVER THE INPUT: true; the input reads as it did. -/
def fnExactLawOfParametersSpec : ChangeSpec := { name := "fnExactLawOfParameters", fn := fun _ => fun
  | [d1, d2] => { results := [.lit (.bool true)], args := [d1, d2] }
  | _ => none }
def fnExactLawOfParametersRow : OpenClaim := { program := "ytbaojihanfkofaa", sum := "4600a79606012be2df7a08a175a21111674ae74b41e34c0010cdcce70415bfc6", func := "loop.example/g01152/laws.FnExactLawOfParameters", spec := "fnExactLawOfParameters", unfollowed := true, recurses := true, named := ["math/bits.divideError", "math/bits.overflowError"], apart := false }
def FnExactLawOfParametersSaid : Prop := fnExactLawOfParametersRow.holds Try.pinned (OpenSpec.ofChange fnExactLawOfParametersSpec)

/-- ITS FALSE NEIGHBOUR: 'it returns false'. Refute it at one input. -/
def fnExactLawOfParametersWrong : ChangeSpec := { name := "fnExactLawOfParameters", fn := fun _ => fun
  | [d1, d2] => { results := [.lit (.bool false)], args := [d1, d2] }
  | _ => none }
def FnExactLawOfParametersWrongFalsely : Prop := fnExactLawOfParametersRow.holds Try.pinned (OpenSpec.ofChange fnExactLawOfParametersWrong)

/-- 'laws.FnExactParametersOfLaw': WHATEVER THE INPUT: true; the input reads as it did. -/
def fnExactParametersOfLawSpec : ChangeSpec := { name := "fnExactParametersOfLaw", fn := fun _ => fun
  | [d] => { results := [.lit (.bool true)], args := [d] }
  | _ => none }
def fnExactParametersOfLawRow : OpenClaim := { program := "ytbaojihanfkofaa", sum := "4600a79606012be2df7a08a175a21111674ae74b41e34c0010cdcce70415bfc6", func := "loop.example/g01152/laws.FnExactParametersOfLaw", spec := "fnExactParametersOfLaw", unfollowed := true, recurses := true, named := ["math/bits.divideError", "math/bits.overflowError"], apart := false }
def FnExactParametersOfLawSaid : Prop := fnExactParametersOfLawRow.holds Try.pinned (OpenSpec.ofChange fnExactParametersOfLawSpec)

/-- ITS FALSE NEIGHBOUR: 'it returns false'. Refute it at one input. -/
def fnExactParametersOfLawWrong : ChangeSpec := { name := "fnExactParametersOfLaw", fn := fun _ => fun
  | [d] => { results := [.lit (.bool false)], args := [d] }
  | _ => none }
def FnExactParametersOfLawWrongFalsely : Prop := fnExactParametersOfLawRow.holds Try.pinned (OpenSpec.ofChange fnExactParametersOfLawWrong)

/- THE SECOND FORM. 'bulk': how many values and letters a reading holds, each counted each time it is reached (what is shared counts as often as it is met; a slice's spare places count too). A statement '..UptoSaid' is the law's where the arguments, and the package variables that the reading takes, are together of bulk at most 1048576: NARROWER than '..Said'. Prove '..Said' where nothing that the law and all that it calls make is longer than what came in: it says more and counts as full. Else prove '..UptoSaid'. A law counts once. -/
mutual
def uptoBulk {H : Type} : DataW H → Nat
  | .lit (.string bytes) => bytes.length + 1
  | .lit _ => 1
  | .nil => 1
  | .ptr d => uptoBulk d + 1
  | .slice elems spare => uptoBulkAll elems + uptoBulkAll spare + 1
  | .agg parts => uptoBulkAll parts + 1
  | .iface _ d => uptoBulk d + 1
  | .map entries => uptoBulkEntries entries + 1
  | .held _ => 1
def uptoBulkAll {H : Type} : List (DataW H) → Nat
  | [] => 0
  | d :: r => uptoBulk d + uptoBulkAll r
def uptoBulkEntries {H : Type} : List (Lit × DataW H) → Nat
  | [] => 0
  | x :: r => uptoBulkEntry x + uptoBulkEntries r
def uptoBulkEntry {H : Type} : Lit × DataW H → Nat
  | (.string bytes, d) => bytes.length + uptoBulk d + 1
  | (_, d) => uptoBulk d + 1
 end
def uptoSmall : (H : Type) → List (DataW H) → Bool := fun _ ds => decide (uptoBulkAll ds ≤ 1048576)
def OpenSpec.upto (s : _root_.Go.ChangeSpec) : _root_.Go.OpenSpec := { _root_.Go.OpenSpec.ofChange s with cond := some uptoSmall }

/-- 'laws.FnExactFirstExtension', WHERE WHAT IT READS IS OF BULK AT MOST 1048576: true; the input reads as it did. -/
def fnExactFirstExtensionUptoRow : OpenClaim := { program := "ytbaojihanfkofaa", sum := "4600a79606012be2df7a08a175a21111674ae74b41e34c0010cdcce70415bfc6", func := "loop.example/g01152/laws.FnExactFirstExtension", spec := "fnExactFirstExtension", unfollowed := true, recurses := true, named := ["math/bits.divideError", "math/bits.overflowError"], apart := false, narrowed := true }
def FnExactFirstExtensionUptoSaid : Prop := fnExactFirstExtensionUptoRow.holds Try.pinned (OpenSpec.upto fnExactFirstExtensionSpec)

/-- 'laws.FnExactLawOfParameters', WHERE WHAT IT READS IS OF BULK AT MOST 1048576: true; the input reads as it did. -/
def fnExactLawOfParametersUptoRow : OpenClaim := { program := "ytbaojihanfkofaa", sum := "4600a79606012be2df7a08a175a21111674ae74b41e34c0010cdcce70415bfc6", func := "loop.example/g01152/laws.FnExactLawOfParameters", spec := "fnExactLawOfParameters", unfollowed := true, recurses := true, named := ["math/bits.divideError", "math/bits.overflowError"], apart := false, narrowed := true }
def FnExactLawOfParametersUptoSaid : Prop := fnExactLawOfParametersUptoRow.holds Try.pinned (OpenSpec.upto fnExactLawOfParametersSpec)

/-- 'laws.FnExactParametersOfLaw', WHERE WHAT IT READS IS OF BULK AT MOST 1048576: true; the input reads as it did. -/
def fnExactParametersOfLawUptoRow : OpenClaim := { program := "ytbaojihanfkofaa", sum := "4600a79606012be2df7a08a175a21111674ae74b41e34c0010cdcce70415bfc6", func := "loop.example/g01152/laws.FnExactParametersOfLaw", spec := "fnExactParametersOfLaw", unfollowed := true, recurses := true, named := ["math/bits.divideError", "math/bits.overflowError"], apart := false, narrowed := true }
def FnExactParametersOfLawUptoSaid : Prop := fnExactParametersOfLawUptoRow.holds Try.pinned (OpenSpec.upto fnExactParametersOfLawSpec)

end Rows
end Go.Proofs.Ytbaojihanfkofaa
