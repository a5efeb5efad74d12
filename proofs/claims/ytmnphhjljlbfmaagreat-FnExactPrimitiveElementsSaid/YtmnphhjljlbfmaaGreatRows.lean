/-
  No cell of these rows narrows 'for every input' (looked for: loops, veiled, ifaces, maps, wideKeys, modest, calm, conditions, laid).
  DERIVED. THE GIVEN ROWS OF THIS SEAT. 3 by the template 'for every input the law returns true; each argument reads behind the call as it read before'; 0 by the template 'total and deterministic' (their statements: YtmnphhjljlbfmaaGreatTotals.lean).
  GIVEN WITH THE SEED: the statements are not yours to turn. If you find one false, say at which input.
  Laid BY PROGRAM, IN A SANDBOX (cutbox-rows.mjs): the forced cells as the released guide's own fill.sh prints them over the translation 1a3c518b84454fa5… (all of the seat's roots in one cut). By AI agents, Wed Nov 11 2026. No macro, syntax, notation, axiom, sorry.
-/
import Derived.Test.YtmnphhjljlbfmaaGreatChecked
import GoSem.Claim
import GoSem.ClaimJoined
import GoSem.ClaimMapViews
import Derived.JoinedTies
import Derived.KernelRfl
namespace Go.Proofs.YtmnphhjljlbfmaaGreat
/- THE CELL 'sum', in the pinned program and in every row, IS THE sha256 OF THE DUMP (.gsa) THAT YtmnphhjljlbfmaaGreatProg.lean LOADS. Nothing in Lean hashes anything: it is a label: what it is worth is what the hold of that sum in a sandbox is worth. -/
noncomputable def Tryz.pinned : Pinned := { name := "ytmnphhjljlbfmaagreat", sum := "1a3c518b84454fa58ed1639d363e5c266e6ff5c225ad5928f05f39fc4a57d6ef", checked := Tryz.checked }
namespace Rows
def none {H : Type} : Left H := { results := [], args := [] }

/-- 'laws.FnExactIsDualReduced': WHATEVER THE INPUT: true; the input reads as it did. -/
def fnExactIsDualReducedSpec : ChangeSpec := { name := "fnExactIsDualReduced", fn := fun _ => fun
  | [d] => { results := [.lit (.bool true)], args := [d] }
  | _ => none }
def fnExactIsDualReducedRow : OpenClaim := { program := "ytmnphhjljlbfmaagreat", sum := "1a3c518b84454fa58ed1639d363e5c266e6ff5c225ad5928f05f39fc4a57d6ef", func := "loop.example/g01152/laws.FnExactIsDualReduced", spec := "fnExactIsDualReduced", unfollowed := true, recurses := true, named := ["math/bits.divideError", "math/bits.overflowError"], apart := false }
def FnExactIsDualReducedSaid : Prop := fnExactIsDualReducedRow.holds Tryz.pinned (OpenSpec.ofChange fnExactIsDualReducedSpec)

/-- ITS FALSE NEIGHBOUR: 'it returns false'. Refute it at one input. -/
def fnExactIsDualReducedWrong : ChangeSpec := { name := "fnExactIsDualReduced", fn := fun _ => fun
  | [d] => { results := [.lit (.bool false)], args := [d] }
  | _ => none }
def FnExactIsDualReducedWrongFalsely : Prop := fnExactIsDualReducedRow.holds Tryz.pinned (OpenSpec.ofChange fnExactIsDualReducedWrong)

/-- 'laws.FnExactPrimitiveElements': WHATEVER THE INPUT: true; the input reads as it did. -/
def fnExactPrimitiveElementsSpec : ChangeSpec := { name := "fnExactPrimitiveElements", fn := fun _ => fun
  | [d] => { results := [.lit (.bool true)], args := [d] }
  | _ => none }
def fnExactPrimitiveElementsRow : OpenClaim := { program := "ytmnphhjljlbfmaagreat", sum := "1a3c518b84454fa58ed1639d363e5c266e6ff5c225ad5928f05f39fc4a57d6ef", func := "loop.example/g01152/laws.FnExactPrimitiveElements", spec := "fnExactPrimitiveElements", unfollowed := true, recurses := true, named := ["math/bits.divideError", "math/bits.overflowError"], apart := false }
def FnExactPrimitiveElementsSaid : Prop := fnExactPrimitiveElementsRow.holds Tryz.pinned (OpenSpec.ofChange fnExactPrimitiveElementsSpec)

/-- ITS FALSE NEIGHBOUR: 'it returns false'. Refute it at one input. -/
def fnExactPrimitiveElementsWrong : ChangeSpec := { name := "fnExactPrimitiveElements", fn := fun _ => fun
  | [d] => { results := [.lit (.bool false)], args := [d] }
  | _ => none }
def FnExactPrimitiveElementsWrongFalsely : Prop := fnExactPrimitiveElementsRow.holds Tryz.pinned (OpenSpec.ofChange fnExactPrimitiveElementsWrong)

/-- 'laws.FnExactGrouplikeElements': WHATEVER THE INPUT: true; the input reads as it did. -/
def fnExactGrouplikeElementsSpec : ChangeSpec := { name := "fnExactGrouplikeElements", fn := fun _ => fun
  | [d] => { results := [.lit (.bool true)], args := [d] }
  | _ => none }
def fnExactGrouplikeElementsRow : OpenClaim := { program := "ytmnphhjljlbfmaagreat", sum := "1a3c518b84454fa58ed1639d363e5c266e6ff5c225ad5928f05f39fc4a57d6ef", func := "loop.example/g01152/laws.FnExactGrouplikeElements", spec := "fnExactGrouplikeElements", unfollowed := true, recurses := true, named := ["math/bits.divideError", "math/bits.overflowError"], apart := false }
def FnExactGrouplikeElementsSaid : Prop := fnExactGrouplikeElementsRow.holds Tryz.pinned (OpenSpec.ofChange fnExactGrouplikeElementsSpec)

/-- ITS FALSE NEIGHBOUR: 'it returns false'. Refute it at one input. -/
def fnExactGrouplikeElementsWrong : ChangeSpec := { name := "fnExactGrouplikeElements", fn := fun _ => fun
  | [d] => { results := [.lit (.bool false)], args := [d] }
  | _ => none }
def FnExactGrouplikeElementsWrongFalsely : Prop := fnExactGrouplikeElementsRow.holds Tryz.pinned (OpenSpec.ofChange fnExactGrouplikeElementsWrong)

/- THE SECOND FORM. 'bulk': how many values and letters a reading holds, each counted each time it is reached (what is shared counts as often as it is met; a slice's spare places count too). A statement '..UptoSaid' is the law's where the arguments, and the package variables that the reading takes, are together of bulk at most 1048576: NARROWER than '..Said'. Prove '..Said' where nothing that the law and all that it calls make is longer than what came in: it says more and counts as full. Else prove '..UptoSaid'. A law counts once. -/
mutual
def uptoBulk {H : Type} : DataW H → Nat
  | .lit (.string bytes) => bytes.length + 1
  | .lit _ => 1
  | .nil => 1
  | .ptr d => uptoBulk d + 1
  | .slice elems spare => uptoBulkAll elems + uptoBulkAll spare + 1
  | .agg parts => uptoBulkAll parts + 1
  | .iface _ d => uptoBulk d + 1
  | .map entries => uptoBulkEntries entries + 1
  | .held _ => 1
def uptoBulkAll {H : Type} : List (DataW H) → Nat
  | [] => 0
  | d :: r => uptoBulk d + uptoBulkAll r
def uptoBulkEntries {H : Type} : List (Lit × DataW H) → Nat
  | [] => 0
  | x :: r => uptoBulkEntry x + uptoBulkEntries r
def uptoBulkEntry {H : Type} : Lit × DataW H → Nat
  | (.string bytes, d) => bytes.length + uptoBulk d + 1
  | (_, d) => uptoBulk d + 1
 end
def uptoSmall : (H : Type) → List (DataW H) → Bool := fun _ ds => decide (uptoBulkAll ds ≤ 1048576)
def OpenSpec.upto (s : _root_.Go.ChangeSpec) : _root_.Go.OpenSpec := { _root_.Go.OpenSpec.ofChange s with cond := some uptoSmall }

/-- 'laws.FnExactIsDualReduced', WHERE WHAT IT READS IS OF BULK AT MOST 1048576: true; the input reads as it did. -/
def fnExactIsDualReducedUptoRow : OpenClaim := { program := "ytmnphhjljlbfmaagreat", sum := "1a3c518b84454fa58ed1639d363e5c266e6ff5c225ad5928f05f39fc4a57d6ef", func := "loop.example/g01152/laws.FnExactIsDualReduced", spec := "fnExactIsDualReduced", unfollowed := true, recurses := true, named := ["math/bits.divideError", "math/bits.overflowError"], apart := false, narrowed := true }
def FnExactIsDualReducedUptoSaid : Prop := fnExactIsDualReducedUptoRow.holds Tryz.pinned (OpenSpec.upto fnExactIsDualReducedSpec)

/-- 'laws.FnExactPrimitiveElements', WHERE WHAT IT READS IS OF BULK AT MOST 1048576: true; the input reads as it did. -/
def fnExactPrimitiveElementsUptoRow : OpenClaim := { program := "ytmnphhjljlbfmaagreat", sum := "1a3c518b84454fa58ed1639d363e5c266e6ff5c225ad5928f05f39fc4a57d6ef", func := "loop.example/g01152/laws.FnExactPrimitiveElements", spec := "fnExactPrimitiveElements", unfollowed := true, recurses := true, named := ["math/bits.divideError", "math/bits.overflowError"], apart := false, narrowed := true }
def FnExactPrimitiveElementsUptoSaid : Prop := fnExactPrimitiveElementsUptoRow.holds Tryz.pinned (OpenSpec.upto fnExactPrimitiveElementsSpec)

/-- 'laws.FnExactGrouplikeElements', WHERE WHAT IT READS IS OF BULK AT MOST 1048576: true; the input reads as it did. -/
def fnExactGrouplikeElementsUptoRow : OpenClaim := { program := "ytmnphhjljlbfmaagreat", sum := "1a3c518b84454fa58ed1639d363e5c266e6ff5c225ad5928f05f39fc4a57d6ef", func := "loop.example/g01152/laws.FnExactGrouplikeElements", spec := "fnExactGrouplikeElements", unfollowed := true, recurses := true, named := ["math/bits.divideError", "math/bits.overflowError"], apart := false, narrowed := true }
def FnExactGrouplikeElementsUptoSaid : Prop := fnExactGrouplikeElementsUptoRow.holds Tryz.pinned (OpenSpec.upto fnExactGrouplikeElementsSpec)

end Rows
end Go.Proofs.YtmnphhjljlbfmaaGreat
