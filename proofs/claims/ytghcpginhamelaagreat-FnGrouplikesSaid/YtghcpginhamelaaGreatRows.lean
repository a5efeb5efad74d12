/-
  No cell of these rows narrows 'for every input' (looked for: loops, veiled, ifaces, maps, wideKeys, modest, calm, conditions, laid).
  DERIVED. THE GIVEN ROWS OF THIS SEAT. 5 by the template 'for every input the law returns true; each argument reads behind the call as it read before'; 0 by the template 'total and deterministic' (their statements: YtghcpginhamelaaGreatTotals.lean).
  GIVEN WITH THE SEED: the statements are not yours to turn. If you find one false, say at which input.
  Laid BY PROGRAM, IN A SANDBOX (cutbox-rows.mjs): the forced cells as the released guide's own fill.sh prints them over the translation adbe4472c76a24ab… (all of the seat's roots in one cut). By AI agents, Wed Nov 11 2026. No macro, syntax, notation, axiom, sorry.
-/
import Derived.Test.YtghcpginhamelaaGreatChecked
import GoSem.Claim
import GoSem.ClaimJoined
import GoSem.ClaimMapViews
import Derived.JoinedTies
import Derived.KernelRfl
namespace Go.Proofs.YtghcpginhamelaaGreat
/- THE CELL 'sum', in the pinned program and in every row, IS THE sha256 OF THE DUMP (.gsa) THAT YtghcpginhamelaaGreatProg.lean LOADS. Nothing in Lean hashes anything: it is a label: what it is worth is what the hold of that sum in a sandbox is worth. -/
noncomputable def Tryz.pinned : Pinned := { name := "ytghcpginhamelaagreat", sum := "adbe4472c76a24ab3fc5b88e0a6794b1ac67a74bf39f9acc1d18c8d287495597", checked := Tryz.checked }
namespace Rows
def none {H : Type} : Left H := { results := [], args := [] }

/-- 'laws.FnStandardLaws': WHATEVER THE INPUT: true; the input reads as it did. -/
def fnStandardLawsSpec : ChangeSpec := { name := "fnStandardLaws", fn := fun _ => fun
  | [d] => { results := [.lit (.bool true)], args := [d] }
  | _ => none }
def fnStandardLawsRow : OpenClaim := { program := "ytghcpginhamelaagreat", sum := "adbe4472c76a24ab3fc5b88e0a6794b1ac67a74bf39f9acc1d18c8d287495597", func := "loop.example/g01152/laws.FnStandardLaws", spec := "fnStandardLaws", unfollowed := true, recurses := true, named := ["math/bits.divideError", "math/bits.overflowError"], apart := false }
def FnStandardLawsSaid : Prop := fnStandardLawsRow.holds Tryz.pinned (OpenSpec.ofChange fnStandardLawsSpec)

/-- ITS FALSE NEIGHBOUR: 'it returns false'. Refute it at one input. -/
def fnStandardLawsWrong : ChangeSpec := { name := "fnStandardLaws", fn := fun _ => fun
  | [d] => { results := [.lit (.bool false)], args := [d] }
  | _ => none }
def FnStandardLawsWrongFalsely : Prop := fnStandardLawsRow.holds Tryz.pinned (OpenSpec.ofChange fnStandardLawsWrong)

/-- 'laws.FnPointSums': WHATEVER THE INPUT: true; the input reads as it did. -/
def fnPointSumsSpec : ChangeSpec := { name := "fnPointSums", fn := fun _ => fun
  | [d] => { results := [.lit (.bool true)], args := [d] }
  | _ => none }
def fnPointSumsRow : OpenClaim := { program := "ytghcpginhamelaagreat", sum := "adbe4472c76a24ab3fc5b88e0a6794b1ac67a74bf39f9acc1d18c8d287495597", func := "loop.example/g01152/laws.FnPointSums", spec := "fnPointSums", unfollowed := true, recurses := true, named := ["math/bits.divideError", "math/bits.overflowError"], apart := false }
def FnPointSumsSaid : Prop := fnPointSumsRow.holds Tryz.pinned (OpenSpec.ofChange fnPointSumsSpec)

/-- ITS FALSE NEIGHBOUR: 'it returns false'. Refute it at one input. -/
def fnPointSumsWrong : ChangeSpec := { name := "fnPointSums", fn := fun _ => fun
  | [d] => { results := [.lit (.bool false)], args := [d] }
  | _ => none }
def FnPointSumsWrongFalsely : Prop := fnPointSumsRow.holds Tryz.pinned (OpenSpec.ofChange fnPointSumsWrong)

/-- 'laws.FnHomomorphisms': WHATEVER THE INPUT: true; the input reads as it did. -/
def fnHomomorphismsSpec : ChangeSpec := { name := "fnHomomorphisms", fn := fun _ => fun
  | [d] => { results := [.lit (.bool true)], args := [d] }
  | _ => none }
def fnHomomorphismsRow : OpenClaim := { program := "ytghcpginhamelaagreat", sum := "adbe4472c76a24ab3fc5b88e0a6794b1ac67a74bf39f9acc1d18c8d287495597", func := "loop.example/g01152/laws.FnHomomorphisms", spec := "fnHomomorphisms", unfollowed := true, recurses := true, named := ["math/bits.divideError", "math/bits.overflowError"], apart := false }
def FnHomomorphismsSaid : Prop := fnHomomorphismsRow.holds Tryz.pinned (OpenSpec.ofChange fnHomomorphismsSpec)

/-- ITS FALSE NEIGHBOUR: 'it returns false'. Refute it at one input. -/
def fnHomomorphismsWrong : ChangeSpec := { name := "fnHomomorphisms", fn := fun _ => fun
  | [d] => { results := [.lit (.bool false)], args := [d] }
  | _ => none }
def FnHomomorphismsWrongFalsely : Prop := fnHomomorphismsRow.holds Tryz.pinned (OpenSpec.ofChange fnHomomorphismsWrong)

/-- 'laws.FnOperators': WHATEVER THE INPUT: true; the input reads as it did. -/
def fnOperatorsSpec : ChangeSpec := { name := "fnOperators", fn := fun _ => fun
  | [d] => { results := [.lit (.bool true)], args := [d] }
  | _ => none }
def fnOperatorsRow : OpenClaim := { program := "ytghcpginhamelaagreat", sum := "adbe4472c76a24ab3fc5b88e0a6794b1ac67a74bf39f9acc1d18c8d287495597", func := "loop.example/g01152/laws.FnOperators", spec := "fnOperators", unfollowed := true, recurses := true, named := ["math/bits.divideError", "math/bits.overflowError"], apart := false }
def FnOperatorsSaid : Prop := fnOperatorsRow.holds Tryz.pinned (OpenSpec.ofChange fnOperatorsSpec)

/-- ITS FALSE NEIGHBOUR: 'it returns false'. Refute it at one input. -/
def fnOperatorsWrong : ChangeSpec := { name := "fnOperators", fn := fun _ => fun
  | [d] => { results := [.lit (.bool false)], args := [d] }
  | _ => none }
def FnOperatorsWrongFalsely : Prop := fnOperatorsRow.holds Tryz.pinned (OpenSpec.ofChange fnOperatorsWrong)

/-- 'laws.FnGrouplikes': WHATEVER THE INPUT: true; the input reads as it did. -/
def fnGrouplikesSpec : ChangeSpec := { name := "fnGrouplikes", fn := fun _ => fun
  | [d] => { results := [.lit (.bool true)], args := [d] }
  | _ => none }
def fnGrouplikesRow : OpenClaim := { program := "ytghcpginhamelaagreat", sum := "adbe4472c76a24ab3fc5b88e0a6794b1ac67a74bf39f9acc1d18c8d287495597", func := "loop.example/g01152/laws.FnGrouplikes", spec := "fnGrouplikes", unfollowed := true, recurses := true, named := ["math/bits.divideError", "math/bits.overflowError"], apart := false }
def FnGrouplikesSaid : Prop := fnGrouplikesRow.holds Tryz.pinned (OpenSpec.ofChange fnGrouplikesSpec)

/-- ITS FALSE NEIGHBOUR: 'it returns false'. Refute it at one input. -/
def fnGrouplikesWrong : ChangeSpec := { name := "fnGrouplikes", fn := fun _ => fun
  | [d] => { results := [.lit (.bool false)], args := [d] }
  | _ => none }
def FnGrouplikesWrongFalsely : Prop := fnGrouplikesRow.holds Tryz.pinned (OpenSpec.ofChange fnGrouplikesWrong)

/- THE SECOND FORM. 'bulk': how many values and letters a reading holds, each counted each time it is reached (what is shared counts as often as it is met; a slice's spare places count too). A statement '..UptoSaid' is the law's where the arguments, and the package variables that the reading takes, are together of bulk at most 1048576: NARROWER than '..Said'. Prove '..Said' where nothing that the law and all that it calls make is longer than what came in: it says more and counts as full. Else prove '..UptoSaid'. A law counts once. -/
mutual
def uptoBulk {H : Type} : DataW H → Nat
  | .lit (.string bytes) => bytes.length + 1
  | .lit _ => 1
  | .nil => 1
  | .ptr d => uptoBulk d + 1
  | .slice elems spare => uptoBulkAll elems + uptoBulkAll spare + 1
  | .agg parts => uptoBulkAll parts + 1
  | .iface _ d => uptoBulk d + 1
  | .map entries => uptoBulkEntries entries + 1
  | .held _ => 1
def uptoBulkAll {H : Type} : List (DataW H) → Nat
  | [] => 0
  | d :: r => uptoBulk d + uptoBulkAll r
def uptoBulkEntries {H : Type} : List (Lit × DataW H) → Nat
  | [] => 0
  | x :: r => uptoBulkEntry x + uptoBulkEntries r
def uptoBulkEntry {H : Type} : Lit × DataW H → Nat
  | (.string bytes, d) => bytes.length + uptoBulk d + 1
  | (_, d) => uptoBulk d + 1
 end
def uptoSmall : (H : Type) → List (DataW H) → Bool := fun _ ds => decide (uptoBulkAll ds ≤ 1048576)
def OpenSpec.upto (s : _root_.Go.ChangeSpec) : _root_.Go.OpenSpec := { _root_.Go.OpenSpec.ofChange s with cond := some uptoSmall }

/-- 'laws.FnStandardLaws', WHERE WHAT IT READS IS OF BULK AT MOST 1048576: true; the input reads as it did. -/
def fnStandardLawsUptoRow : OpenClaim := { program := "ytghcpginhamelaagreat", sum := "adbe4472c76a24ab3fc5b88e0a6794b1ac67a74bf39f9acc1d18c8d287495597", func := "loop.example/g01152/laws.FnStandardLaws", spec := "fnStandardLaws", unfollowed := true, recurses := true, named := ["math/bits.divideError", "math/bits.overflowError"], apart := false, narrowed := true }
def FnStandardLawsUptoSaid : Prop := fnStandardLawsUptoRow.holds Tryz.pinned (OpenSpec.upto fnStandardLawsSpec)

/-- 'laws.FnPointSums', WHERE WHAT IT READS IS OF BULK AT MOST 1048576: true; the input reads as it did. -/
def fnPointSumsUptoRow : OpenClaim := { program := "ytghcpginhamelaagreat", sum := "adbe4472c76a24ab3fc5b88e0a6794b1ac67a74bf39f9acc1d18c8d287495597", func := "loop.example/g01152/laws.FnPointSums", spec := "fnPointSums", unfollowed := true, recurses := true, named := ["math/bits.divideError", "math/bits.overflowError"], apart := false, narrowed := true }
def FnPointSumsUptoSaid : Prop := fnPointSumsUptoRow.holds Tryz.pinned (OpenSpec.upto fnPointSumsSpec)

/-- 'laws.FnHomomorphisms', WHERE WHAT IT READS IS OF BULK AT MOST 1048576: true; the input reads as it did. -/
def fnHomomorphismsUptoRow : OpenClaim := { program := "ytghcpginhamelaagreat", sum := "adbe4472c76a24ab3fc5b88e0a6794b1ac67a74bf39f9acc1d18c8d287495597", func := "loop.example/g01152/laws.FnHomomorphisms", spec := "fnHomomorphisms", unfollowed := true, recurses := true, named := ["math/bits.divideError", "math/bits.overflowError"], apart := false, narrowed := true }
def FnHomomorphismsUptoSaid : Prop := fnHomomorphismsUptoRow.holds Tryz.pinned (OpenSpec.upto fnHomomorphismsSpec)

/-- 'laws.FnOperators', WHERE WHAT IT READS IS OF BULK AT MOST 1048576: true; the input reads as it did. -/
def fnOperatorsUptoRow : OpenClaim := { program := "ytghcpginhamelaagreat", sum := "adbe4472c76a24ab3fc5b88e0a6794b1ac67a74bf39f9acc1d18c8d287495597", func := "loop.example/g01152/laws.FnOperators", spec := "fnOperators", unfollowed := true, recurses := true, named := ["math/bits.divideError", "math/bits.overflowError"], apart := false, narrowed := true }
def FnOperatorsUptoSaid : Prop := fnOperatorsUptoRow.holds Tryz.pinned (OpenSpec.upto fnOperatorsSpec)

/-- 'laws.FnGrouplikes', WHERE WHAT IT READS IS OF BULK AT MOST 1048576: true; the input reads as it did. -/
def fnGrouplikesUptoRow : OpenClaim := { program := "ytghcpginhamelaagreat", sum := "adbe4472c76a24ab3fc5b88e0a6794b1ac67a74bf39f9acc1d18c8d287495597", func := "loop.example/g01152/laws.FnGrouplikes", spec := "fnGrouplikes", unfollowed := true, recurses := true, named := ["math/bits.divideError", "math/bits.overflowError"], apart := false, narrowed := true }
def FnGrouplikesUptoSaid : Prop := fnGrouplikesUptoRow.holds Tryz.pinned (OpenSpec.upto fnGrouplikesSpec)

end Rows
end Go.Proofs.YtghcpginhamelaaGreat
