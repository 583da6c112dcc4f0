/-
  No cell of these rows narrows 'for every input' (looked for: loops, veiled, ifaces, maps, wideKeys, modest, calm, conditions, laid).
  DERIVED. THE GIVEN ROWS OF THIS SEAT. 8 by the template 'for every input the law returns true; each argument reads behind the call as it read before'; 0 by the template 'total and deterministic' (their statements: YtncdcgaaeclhiaaTotals.lean).
  GIVEN WITH THE SEED: the statements are not yours to turn. If you find one false, say at which input.
  Laid BY PROGRAM, IN A SANDBOX (cutbox-rows.mjs): the forced cells as the released guide's own fill.sh prints them over the translation 46e82f5252270f64… (all of the seat's roots in one cut). By AI agents, Wed Nov 11 2026. No macro, syntax, notation, axiom, sorry.
-/
import Derived.Test.YtncdcgaaeclhiaaChecked
import GoSem.Claim
import GoSem.ClaimJoined
import GoSem.ClaimMapViews
import Derived.JoinedTies
import Derived.KernelRfl
namespace Go.Proofs.Ytncdcgaaeclhiaa
/- THE CELL 'sum', in the pinned program and in every row, IS THE sha256 OF THE DUMP (.gsa) THAT YtncdcgaaeclhiaaProg.lean LOADS. Nothing in Lean hashes anything: it is a label: what it is worth is what the hold of that sum in a sandbox is worth. -/
noncomputable def Try.pinned : Pinned := { name := "ytncdcgaaeclhiaa", sum := "46e82f5252270f6425562a3dd5751ac76d9a85a2980455c8218e6657a551b714", checked := Try.checked }
namespace Rows
def none {H : Type} : Left H := { results := [], args := [] }

/-- 'laws.FnExactCountParts': WHATEVER THE INPUT: true; the input reads as it did. -/
def fnExactCountPartsSpec : ChangeSpec := { name := "fnExactCountParts", fn := fun _ => fun
  | [d] => { results := [.lit (.bool true)], args := [d] }
  | _ => none }
def fnExactCountPartsRow : OpenClaim := { program := "ytncdcgaaeclhiaa", sum := "46e82f5252270f6425562a3dd5751ac76d9a85a2980455c8218e6657a551b714", func := "loop.example/g03302/laws.FnExactCountParts", spec := "fnExactCountParts", apart := false }
def FnExactCountPartsSaid : Prop := fnExactCountPartsRow.holds Try.pinned (OpenSpec.ofChange fnExactCountPartsSpec)

/-- ITS FALSE NEIGHBOUR: 'it returns false'. Refute it at one input. -/
def fnExactCountPartsWrong : ChangeSpec := { name := "fnExactCountParts", fn := fun _ => fun
  | [d] => { results := [.lit (.bool false)], args := [d] }
  | _ => none }
def FnExactCountPartsWrongFalsely : Prop := fnExactCountPartsRow.holds Try.pinned (OpenSpec.ofChange fnExactCountPartsWrong)

/-- 'laws.FnExactMakeJump': WHATEVER THE INPUT: true; the input reads as it did. -/
def fnExactMakeJumpSpec : ChangeSpec := { name := "fnExactMakeJump", fn := fun _ => fun
  | [d1, d2] => { results := [.lit (.bool true)], args := [d1, d2] }
  | _ => none }
def fnExactMakeJumpRow : OpenClaim := { program := "ytncdcgaaeclhiaa", sum := "46e82f5252270f6425562a3dd5751ac76d9a85a2980455c8218e6657a551b714", func := "loop.example/g03302/laws.FnExactMakeJump", spec := "fnExactMakeJump", apart := false }
def FnExactMakeJumpSaid : Prop := fnExactMakeJumpRow.holds Try.pinned (OpenSpec.ofChange fnExactMakeJumpSpec)

/-- ITS FALSE NEIGHBOUR: 'it returns false'. Refute it at one input. -/
def fnExactMakeJumpWrong : ChangeSpec := { name := "fnExactMakeJump", fn := fun _ => fun
  | [d1, d2] => { results := [.lit (.bool false)], args := [d1, d2] }
  | _ => none }
def FnExactMakeJumpWrongFalsely : Prop := fnExactMakeJumpRow.holds Try.pinned (OpenSpec.ofChange fnExactMakeJumpWrong)

/-- 'laws.FnExactSampleTable': WHATEVER THE INPUT: true; the input reads as it did. -/
def fnExactSampleTableSpec : ChangeSpec := { name := "fnExactSampleTable", fn := fun _ => fun
  | [] => { results := [.lit (.bool true)], args := [] }
  | _ => none }
def fnExactSampleTableRow : OpenClaim := { program := "ytncdcgaaeclhiaa", sum := "46e82f5252270f6425562a3dd5751ac76d9a85a2980455c8218e6657a551b714", func := "loop.example/g03302/laws.FnExactSampleTable", spec := "fnExactSampleTable", apart := false }
def FnExactSampleTableSaid : Prop := fnExactSampleTableRow.holds Try.pinned (OpenSpec.ofChange fnExactSampleTableSpec)

/-- ITS FALSE NEIGHBOUR: 'it returns false'. Refute it at one input. -/
def fnExactSampleTableWrong : ChangeSpec := { name := "fnExactSampleTable", fn := fun _ => fun
  | [] => { results := [.lit (.bool false)], args := [] }
  | _ => none }
def FnExactSampleTableWrongFalsely : Prop := fnExactSampleTableRow.holds Try.pinned (OpenSpec.ofChange fnExactSampleTableWrong)

/-- 'laws.FnExactUseHint': WHATEVER THE INPUT: true; the input reads as it did. -/
def fnExactUseHintSpec : ChangeSpec := { name := "fnExactUseHint", fn := fun _ => fun
  | [d] => { results := [.lit (.bool true)], args := [d] }
  | _ => none }
def fnExactUseHintRow : OpenClaim := { program := "ytncdcgaaeclhiaa", sum := "46e82f5252270f6425562a3dd5751ac76d9a85a2980455c8218e6657a551b714", func := "loop.example/g03302/laws.FnExactUseHint", spec := "fnExactUseHint", apart := false }
def FnExactUseHintSaid : Prop := fnExactUseHintRow.holds Try.pinned (OpenSpec.ofChange fnExactUseHintSpec)

/-- ITS FALSE NEIGHBOUR: 'it returns false'. Refute it at one input. -/
def fnExactUseHintWrong : ChangeSpec := { name := "fnExactUseHint", fn := fun _ => fun
  | [d] => { results := [.lit (.bool false)], args := [d] }
  | _ => none }
def FnExactUseHintWrongFalsely : Prop := fnExactUseHintRow.holds Try.pinned (OpenSpec.ofChange fnExactUseHintWrong)

/-- 'laws.FnExactStepBack': WHATEVER THE INPUT: true; the input reads as it did. -/
def fnExactStepBackSpec : ChangeSpec := { name := "fnExactStepBack", fn := fun _ => fun
  | [d] => { results := [.lit (.bool true)], args := [d] }
  | _ => none }
def fnExactStepBackRow : OpenClaim := { program := "ytncdcgaaeclhiaa", sum := "46e82f5252270f6425562a3dd5751ac76d9a85a2980455c8218e6657a551b714", func := "loop.example/g03302/laws.FnExactStepBack", spec := "fnExactStepBack", apart := false }
def FnExactStepBackSaid : Prop := fnExactStepBackRow.holds Try.pinned (OpenSpec.ofChange fnExactStepBackSpec)

/-- ITS FALSE NEIGHBOUR: 'it returns false'. Refute it at one input. -/
def fnExactStepBackWrong : ChangeSpec := { name := "fnExactStepBack", fn := fun _ => fun
  | [d] => { results := [.lit (.bool false)], args := [d] }
  | _ => none }
def FnExactStepBackWrongFalsely : Prop := fnExactStepBackRow.holds Try.pinned (OpenSpec.ofChange fnExactStepBackWrong)

/-- 'laws.FnExactPlayJump': WHATEVER THE INPUT: true; the input reads as it did. -/
def fnExactPlayJumpSpec : ChangeSpec := { name := "fnExactPlayJump", fn := fun _ => fun
  | [d1, d2, d3] => { results := [.lit (.bool true)], args := [d1, d2, d3] }
  | _ => none }
def fnExactPlayJumpRow : OpenClaim := { program := "ytncdcgaaeclhiaa", sum := "46e82f5252270f6425562a3dd5751ac76d9a85a2980455c8218e6657a551b714", func := "loop.example/g03302/laws.FnExactPlayJump", spec := "fnExactPlayJump", apart := false }
def FnExactPlayJumpSaid : Prop := fnExactPlayJumpRow.holds Try.pinned (OpenSpec.ofChange fnExactPlayJumpSpec)

/-- ITS FALSE NEIGHBOUR: 'it returns false'. Refute it at one input. -/
def fnExactPlayJumpWrong : ChangeSpec := { name := "fnExactPlayJump", fn := fun _ => fun
  | [d1, d2, d3] => { results := [.lit (.bool false)], args := [d1, d2, d3] }
  | _ => none }
def FnExactPlayJumpWrongFalsely : Prop := fnExactPlayJumpRow.holds Try.pinned (OpenSpec.ofChange fnExactPlayJumpWrong)

/-- 'laws.FnExactClaimRecord': WHATEVER THE INPUT: true; the input reads as it did. -/
def fnExactClaimRecordSpec : ChangeSpec := { name := "fnExactClaimRecord", fn := fun _ => fun
  | [d1, d2, d3] => { results := [.lit (.bool true)], args := [d1, d2, d3] }
  | _ => none }
def fnExactClaimRecordRow : OpenClaim := { program := "ytncdcgaaeclhiaa", sum := "46e82f5252270f6425562a3dd5751ac76d9a85a2980455c8218e6657a551b714", func := "loop.example/g03302/laws.FnExactClaimRecord", spec := "fnExactClaimRecord", apart := false }
def FnExactClaimRecordSaid : Prop := fnExactClaimRecordRow.holds Try.pinned (OpenSpec.ofChange fnExactClaimRecordSpec)

/-- ITS FALSE NEIGHBOUR: 'it returns false'. Refute it at one input. -/
def fnExactClaimRecordWrong : ChangeSpec := { name := "fnExactClaimRecord", fn := fun _ => fun
  | [d1, d2, d3] => { results := [.lit (.bool false)], args := [d1, d2, d3] }
  | _ => none }
def FnExactClaimRecordWrongFalsely : Prop := fnExactClaimRecordRow.holds Try.pinned (OpenSpec.ofChange fnExactClaimRecordWrong)

/-- 'laws.FnExactAskHint': WHATEVER THE INPUT: true; the input reads as it did. -/
def fnExactAskHintSpec : ChangeSpec := { name := "fnExactAskHint", fn := fun _ => fun
  | [d1, d2] => { results := [.lit (.bool true)], args := [d1, d2] }
  | _ => none }
def fnExactAskHintRow : OpenClaim := { program := "ytncdcgaaeclhiaa", sum := "46e82f5252270f6425562a3dd5751ac76d9a85a2980455c8218e6657a551b714", func := "loop.example/g03302/laws.FnExactAskHint", spec := "fnExactAskHint", apart := false }
def FnExactAskHintSaid : Prop := fnExactAskHintRow.holds Try.pinned (OpenSpec.ofChange fnExactAskHintSpec)

/-- ITS FALSE NEIGHBOUR: 'it returns false'. Refute it at one input. -/
def fnExactAskHintWrong : ChangeSpec := { name := "fnExactAskHint", fn := fun _ => fun
  | [d1, d2] => { results := [.lit (.bool false)], args := [d1, d2] }
  | _ => none }
def FnExactAskHintWrongFalsely : Prop := fnExactAskHintRow.holds Try.pinned (OpenSpec.ofChange fnExactAskHintWrong)

/- THE SECOND FORM. 'bulk': how many values and letters a reading holds, each counted each time it is reached (what is shared counts as often as it is met; a slice's spare places count too). A statement '..UptoSaid' is the law's where the arguments, and the package variables that the reading takes, are together of bulk at most 1048576: NARROWER than '..Said'. Prove '..Said' where nothing that the law and all that it calls make is longer than what came in: it says more and counts as full. Else prove '..UptoSaid'. A law counts once. -/
mutual
def uptoBulk {H : Type} : DataW H → Nat
  | .lit (.string bytes) => bytes.length + 1
  | .lit _ => 1
  | .nil => 1
  | .ptr d => uptoBulk d + 1
  | .slice elems spare => uptoBulkAll elems + uptoBulkAll spare + 1
  | .agg parts => uptoBulkAll parts + 1
  | .iface _ d => uptoBulk d + 1
  | .map entries => uptoBulkEntries entries + 1
  | .held _ => 1
def uptoBulkAll {H : Type} : List (DataW H) → Nat
  | [] => 0
  | d :: r => uptoBulk d + uptoBulkAll r
def uptoBulkEntries {H : Type} : List (Lit × DataW H) → Nat
  | [] => 0
  | x :: r => uptoBulkEntry x + uptoBulkEntries r
def uptoBulkEntry {H : Type} : Lit × DataW H → Nat
  | (.string bytes, d) => bytes.length + uptoBulk d + 1
  | (_, d) => uptoBulk d + 1
 end
def uptoSmall : (H : Type) → List (DataW H) → Bool := fun _ ds => decide (uptoBulkAll ds ≤ 1048576)
def OpenSpec.upto (s : _root_.Go.ChangeSpec) : _root_.Go.OpenSpec := { _root_.Go.OpenSpec.ofChange s with cond := some uptoSmall }

/-- 'laws.FnExactCountParts', WHERE WHAT IT READS IS OF BULK AT MOST 1048576: true; the input reads as it did. -/
def fnExactCountPartsUptoRow : OpenClaim := { program := "ytncdcgaaeclhiaa", sum := "46e82f5252270f6425562a3dd5751ac76d9a85a2980455c8218e6657a551b714", func := "loop.example/g03302/laws.FnExactCountParts", spec := "fnExactCountParts", apart := false, narrowed := true }
def FnExactCountPartsUptoSaid : Prop := fnExactCountPartsUptoRow.holds Try.pinned (OpenSpec.upto fnExactCountPartsSpec)

/-- 'laws.FnExactMakeJump', WHERE WHAT IT READS IS OF BULK AT MOST 1048576: true; the input reads as it did. -/
def fnExactMakeJumpUptoRow : OpenClaim := { program := "ytncdcgaaeclhiaa", sum := "46e82f5252270f6425562a3dd5751ac76d9a85a2980455c8218e6657a551b714", func := "loop.example/g03302/laws.FnExactMakeJump", spec := "fnExactMakeJump", apart := false, narrowed := true }
def FnExactMakeJumpUptoSaid : Prop := fnExactMakeJumpUptoRow.holds Try.pinned (OpenSpec.upto fnExactMakeJumpSpec)

/-- 'laws.FnExactSampleTable', WHERE WHAT IT READS IS OF BULK AT MOST 1048576: true; the input reads as it did. -/
def fnExactSampleTableUptoRow : OpenClaim := { program := "ytncdcgaaeclhiaa", sum := "46e82f5252270f6425562a3dd5751ac76d9a85a2980455c8218e6657a551b714", func := "loop.example/g03302/laws.FnExactSampleTable", spec := "fnExactSampleTable", apart := false, narrowed := true }
def FnExactSampleTableUptoSaid : Prop := fnExactSampleTableUptoRow.holds Try.pinned (OpenSpec.upto fnExactSampleTableSpec)

/-- 'laws.FnExactUseHint', WHERE WHAT IT READS IS OF BULK AT MOST 1048576: true; the input reads as it did. -/
def fnExactUseHintUptoRow : OpenClaim := { program := "ytncdcgaaeclhiaa", sum := "46e82f5252270f6425562a3dd5751ac76d9a85a2980455c8218e6657a551b714", func := "loop.example/g03302/laws.FnExactUseHint", spec := "fnExactUseHint", apart := false, narrowed := true }
def FnExactUseHintUptoSaid : Prop := fnExactUseHintUptoRow.holds Try.pinned (OpenSpec.upto fnExactUseHintSpec)

/-- 'laws.FnExactStepBack', WHERE WHAT IT READS IS OF BULK AT MOST 1048576: true; the input reads as it did. -/
def fnExactStepBackUptoRow : OpenClaim := { program := "ytncdcgaaeclhiaa", sum := "46e82f5252270f6425562a3dd5751ac76d9a85a2980455c8218e6657a551b714", func := "loop.example/g03302/laws.FnExactStepBack", spec := "fnExactStepBack", apart := false, narrowed := true }
def FnExactStepBackUptoSaid : Prop := fnExactStepBackUptoRow.holds Try.pinned (OpenSpec.upto fnExactStepBackSpec)

/-- 'laws.FnExactPlayJump', WHERE WHAT IT READS IS OF BULK AT MOST 1048576: true; the input reads as it did. -/
def fnExactPlayJumpUptoRow : OpenClaim := { program := "ytncdcgaaeclhiaa", sum := "46e82f5252270f6425562a3dd5751ac76d9a85a2980455c8218e6657a551b714", func := "loop.example/g03302/laws.FnExactPlayJump", spec := "fnExactPlayJump", apart := false, narrowed := true }
def FnExactPlayJumpUptoSaid : Prop := fnExactPlayJumpUptoRow.holds Try.pinned (OpenSpec.upto fnExactPlayJumpSpec)

/-- 'laws.FnExactClaimRecord', WHERE WHAT IT READS IS OF BULK AT MOST 1048576: true; the input reads as it did. -/
def fnExactClaimRecordUptoRow : OpenClaim := { program := "ytncdcgaaeclhiaa", sum := "46e82f5252270f6425562a3dd5751ac76d9a85a2980455c8218e6657a551b714", func := "loop.example/g03302/laws.FnExactClaimRecord", spec := "fnExactClaimRecord", apart := false, narrowed := true }
def FnExactClaimRecordUptoSaid : Prop := fnExactClaimRecordUptoRow.holds Try.pinned (OpenSpec.upto fnExactClaimRecordSpec)

/-- 'laws.FnExactAskHint', WHERE WHAT IT READS IS OF BULK AT MOST 1048576: true; the input reads as it did. -/
def fnExactAskHintUptoRow : OpenClaim := { program := "ytncdcgaaeclhiaa", sum := "46e82f5252270f6425562a3dd5751ac76d9a85a2980455c8218e6657a551b714", func := "loop.example/g03302/laws.FnExactAskHint", spec := "fnExactAskHint", apart := false, narrowed := true }
def FnExactAskHintUptoSaid : Prop := fnExactAskHintUptoRow.holds Try.pinned (OpenSpec.upto fnExactAskHintSpec)

end Rows
end Go.Proofs.Ytncdcgaaeclhiaa
