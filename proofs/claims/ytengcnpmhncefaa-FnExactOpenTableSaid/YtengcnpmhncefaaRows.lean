/-
  No cell of these rows narrows 'for every input' (looked for: loops, veiled, ifaces, maps, wideKeys, modest, calm, conditions, laid).
  DERIVED. THE GIVEN ROWS OF THIS SEAT. 10 by the template 'for every input the law returns true; each argument reads behind the call as it read before'; 0 by the template 'total and deterministic' (their statements: YtengcnpmhncefaaTotals.lean).
  GIVEN WITH THE SEED: the statements are not yours to turn. If you find one false, say at which input.
  Laid BY PROGRAM, IN A SANDBOX (cutbox-rows.mjs): the forced cells as the released guide's own fill.sh prints them over the translation e3f8a11c899973f6… (all of the seat's roots in one cut). By AI agents, Wed Nov 11 2026. No macro, syntax, notation, axiom, sorry.
-/
import Derived.Test.YtengcnpmhncefaaChecked
import GoSem.Claim
import GoSem.ClaimJoined
import GoSem.ClaimMapViews
import Derived.JoinedTies
import Derived.KernelRfl
namespace Go.Proofs.Ytengcnpmhncefaa
/- THE CELL 'sum', in the pinned program and in every row, IS THE sha256 OF THE DUMP (.gsa) THAT YtengcnpmhncefaaProg.lean LOADS. Nothing in Lean hashes anything: it is a label: what it is worth is what the hold of that sum in a sandbox is worth. -/
noncomputable def Try.pinned : Pinned := { name := "ytengcnpmhncefaa", sum := "e3f8a11c899973f67e651750bdff2144618f575f86f223621a7d6e47138e04b8", checked := Try.checked }
namespace Rows
def none {H : Type} : Left H := { results := [], args := [] }

/-- 'laws.FnExactIsWon': WHATEVER THE INPUT: true; the input reads as it did. -/
def fnExactIsWonSpec : ChangeSpec := { name := "fnExactIsWon", fn := fun _ => fun
  | [d] => { results := [.lit (.bool true)], args := [d] }
  | _ => none }
def fnExactIsWonRow : OpenClaim := { program := "ytengcnpmhncefaa", sum := "e3f8a11c899973f67e651750bdff2144618f575f86f223621a7d6e47138e04b8", func := "loop.example/g03302/laws.FnExactIsWon", spec := "fnExactIsWon", apart := false }
def FnExactIsWonSaid : Prop := fnExactIsWonRow.holds Try.pinned (OpenSpec.ofChange fnExactIsWonSpec)

/-- ITS FALSE NEIGHBOUR: 'it returns false'. Refute it at one input. -/
def fnExactIsWonWrong : ChangeSpec := { name := "fnExactIsWon", fn := fun _ => fun
  | [d] => { results := [.lit (.bool false)], args := [d] }
  | _ => none }
def FnExactIsWonWrongFalsely : Prop := fnExactIsWonRow.holds Try.pinned (OpenSpec.ofChange fnExactIsWonWrong)

/-- 'laws.FnExactMakeJump': WHATEVER THE INPUT: true; the input reads as it did. -/
def fnExactMakeJumpSpec : ChangeSpec := { name := "fnExactMakeJump", fn := fun _ => fun
  | [d1, d2] => { results := [.lit (.bool true)], args := [d1, d2] }
  | _ => none }
def fnExactMakeJumpRow : OpenClaim := { program := "ytengcnpmhncefaa", sum := "e3f8a11c899973f67e651750bdff2144618f575f86f223621a7d6e47138e04b8", func := "loop.example/g03302/laws.FnExactMakeJump", spec := "fnExactMakeJump", apart := false }
def FnExactMakeJumpSaid : Prop := fnExactMakeJumpRow.holds Try.pinned (OpenSpec.ofChange fnExactMakeJumpSpec)

/-- ITS FALSE NEIGHBOUR: 'it returns false'. Refute it at one input. -/
def fnExactMakeJumpWrong : ChangeSpec := { name := "fnExactMakeJump", fn := fun _ => fun
  | [d1, d2] => { results := [.lit (.bool false)], args := [d1, d2] }
  | _ => none }
def FnExactMakeJumpWrongFalsely : Prop := fnExactMakeJumpRow.holds Try.pinned (OpenSpec.ofChange fnExactMakeJumpWrong)

/-- 'laws.FnExactTakeBack': WHATEVER THE INPUT: true; the input reads as it did. -/
def fnExactTakeBackSpec : ChangeSpec := { name := "fnExactTakeBack", fn := fun _ => fun
  | [d] => { results := [.lit (.bool true)], args := [d] }
  | _ => none }
def fnExactTakeBackRow : OpenClaim := { program := "ytengcnpmhncefaa", sum := "e3f8a11c899973f67e651750bdff2144618f575f86f223621a7d6e47138e04b8", func := "loop.example/g03302/laws.FnExactTakeBack", spec := "fnExactTakeBack", apart := false }
def FnExactTakeBackSaid : Prop := fnExactTakeBackRow.holds Try.pinned (OpenSpec.ofChange fnExactTakeBackSpec)

/-- ITS FALSE NEIGHBOUR: 'it returns false'. Refute it at one input. -/
def fnExactTakeBackWrong : ChangeSpec := { name := "fnExactTakeBack", fn := fun _ => fun
  | [d] => { results := [.lit (.bool false)], args := [d] }
  | _ => none }
def FnExactTakeBackWrongFalsely : Prop := fnExactTakeBackRow.holds Try.pinned (OpenSpec.ofChange fnExactTakeBackWrong)

/-- 'laws.FnHoles': WHATEVER THE INPUT: true; the input reads as it did. -/
def fnHolesSpec : ChangeSpec := { name := "fnHoles", fn := fun _ => fun
  | [d] => { results := [.lit (.bool true)], args := [d] }
  | _ => none }
def fnHolesRow : OpenClaim := { program := "ytengcnpmhncefaa", sum := "e3f8a11c899973f67e651750bdff2144618f575f86f223621a7d6e47138e04b8", func := "loop.example/g03302/laws.FnHoles", spec := "fnHoles", apart := false }
def FnHolesSaid : Prop := fnHolesRow.holds Try.pinned (OpenSpec.ofChange fnHolesSpec)

/-- ITS FALSE NEIGHBOUR: 'it returns false'. Refute it at one input. -/
def fnHolesWrong : ChangeSpec := { name := "fnHoles", fn := fun _ => fun
  | [d] => { results := [.lit (.bool false)], args := [d] }
  | _ => none }
def FnHolesWrongFalsely : Prop := fnHolesRow.holds Try.pinned (OpenSpec.ofChange fnHolesWrong)

/-- 'laws.FnExactTableOk': WHATEVER THE INPUT: true; the input reads as it did. -/
def fnExactTableOkSpec : ChangeSpec := { name := "fnExactTableOk", fn := fun _ => fun
  | [d] => { results := [.lit (.bool true)], args := [d] }
  | _ => none }
def fnExactTableOkRow : OpenClaim := { program := "ytengcnpmhncefaa", sum := "e3f8a11c899973f67e651750bdff2144618f575f86f223621a7d6e47138e04b8", func := "loop.example/g03302/laws.FnExactTableOk", spec := "fnExactTableOk", apart := false }
def FnExactTableOkSaid : Prop := fnExactTableOkRow.holds Try.pinned (OpenSpec.ofChange fnExactTableOkSpec)

/-- ITS FALSE NEIGHBOUR: 'it returns false'. Refute it at one input. -/
def fnExactTableOkWrong : ChangeSpec := { name := "fnExactTableOk", fn := fun _ => fun
  | [d] => { results := [.lit (.bool false)], args := [d] }
  | _ => none }
def FnExactTableOkWrongFalsely : Prop := fnExactTableOkRow.holds Try.pinned (OpenSpec.ofChange fnExactTableOkWrong)

/-- 'laws.FnExactOpenTable': WHATEVER THE INPUT: true; the input reads as it did. -/
def fnExactOpenTableSpec : ChangeSpec := { name := "fnExactOpenTable", fn := fun _ => fun
  | [d1, d2, d3] => { results := [.lit (.bool true)], args := [d1, d2, d3] }
  | _ => none }
def fnExactOpenTableRow : OpenClaim := { program := "ytengcnpmhncefaa", sum := "e3f8a11c899973f67e651750bdff2144618f575f86f223621a7d6e47138e04b8", func := "loop.example/g03302/laws.FnExactOpenTable", spec := "fnExactOpenTable", apart := false }
def FnExactOpenTableSaid : Prop := fnExactOpenTableRow.holds Try.pinned (OpenSpec.ofChange fnExactOpenTableSpec)

/-- ITS FALSE NEIGHBOUR: 'it returns false'. Refute it at one input. -/
def fnExactOpenTableWrong : ChangeSpec := { name := "fnExactOpenTable", fn := fun _ => fun
  | [d1, d2, d3] => { results := [.lit (.bool false)], args := [d1, d2, d3] }
  | _ => none }
def FnExactOpenTableWrongFalsely : Prop := fnExactOpenTableRow.holds Try.pinned (OpenSpec.ofChange fnExactOpenTableWrong)

/-- 'laws.FnExactSampleTable': WHATEVER THE INPUT: true; the input reads as it did. -/
def fnExactSampleTableSpec : ChangeSpec := { name := "fnExactSampleTable", fn := fun _ => fun
  | [] => { results := [.lit (.bool true)], args := [] }
  | _ => none }
def fnExactSampleTableRow : OpenClaim := { program := "ytengcnpmhncefaa", sum := "e3f8a11c899973f67e651750bdff2144618f575f86f223621a7d6e47138e04b8", func := "loop.example/g03302/laws.FnExactSampleTable", spec := "fnExactSampleTable", apart := false }
def FnExactSampleTableSaid : Prop := fnExactSampleTableRow.holds Try.pinned (OpenSpec.ofChange fnExactSampleTableSpec)

/-- ITS FALSE NEIGHBOUR: 'it returns false'. Refute it at one input. -/
def fnExactSampleTableWrong : ChangeSpec := { name := "fnExactSampleTable", fn := fun _ => fun
  | [] => { results := [.lit (.bool false)], args := [] }
  | _ => none }
def FnExactSampleTableWrongFalsely : Prop := fnExactSampleTableRow.holds Try.pinned (OpenSpec.ofChange fnExactSampleTableWrong)

/-- 'laws.FnJournals': WHATEVER THE INPUT: true; the input reads as it did. -/
def fnJournalsSpec : ChangeSpec := { name := "fnJournals", fn := fun _ => fun
  | [d] => { results := [.lit (.bool true)], args := [d] }
  | _ => none }
def fnJournalsRow : OpenClaim := { program := "ytengcnpmhncefaa", sum := "e3f8a11c899973f67e651750bdff2144618f575f86f223621a7d6e47138e04b8", func := "loop.example/g03302/laws.FnJournals", spec := "fnJournals", apart := false }
def FnJournalsSaid : Prop := fnJournalsRow.holds Try.pinned (OpenSpec.ofChange fnJournalsSpec)

/-- ITS FALSE NEIGHBOUR: 'it returns false'. Refute it at one input. -/
def fnJournalsWrong : ChangeSpec := { name := "fnJournals", fn := fun _ => fun
  | [d] => { results := [.lit (.bool false)], args := [d] }
  | _ => none }
def FnJournalsWrongFalsely : Prop := fnJournalsRow.holds Try.pinned (OpenSpec.ofChange fnJournalsWrong)

/-- 'laws.FnExactAuditTable': WHATEVER THE INPUT: true; the input reads as it did. -/
def fnExactAuditTableSpec : ChangeSpec := { name := "fnExactAuditTable", fn := fun _ => fun
  | [d] => { results := [.lit (.bool true)], args := [d] }
  | _ => none }
def fnExactAuditTableRow : OpenClaim := { program := "ytengcnpmhncefaa", sum := "e3f8a11c899973f67e651750bdff2144618f575f86f223621a7d6e47138e04b8", func := "loop.example/g03302/laws.FnExactAuditTable", spec := "fnExactAuditTable", apart := false }
def FnExactAuditTableSaid : Prop := fnExactAuditTableRow.holds Try.pinned (OpenSpec.ofChange fnExactAuditTableSpec)

/-- ITS FALSE NEIGHBOUR: 'it returns false'. Refute it at one input. -/
def fnExactAuditTableWrong : ChangeSpec := { name := "fnExactAuditTable", fn := fun _ => fun
  | [d] => { results := [.lit (.bool false)], args := [d] }
  | _ => none }
def FnExactAuditTableWrongFalsely : Prop := fnExactAuditTableRow.holds Try.pinned (OpenSpec.ofChange fnExactAuditTableWrong)

/-- 'laws.FnExactUseHint': WHATEVER THE INPUT: true; the input reads as it did. -/
def fnExactUseHintSpec : ChangeSpec := { name := "fnExactUseHint", fn := fun _ => fun
  | [d] => { results := [.lit (.bool true)], args := [d] }
  | _ => none }
def fnExactUseHintRow : OpenClaim := { program := "ytengcnpmhncefaa", sum := "e3f8a11c899973f67e651750bdff2144618f575f86f223621a7d6e47138e04b8", func := "loop.example/g03302/laws.FnExactUseHint", spec := "fnExactUseHint", apart := false }
def FnExactUseHintSaid : Prop := fnExactUseHintRow.holds Try.pinned (OpenSpec.ofChange fnExactUseHintSpec)

/-- ITS FALSE NEIGHBOUR: 'it returns false'. Refute it at one input. -/
def fnExactUseHintWrong : ChangeSpec := { name := "fnExactUseHint", fn := fun _ => fun
  | [d] => { results := [.lit (.bool false)], args := [d] }
  | _ => none }
def FnExactUseHintWrongFalsely : Prop := fnExactUseHintRow.holds Try.pinned (OpenSpec.ofChange fnExactUseHintWrong)

/- THE SECOND FORM. 'bulk': how many values and letters a reading holds, each counted each time it is reached (what is shared counts as often as it is met; a slice's spare places count too). A statement '..UptoSaid' is the law's where the arguments, and the package variables that the reading takes, are together of bulk at most 1048576: NARROWER than '..Said'. Prove '..Said' where nothing that the law and all that it calls make is longer than what came in: it says more and counts as full. Else prove '..UptoSaid'. A law counts once. -/
mutual
def uptoBulk {H : Type} : DataW H → Nat
  | .lit (.string bytes) => bytes.length + 1
  | .lit _ => 1
  | .nil => 1
  | .ptr d => uptoBulk d + 1
  | .slice elems spare => uptoBulkAll elems + uptoBulkAll spare + 1
  | .agg parts => uptoBulkAll parts + 1
  | .iface _ d => uptoBulk d + 1
  | .map entries => uptoBulkEntries entries + 1
  | .held _ => 1
def uptoBulkAll {H : Type} : List (DataW H) → Nat
  | [] => 0
  | d :: r => uptoBulk d + uptoBulkAll r
def uptoBulkEntries {H : Type} : List (Lit × DataW H) → Nat
  | [] => 0
  | x :: r => uptoBulkEntry x + uptoBulkEntries r
def uptoBulkEntry {H : Type} : Lit × DataW H → Nat
  | (.string bytes, d) => bytes.length + uptoBulk d + 1
  | (_, d) => uptoBulk d + 1
 end
def uptoSmall : (H : Type) → List (DataW H) → Bool := fun _ ds => decide (uptoBulkAll ds ≤ 1048576)
def OpenSpec.upto (s : _root_.Go.ChangeSpec) : _root_.Go.OpenSpec := { _root_.Go.OpenSpec.ofChange s with cond := some uptoSmall }

/-- 'laws.FnExactIsWon', WHERE WHAT IT READS IS OF BULK AT MOST 1048576: true; the input reads as it did. -/
def fnExactIsWonUptoRow : OpenClaim := { program := "ytengcnpmhncefaa", sum := "e3f8a11c899973f67e651750bdff2144618f575f86f223621a7d6e47138e04b8", func := "loop.example/g03302/laws.FnExactIsWon", spec := "fnExactIsWon", apart := false, narrowed := true }
def FnExactIsWonUptoSaid : Prop := fnExactIsWonUptoRow.holds Try.pinned (OpenSpec.upto fnExactIsWonSpec)

/-- 'laws.FnExactMakeJump', WHERE WHAT IT READS IS OF BULK AT MOST 1048576: true; the input reads as it did. -/
def fnExactMakeJumpUptoRow : OpenClaim := { program := "ytengcnpmhncefaa", sum := "e3f8a11c899973f67e651750bdff2144618f575f86f223621a7d6e47138e04b8", func := "loop.example/g03302/laws.FnExactMakeJump", spec := "fnExactMakeJump", apart := false, narrowed := true }
def FnExactMakeJumpUptoSaid : Prop := fnExactMakeJumpUptoRow.holds Try.pinned (OpenSpec.upto fnExactMakeJumpSpec)

/-- 'laws.FnExactTakeBack', WHERE WHAT IT READS IS OF BULK AT MOST 1048576: true; the input reads as it did. -/
def fnExactTakeBackUptoRow : OpenClaim := { program := "ytengcnpmhncefaa", sum := "e3f8a11c899973f67e651750bdff2144618f575f86f223621a7d6e47138e04b8", func := "loop.example/g03302/laws.FnExactTakeBack", spec := "fnExactTakeBack", apart := false, narrowed := true }
def FnExactTakeBackUptoSaid : Prop := fnExactTakeBackUptoRow.holds Try.pinned (OpenSpec.upto fnExactTakeBackSpec)

/-- 'laws.FnHoles', WHERE WHAT IT READS IS OF BULK AT MOST 1048576: true; the input reads as it did. -/
def fnHolesUptoRow : OpenClaim := { program := "ytengcnpmhncefaa", sum := "e3f8a11c899973f67e651750bdff2144618f575f86f223621a7d6e47138e04b8", func := "loop.example/g03302/laws.FnHoles", spec := "fnHoles", apart := false, narrowed := true }
def FnHolesUptoSaid : Prop := fnHolesUptoRow.holds Try.pinned (OpenSpec.upto fnHolesSpec)

/-- 'laws.FnExactTableOk', WHERE WHAT IT READS IS OF BULK AT MOST 1048576: true; the input reads as it did. -/
def fnExactTableOkUptoRow : OpenClaim := { program := "ytengcnpmhncefaa", sum := "e3f8a11c899973f67e651750bdff2144618f575f86f223621a7d6e47138e04b8", func := "loop.example/g03302/laws.FnExactTableOk", spec := "fnExactTableOk", apart := false, narrowed := true }
def FnExactTableOkUptoSaid : Prop := fnExactTableOkUptoRow.holds Try.pinned (OpenSpec.upto fnExactTableOkSpec)

/-- 'laws.FnExactOpenTable', WHERE WHAT IT READS IS OF BULK AT MOST 1048576: true; the input reads as it did. -/
def fnExactOpenTableUptoRow : OpenClaim := { program := "ytengcnpmhncefaa", sum := "e3f8a11c899973f67e651750bdff2144618f575f86f223621a7d6e47138e04b8", func := "loop.example/g03302/laws.FnExactOpenTable", spec := "fnExactOpenTable", apart := false, narrowed := true }
def FnExactOpenTableUptoSaid : Prop := fnExactOpenTableUptoRow.holds Try.pinned (OpenSpec.upto fnExactOpenTableSpec)

/-- 'laws.FnExactSampleTable', WHERE WHAT IT READS IS OF BULK AT MOST 1048576: true; the input reads as it did. -/
def fnExactSampleTableUptoRow : OpenClaim := { program := "ytengcnpmhncefaa", sum := "e3f8a11c899973f67e651750bdff2144618f575f86f223621a7d6e47138e04b8", func := "loop.example/g03302/laws.FnExactSampleTable", spec := "fnExactSampleTable", apart := false, narrowed := true }
def FnExactSampleTableUptoSaid : Prop := fnExactSampleTableUptoRow.holds Try.pinned (OpenSpec.upto fnExactSampleTableSpec)

/-- 'laws.FnJournals', WHERE WHAT IT READS IS OF BULK AT MOST 1048576: true; the input reads as it did. -/
def fnJournalsUptoRow : OpenClaim := { program := "ytengcnpmhncefaa", sum := "e3f8a11c899973f67e651750bdff2144618f575f86f223621a7d6e47138e04b8", func := "loop.example/g03302/laws.FnJournals", spec := "fnJournals", apart := false, narrowed := true }
def FnJournalsUptoSaid : Prop := fnJournalsUptoRow.holds Try.pinned (OpenSpec.upto fnJournalsSpec)

/-- 'laws.FnExactAuditTable', WHERE WHAT IT READS IS OF BULK AT MOST 1048576: true; the input reads as it did. -/
def fnExactAuditTableUptoRow : OpenClaim := { program := "ytengcnpmhncefaa", sum := "e3f8a11c899973f67e651750bdff2144618f575f86f223621a7d6e47138e04b8", func := "loop.example/g03302/laws.FnExactAuditTable", spec := "fnExactAuditTable", apart := false, narrowed := true }
def FnExactAuditTableUptoSaid : Prop := fnExactAuditTableUptoRow.holds Try.pinned (OpenSpec.upto fnExactAuditTableSpec)

/-- 'laws.FnExactUseHint', WHERE WHAT IT READS IS OF BULK AT MOST 1048576: true; the input reads as it did. -/
def fnExactUseHintUptoRow : OpenClaim := { program := "ytengcnpmhncefaa", sum := "e3f8a11c899973f67e651750bdff2144618f575f86f223621a7d6e47138e04b8", func := "loop.example/g03302/laws.FnExactUseHint", spec := "fnExactUseHint", apart := false, narrowed := true }
def FnExactUseHintUptoSaid : Prop := fnExactUseHintUptoRow.holds Try.pinned (OpenSpec.upto fnExactUseHintSpec)

end Rows
end Go.Proofs.Ytengcnpmhncefaa
