/-
  No cell of these rows narrows 'for every input' (looked for: loops, veiled, ifaces, maps, wideKeys, modest, calm, conditions, laid).
  DERIVED. THE GIVEN ROWS OF THIS SEAT. 11 by the template 'for every input the law returns true; each argument reads behind the call as it read before'; 0 by the template 'total and deterministic' (their statements: YtmckpdackhlgbaaTotals.lean).
  GIVEN WITH THE SEED: the statements are not yours to turn. If you find one false, say at which input.
  Laid BY PROGRAM, IN A SANDBOX (cutbox-rows.mjs): the forced cells as the released guide's own fill.sh prints them over the translation 2af50d97206b4c08… (all of the seat's roots in one cut). By AI agents, Wed Nov 11 2026. No macro, syntax, notation, axiom, sorry.
-/
import Derived.Test.YtmckpdackhlgbaaChecked
import GoSem.Claim
import GoSem.ClaimJoined
import GoSem.ClaimMapViews
import Derived.JoinedTies
import Derived.KernelRfl
namespace Go.Proofs.Ytmckpdackhlgbaa
/- THE CELL 'sum', in the pinned program and in every row, IS THE sha256 OF THE DUMP (.gsa) THAT YtmckpdackhlgbaaProg.lean LOADS. Nothing in Lean hashes anything: it is a label: what it is worth is what the hold of that sum in a sandbox is worth. -/
noncomputable def Try.pinned : Pinned := { name := "ytmckpdackhlgbaa", sum := "2af50d97206b4c08b66e2253e5376e5ee9f1c15cda3b2e4b0c993e8b168e44bd", checked := Try.checked }
namespace Rows
def none {H : Type} : Left H := { results := [], args := [] }

/-- 'laws.FnExactLoneHoles': WHATEVER THE INPUT: true; the input reads as it did. -/
def fnExactLoneHolesSpec : ChangeSpec := { name := "fnExactLoneHoles", fn := fun _ => fun
  | [d] => { results := [.lit (.bool true)], args := [d] }
  | _ => none }
def fnExactLoneHolesRow : OpenClaim := { program := "ytmckpdackhlgbaa", sum := "2af50d97206b4c08b66e2253e5376e5ee9f1c15cda3b2e4b0c993e8b168e44bd", func := "loop.example/g03302/laws.FnExactLoneHoles", spec := "fnExactLoneHoles", plainKeys := false, apart := false }
def FnExactLoneHolesSaid : Prop := fnExactLoneHolesRow.holds Try.pinned (OpenSpec.ofChange fnExactLoneHolesSpec)

/-- ITS FALSE NEIGHBOUR: 'it returns false'. Refute it at one input. -/
def fnExactLoneHolesWrong : ChangeSpec := { name := "fnExactLoneHoles", fn := fun _ => fun
  | [d] => { results := [.lit (.bool false)], args := [d] }
  | _ => none }
def FnExactLoneHolesWrongFalsely : Prop := fnExactLoneHolesRow.holds Try.pinned (OpenSpec.ofChange fnExactLoneHolesWrong)

/-- 'laws.FnSweeps': WHATEVER THE INPUT: true; the input reads as it did. -/
def fnSweepsSpec : ChangeSpec := { name := "fnSweeps", fn := fun _ => fun
  | [d] => { results := [.lit (.bool true)], args := [d] }
  | _ => none }
def fnSweepsRow : OpenClaim := { program := "ytmckpdackhlgbaa", sum := "2af50d97206b4c08b66e2253e5376e5ee9f1c15cda3b2e4b0c993e8b168e44bd", func := "loop.example/g03302/laws.FnSweeps", spec := "fnSweeps", recurses := true, plainKeys := false, apart := false }
def FnSweepsSaid : Prop := fnSweepsRow.holds Try.pinned (OpenSpec.ofChange fnSweepsSpec)

/-- ITS FALSE NEIGHBOUR: 'it returns false'. Refute it at one input. -/
def fnSweepsWrong : ChangeSpec := { name := "fnSweeps", fn := fun _ => fun
  | [d] => { results := [.lit (.bool false)], args := [d] }
  | _ => none }
def FnSweepsWrongFalsely : Prop := fnSweepsRow.holds Try.pinned (OpenSpec.ofChange fnSweepsWrong)

/-- 'laws.FnExactMergeRecords': WHATEVER THE INPUT: true; the input reads as it did. -/
def fnExactMergeRecordsSpec : ChangeSpec := { name := "fnExactMergeRecords", fn := fun _ => fun
  | [d1, d2] => { results := [.lit (.bool true)], args := [d1, d2] }
  | _ => none }
def fnExactMergeRecordsRow : OpenClaim := { program := "ytmckpdackhlgbaa", sum := "2af50d97206b4c08b66e2253e5376e5ee9f1c15cda3b2e4b0c993e8b168e44bd", func := "loop.example/g03302/laws.FnExactMergeRecords", spec := "fnExactMergeRecords", plainKeys := false, apart := false }
def FnExactMergeRecordsSaid : Prop := fnExactMergeRecordsRow.holds Try.pinned (OpenSpec.ofChange fnExactMergeRecordsSpec)

/-- ITS FALSE NEIGHBOUR: 'it returns false'. Refute it at one input. -/
def fnExactMergeRecordsWrong : ChangeSpec := { name := "fnExactMergeRecords", fn := fun _ => fun
  | [d1, d2] => { results := [.lit (.bool false)], args := [d1, d2] }
  | _ => none }
def FnExactMergeRecordsWrongFalsely : Prop := fnExactMergeRecordsRow.holds Try.pinned (OpenSpec.ofChange fnExactMergeRecordsWrong)

/-- 'laws.FnExactIsTight': WHATEVER THE INPUT: true; the input reads as it did. -/
def fnExactIsTightSpec : ChangeSpec := { name := "fnExactIsTight", fn := fun _ => fun
  | [d1, d2, d3] => { results := [.lit (.bool true)], args := [d1, d2, d3] }
  | _ => none }
def fnExactIsTightRow : OpenClaim := { program := "ytmckpdackhlgbaa", sum := "2af50d97206b4c08b66e2253e5376e5ee9f1c15cda3b2e4b0c993e8b168e44bd", func := "loop.example/g03302/laws.FnExactIsTight", spec := "fnExactIsTight", plainKeys := false, apart := false }
def FnExactIsTightSaid : Prop := fnExactIsTightRow.holds Try.pinned (OpenSpec.ofChange fnExactIsTightSpec)

/-- ITS FALSE NEIGHBOUR: 'it returns false'. Refute it at one input. -/
def fnExactIsTightWrong : ChangeSpec := { name := "fnExactIsTight", fn := fun _ => fun
  | [d1, d2, d3] => { results := [.lit (.bool false)], args := [d1, d2, d3] }
  | _ => none }
def FnExactIsTightWrongFalsely : Prop := fnExactIsTightRow.holds Try.pinned (OpenSpec.ofChange fnExactIsTightWrong)

/-- 'laws.FnExactCornersOf': WHATEVER THE INPUT: true; the input reads as it did. -/
def fnExactCornersOfSpec : ChangeSpec := { name := "fnExactCornersOf", fn := fun _ => fun
  | [d] => { results := [.lit (.bool true)], args := [d] }
  | _ => none }
def fnExactCornersOfRow : OpenClaim := { program := "ytmckpdackhlgbaa", sum := "2af50d97206b4c08b66e2253e5376e5ee9f1c15cda3b2e4b0c993e8b168e44bd", func := "loop.example/g03302/laws.FnExactCornersOf", spec := "fnExactCornersOf", plainKeys := false, apart := false }
def FnExactCornersOfSaid : Prop := fnExactCornersOfRow.holds Try.pinned (OpenSpec.ofChange fnExactCornersOfSpec)

/-- ITS FALSE NEIGHBOUR: 'it returns false'. Refute it at one input. -/
def fnExactCornersOfWrong : ChangeSpec := { name := "fnExactCornersOf", fn := fun _ => fun
  | [d] => { results := [.lit (.bool false)], args := [d] }
  | _ => none }
def FnExactCornersOfWrongFalsely : Prop := fnExactCornersOfRow.holds Try.pinned (OpenSpec.ofChange fnExactCornersOfWrong)

/-- 'laws.FnExactCornerBound': WHATEVER THE INPUT: true; the input reads as it did. -/
def fnExactCornerBoundSpec : ChangeSpec := { name := "fnExactCornerBound", fn := fun _ => fun
  | [d1, d2, d3] => { results := [.lit (.bool true)], args := [d1, d2, d3] }
  | _ => none }
def fnExactCornerBoundRow : OpenClaim := { program := "ytmckpdackhlgbaa", sum := "2af50d97206b4c08b66e2253e5376e5ee9f1c15cda3b2e4b0c993e8b168e44bd", func := "loop.example/g03302/laws.FnExactCornerBound", spec := "fnExactCornerBound", plainKeys := false, apart := false }
def FnExactCornerBoundSaid : Prop := fnExactCornerBoundRow.holds Try.pinned (OpenSpec.ofChange fnExactCornerBoundSpec)

/-- ITS FALSE NEIGHBOUR: 'it returns false'. Refute it at one input. -/
def fnExactCornerBoundWrong : ChangeSpec := { name := "fnExactCornerBound", fn := fun _ => fun
  | [d1, d2, d3] => { results := [.lit (.bool false)], args := [d1, d2, d3] }
  | _ => none }
def FnExactCornerBoundWrongFalsely : Prop := fnExactCornerBoundRow.holds Try.pinned (OpenSpec.ofChange fnExactCornerBoundWrong)

/-- 'laws.FnExactTighten': WHATEVER THE INPUT: true; the input reads as it did. -/
def fnExactTightenSpec : ChangeSpec := { name := "fnExactTighten", fn := fun _ => fun
  | [d1, d2, d3] => { results := [.lit (.bool true)], args := [d1, d2, d3] }
  | _ => none }
def fnExactTightenRow : OpenClaim := { program := "ytmckpdackhlgbaa", sum := "2af50d97206b4c08b66e2253e5376e5ee9f1c15cda3b2e4b0c993e8b168e44bd", func := "loop.example/g03302/laws.FnExactTighten", spec := "fnExactTighten", plainKeys := false, apart := false }
def FnExactTightenSaid : Prop := fnExactTightenRow.holds Try.pinned (OpenSpec.ofChange fnExactTightenSpec)

/-- ITS FALSE NEIGHBOUR: 'it returns false'. Refute it at one input. -/
def fnExactTightenWrong : ChangeSpec := { name := "fnExactTighten", fn := fun _ => fun
  | [d1, d2, d3] => { results := [.lit (.bool false)], args := [d1, d2, d3] }
  | _ => none }
def FnExactTightenWrongFalsely : Prop := fnExactTightenRow.holds Try.pinned (OpenSpec.ofChange fnExactTightenWrong)

/-- 'laws.FnExactLeastStart': WHATEVER THE INPUT: true; the input reads as it did. -/
def fnExactLeastStartSpec : ChangeSpec := { name := "fnExactLeastStart", fn := fun _ => fun
  | [d1, d2] => { results := [.lit (.bool true)], args := [d1, d2] }
  | _ => none }
def fnExactLeastStartRow : OpenClaim := { program := "ytmckpdackhlgbaa", sum := "2af50d97206b4c08b66e2253e5376e5ee9f1c15cda3b2e4b0c993e8b168e44bd", func := "loop.example/g03302/laws.FnExactLeastStart", spec := "fnExactLeastStart", plainKeys := false, apart := false }
def FnExactLeastStartSaid : Prop := fnExactLeastStartRow.holds Try.pinned (OpenSpec.ofChange fnExactLeastStartSpec)

/-- ITS FALSE NEIGHBOUR: 'it returns false'. Refute it at one input. -/
def fnExactLeastStartWrong : ChangeSpec := { name := "fnExactLeastStart", fn := fun _ => fun
  | [d1, d2] => { results := [.lit (.bool false)], args := [d1, d2] }
  | _ => none }
def FnExactLeastStartWrongFalsely : Prop := fnExactLeastStartRow.holds Try.pinned (OpenSpec.ofChange fnExactLeastStartWrong)

/-- 'laws.FnExactCountTight': WHATEVER THE INPUT: true; the input reads as it did. -/
def fnExactCountTightSpec : ChangeSpec := { name := "fnExactCountTight", fn := fun _ => fun
  | [d1, d2] => { results := [.lit (.bool true)], args := [d1, d2] }
  | _ => none }
def fnExactCountTightRow : OpenClaim := { program := "ytmckpdackhlgbaa", sum := "2af50d97206b4c08b66e2253e5376e5ee9f1c15cda3b2e4b0c993e8b168e44bd", func := "loop.example/g03302/laws.FnExactCountTight", spec := "fnExactCountTight", plainKeys := false, apart := false }
def FnExactCountTightSaid : Prop := fnExactCountTightRow.holds Try.pinned (OpenSpec.ofChange fnExactCountTightSpec)

/-- ITS FALSE NEIGHBOUR: 'it returns false'. Refute it at one input. -/
def fnExactCountTightWrong : ChangeSpec := { name := "fnExactCountTight", fn := fun _ => fun
  | [d1, d2] => { results := [.lit (.bool false)], args := [d1, d2] }
  | _ => none }
def FnExactCountTightWrongFalsely : Prop := fnExactCountTightRow.holds Try.pinned (OpenSpec.ofChange fnExactCountTightWrong)

/-- 'laws.FnExactGameOk': WHATEVER THE INPUT: true; the input reads as it did. -/
def fnExactGameOkSpec : ChangeSpec := { name := "fnExactGameOk", fn := fun _ => fun
  | [d] => { results := [.lit (.bool true)], args := [d] }
  | _ => none }
def fnExactGameOkRow : OpenClaim := { program := "ytmckpdackhlgbaa", sum := "2af50d97206b4c08b66e2253e5376e5ee9f1c15cda3b2e4b0c993e8b168e44bd", func := "loop.example/g03302/laws.FnExactGameOk", spec := "fnExactGameOk", plainKeys := false, apart := false }
def FnExactGameOkSaid : Prop := fnExactGameOkRow.holds Try.pinned (OpenSpec.ofChange fnExactGameOkSpec)

/-- ITS FALSE NEIGHBOUR: 'it returns false'. Refute it at one input. -/
def fnExactGameOkWrong : ChangeSpec := { name := "fnExactGameOk", fn := fun _ => fun
  | [d] => { results := [.lit (.bool false)], args := [d] }
  | _ => none }
def FnExactGameOkWrongFalsely : Prop := fnExactGameOkRow.holds Try.pinned (OpenSpec.ofChange fnExactGameOkWrong)

/-- 'laws.FnExactNowOf': WHATEVER THE INPUT: true; the input reads as it did. -/
def fnExactNowOfSpec : ChangeSpec := { name := "fnExactNowOf", fn := fun _ => fun
  | [d] => { results := [.lit (.bool true)], args := [d] }
  | _ => none }
def fnExactNowOfRow : OpenClaim := { program := "ytmckpdackhlgbaa", sum := "2af50d97206b4c08b66e2253e5376e5ee9f1c15cda3b2e4b0c993e8b168e44bd", func := "loop.example/g03302/laws.FnExactNowOf", spec := "fnExactNowOf", plainKeys := false, apart := false }
def FnExactNowOfSaid : Prop := fnExactNowOfRow.holds Try.pinned (OpenSpec.ofChange fnExactNowOfSpec)

/-- ITS FALSE NEIGHBOUR: 'it returns false'. Refute it at one input. -/
def fnExactNowOfWrong : ChangeSpec := { name := "fnExactNowOf", fn := fun _ => fun
  | [d] => { results := [.lit (.bool false)], args := [d] }
  | _ => none }
def FnExactNowOfWrongFalsely : Prop := fnExactNowOfRow.holds Try.pinned (OpenSpec.ofChange fnExactNowOfWrong)

/- THE SECOND FORM. 'bulk': how many values and letters a reading holds, each counted each time it is reached (what is shared counts as often as it is met; a slice's spare places count too). A statement '..UptoSaid' is the law's where the arguments, and the package variables that the reading takes, are together of bulk at most 1048576: NARROWER than '..Said'. Prove '..Said' where nothing that the law and all that it calls make is longer than what came in: it says more and counts as full. Else prove '..UptoSaid'. A law counts once. -/
mutual
def uptoBulk {H : Type} : DataW H → Nat
  | .lit (.string bytes) => bytes.length + 1
  | .lit _ => 1
  | .nil => 1
  | .ptr d => uptoBulk d + 1
  | .slice elems spare => uptoBulkAll elems + uptoBulkAll spare + 1
  | .agg parts => uptoBulkAll parts + 1
  | .iface _ d => uptoBulk d + 1
  | .map entries => uptoBulkEntries entries + 1
  | .held _ => 1
def uptoBulkAll {H : Type} : List (DataW H) → Nat
  | [] => 0
  | d :: r => uptoBulk d + uptoBulkAll r
def uptoBulkEntries {H : Type} : List (Lit × DataW H) → Nat
  | [] => 0
  | x :: r => uptoBulkEntry x + uptoBulkEntries r
def uptoBulkEntry {H : Type} : Lit × DataW H → Nat
  | (.string bytes, d) => bytes.length + uptoBulk d + 1
  | (_, d) => uptoBulk d + 1
 end
def uptoSmall : (H : Type) → List (DataW H) → Bool := fun _ ds => decide (uptoBulkAll ds ≤ 1048576)
def OpenSpec.upto (s : _root_.Go.ChangeSpec) : _root_.Go.OpenSpec := { _root_.Go.OpenSpec.ofChange s with cond := some uptoSmall }

/-- 'laws.FnExactLoneHoles', WHERE WHAT IT READS IS OF BULK AT MOST 1048576: true; the input reads as it did. -/
def fnExactLoneHolesUptoRow : OpenClaim := { program := "ytmckpdackhlgbaa", sum := "2af50d97206b4c08b66e2253e5376e5ee9f1c15cda3b2e4b0c993e8b168e44bd", func := "loop.example/g03302/laws.FnExactLoneHoles", spec := "fnExactLoneHoles", plainKeys := false, apart := false, narrowed := true }
def FnExactLoneHolesUptoSaid : Prop := fnExactLoneHolesUptoRow.holds Try.pinned (OpenSpec.upto fnExactLoneHolesSpec)

/-- 'laws.FnSweeps', WHERE WHAT IT READS IS OF BULK AT MOST 1048576: true; the input reads as it did. -/
def fnSweepsUptoRow : OpenClaim := { program := "ytmckpdackhlgbaa", sum := "2af50d97206b4c08b66e2253e5376e5ee9f1c15cda3b2e4b0c993e8b168e44bd", func := "loop.example/g03302/laws.FnSweeps", spec := "fnSweeps", recurses := true, plainKeys := false, apart := false, narrowed := true }
def FnSweepsUptoSaid : Prop := fnSweepsUptoRow.holds Try.pinned (OpenSpec.upto fnSweepsSpec)

/-- 'laws.FnExactMergeRecords', WHERE WHAT IT READS IS OF BULK AT MOST 1048576: true; the input reads as it did. -/
def fnExactMergeRecordsUptoRow : OpenClaim := { program := "ytmckpdackhlgbaa", sum := "2af50d97206b4c08b66e2253e5376e5ee9f1c15cda3b2e4b0c993e8b168e44bd", func := "loop.example/g03302/laws.FnExactMergeRecords", spec := "fnExactMergeRecords", plainKeys := false, apart := false, narrowed := true }
def FnExactMergeRecordsUptoSaid : Prop := fnExactMergeRecordsUptoRow.holds Try.pinned (OpenSpec.upto fnExactMergeRecordsSpec)

/-- 'laws.FnExactIsTight', WHERE WHAT IT READS IS OF BULK AT MOST 1048576: true; the input reads as it did. -/
def fnExactIsTightUptoRow : OpenClaim := { program := "ytmckpdackhlgbaa", sum := "2af50d97206b4c08b66e2253e5376e5ee9f1c15cda3b2e4b0c993e8b168e44bd", func := "loop.example/g03302/laws.FnExactIsTight", spec := "fnExactIsTight", plainKeys := false, apart := false, narrowed := true }
def FnExactIsTightUptoSaid : Prop := fnExactIsTightUptoRow.holds Try.pinned (OpenSpec.upto fnExactIsTightSpec)

/-- 'laws.FnExactCornersOf', WHERE WHAT IT READS IS OF BULK AT MOST 1048576: true; the input reads as it did. -/
def fnExactCornersOfUptoRow : OpenClaim := { program := "ytmckpdackhlgbaa", sum := "2af50d97206b4c08b66e2253e5376e5ee9f1c15cda3b2e4b0c993e8b168e44bd", func := "loop.example/g03302/laws.FnExactCornersOf", spec := "fnExactCornersOf", plainKeys := false, apart := false, narrowed := true }
def FnExactCornersOfUptoSaid : Prop := fnExactCornersOfUptoRow.holds Try.pinned (OpenSpec.upto fnExactCornersOfSpec)

/-- 'laws.FnExactCornerBound', WHERE WHAT IT READS IS OF BULK AT MOST 1048576: true; the input reads as it did. -/
def fnExactCornerBoundUptoRow : OpenClaim := { program := "ytmckpdackhlgbaa", sum := "2af50d97206b4c08b66e2253e5376e5ee9f1c15cda3b2e4b0c993e8b168e44bd", func := "loop.example/g03302/laws.FnExactCornerBound", spec := "fnExactCornerBound", plainKeys := false, apart := false, narrowed := true }
def FnExactCornerBoundUptoSaid : Prop := fnExactCornerBoundUptoRow.holds Try.pinned (OpenSpec.upto fnExactCornerBoundSpec)

/-- 'laws.FnExactTighten', WHERE WHAT IT READS IS OF BULK AT MOST 1048576: true; the input reads as it did. -/
def fnExactTightenUptoRow : OpenClaim := { program := "ytmckpdackhlgbaa", sum := "2af50d97206b4c08b66e2253e5376e5ee9f1c15cda3b2e4b0c993e8b168e44bd", func := "loop.example/g03302/laws.FnExactTighten", spec := "fnExactTighten", plainKeys := false, apart := false, narrowed := true }
def FnExactTightenUptoSaid : Prop := fnExactTightenUptoRow.holds Try.pinned (OpenSpec.upto fnExactTightenSpec)

/-- 'laws.FnExactLeastStart', WHERE WHAT IT READS IS OF BULK AT MOST 1048576: true; the input reads as it did. -/
def fnExactLeastStartUptoRow : OpenClaim := { program := "ytmckpdackhlgbaa", sum := "2af50d97206b4c08b66e2253e5376e5ee9f1c15cda3b2e4b0c993e8b168e44bd", func := "loop.example/g03302/laws.FnExactLeastStart", spec := "fnExactLeastStart", plainKeys := false, apart := false, narrowed := true }
def FnExactLeastStartUptoSaid : Prop := fnExactLeastStartUptoRow.holds Try.pinned (OpenSpec.upto fnExactLeastStartSpec)

/-- 'laws.FnExactCountTight', WHERE WHAT IT READS IS OF BULK AT MOST 1048576: true; the input reads as it did. -/
def fnExactCountTightUptoRow : OpenClaim := { program := "ytmckpdackhlgbaa", sum := "2af50d97206b4c08b66e2253e5376e5ee9f1c15cda3b2e4b0c993e8b168e44bd", func := "loop.example/g03302/laws.FnExactCountTight", spec := "fnExactCountTight", plainKeys := false, apart := false, narrowed := true }
def FnExactCountTightUptoSaid : Prop := fnExactCountTightUptoRow.holds Try.pinned (OpenSpec.upto fnExactCountTightSpec)

/-- 'laws.FnExactGameOk', WHERE WHAT IT READS IS OF BULK AT MOST 1048576: true; the input reads as it did. -/
def fnExactGameOkUptoRow : OpenClaim := { program := "ytmckpdackhlgbaa", sum := "2af50d97206b4c08b66e2253e5376e5ee9f1c15cda3b2e4b0c993e8b168e44bd", func := "loop.example/g03302/laws.FnExactGameOk", spec := "fnExactGameOk", plainKeys := false, apart := false, narrowed := true }
def FnExactGameOkUptoSaid : Prop := fnExactGameOkUptoRow.holds Try.pinned (OpenSpec.upto fnExactGameOkSpec)

/-- 'laws.FnExactNowOf', WHERE WHAT IT READS IS OF BULK AT MOST 1048576: true; the input reads as it did. -/
def fnExactNowOfUptoRow : OpenClaim := { program := "ytmckpdackhlgbaa", sum := "2af50d97206b4c08b66e2253e5376e5ee9f1c15cda3b2e4b0c993e8b168e44bd", func := "loop.example/g03302/laws.FnExactNowOf", spec := "fnExactNowOf", plainKeys := false, apart := false, narrowed := true }
def FnExactNowOfUptoSaid : Prop := fnExactNowOfUptoRow.holds Try.pinned (OpenSpec.upto fnExactNowOfSpec)

end Rows
end Go.Proofs.Ytmckpdackhlgbaa
