/-
  No cell of these rows narrows 'for every input' (looked for: loops, veiled, ifaces, maps, wideKeys, modest, calm, conditions, laid).
  DERIVED. THE GIVEN ROWS OF THIS SEAT. 12 by the template 'for every input the law returns true; each argument reads behind the call as it read before'; 0 by the template 'total and deterministic' (their statements: YtdagoiedlaaimaaTotals.lean).
  GIVEN WITH THE SEED: the statements are not yours to turn. If you find one false, say at which input.
  Laid BY PROGRAM, IN A SANDBOX (cutbox-rows.mjs): the forced cells as the released guide's own fill.sh prints them over the translation 7f6b8e2a812041cc… (all of the seat's roots in one cut). By AI agents, Wed Nov 11 2026. No macro, syntax, notation, axiom, sorry.
-/
import Derived.Test.YtdagoiedlaaimaaChecked
import GoSem.Claim
import GoSem.ClaimJoined
import GoSem.ClaimMapViews
import Derived.JoinedTies
import Derived.KernelRfl
namespace Go.Proofs.Ytdagoiedlaaimaa
/- THE CELL 'sum', in the pinned program and in every row, IS THE sha256 OF THE DUMP (.gsa) THAT YtdagoiedlaaimaaProg.lean LOADS. Nothing in Lean hashes anything: it is a label: what it is worth is what the hold of that sum in a sandbox is worth. -/
noncomputable def Try.pinned : Pinned := { name := "ytdagoiedlaaimaa", sum := "7f6b8e2a812041cc1247bd139658f9e1ca5e214c77c3c0d9cabe78b38f8d28cd", checked := Try.checked }
namespace Rows
def none {H : Type} : Left H := { results := [], args := [] }

/-- 'laws.FnExactActOk': WHATEVER THE INPUT: true; the input reads as it did. -/
def fnExactActOkSpec : ChangeSpec := { name := "fnExactActOk", fn := fun _ => fun
  | [d] => { results := [.lit (.bool true)], args := [d] }
  | _ => none }
def fnExactActOkRow : OpenClaim := { program := "ytdagoiedlaaimaa", sum := "7f6b8e2a812041cc1247bd139658f9e1ca5e214c77c3c0d9cabe78b38f8d28cd", func := "loop.example/g03302/laws.FnExactActOk", spec := "fnExactActOk", apart := false }
def FnExactActOkSaid : Prop := fnExactActOkRow.holds Try.pinned (OpenSpec.ofChange fnExactActOkSpec)

/-- ITS FALSE NEIGHBOUR: 'it returns false'. Refute it at one input. -/
def fnExactActOkWrong : ChangeSpec := { name := "fnExactActOk", fn := fun _ => fun
  | [d] => { results := [.lit (.bool false)], args := [d] }
  | _ => none }
def FnExactActOkWrongFalsely : Prop := fnExactActOkRow.holds Try.pinned (OpenSpec.ofChange fnExactActOkWrong)

/-- 'laws.FnExactRecordsOk': WHATEVER THE INPUT: true; the input reads as it did. -/
def fnExactRecordsOkSpec : ChangeSpec := { name := "fnExactRecordsOk", fn := fun _ => fun
  | [d] => { results := [.lit (.bool true)], args := [d] }
  | _ => none }
def fnExactRecordsOkRow : OpenClaim := { program := "ytdagoiedlaaimaa", sum := "7f6b8e2a812041cc1247bd139658f9e1ca5e214c77c3c0d9cabe78b38f8d28cd", func := "loop.example/g03302/laws.FnExactRecordsOk", spec := "fnExactRecordsOk", apart := false }
def FnExactRecordsOkSaid : Prop := fnExactRecordsOkRow.holds Try.pinned (OpenSpec.ofChange fnExactRecordsOkSpec)

/-- ITS FALSE NEIGHBOUR: 'it returns false'. Refute it at one input. -/
def fnExactRecordsOkWrong : ChangeSpec := { name := "fnExactRecordsOk", fn := fun _ => fun
  | [d] => { results := [.lit (.bool false)], args := [d] }
  | _ => none }
def FnExactRecordsOkWrongFalsely : Prop := fnExactRecordsOkRow.holds Try.pinned (OpenSpec.ofChange fnExactRecordsOkWrong)

/-- 'laws.FnExactRecordOf': WHATEVER THE INPUT: true; the input reads as it did. -/
def fnExactRecordOfSpec : ChangeSpec := { name := "fnExactRecordOf", fn := fun _ => fun
  | [d1, d2] => { results := [.lit (.bool true)], args := [d1, d2] }
  | _ => none }
def fnExactRecordOfRow : OpenClaim := { program := "ytdagoiedlaaimaa", sum := "7f6b8e2a812041cc1247bd139658f9e1ca5e214c77c3c0d9cabe78b38f8d28cd", func := "loop.example/g03302/laws.FnExactRecordOf", spec := "fnExactRecordOf", apart := false }
def FnExactRecordOfSaid : Prop := fnExactRecordOfRow.holds Try.pinned (OpenSpec.ofChange fnExactRecordOfSpec)

/-- ITS FALSE NEIGHBOUR: 'it returns false'. Refute it at one input. -/
def fnExactRecordOfWrong : ChangeSpec := { name := "fnExactRecordOf", fn := fun _ => fun
  | [d1, d2] => { results := [.lit (.bool false)], args := [d1, d2] }
  | _ => none }
def FnExactRecordOfWrongFalsely : Prop := fnExactRecordOfRow.holds Try.pinned (OpenSpec.ofChange fnExactRecordOfWrong)

/-- 'laws.FnExactCountRecords': WHATEVER THE INPUT: true; the input reads as it did. -/
def fnExactCountRecordsSpec : ChangeSpec := { name := "fnExactCountRecords", fn := fun _ => fun
  | [d1, d2] => { results := [.lit (.bool true)], args := [d1, d2] }
  | _ => none }
def fnExactCountRecordsRow : OpenClaim := { program := "ytdagoiedlaaimaa", sum := "7f6b8e2a812041cc1247bd139658f9e1ca5e214c77c3c0d9cabe78b38f8d28cd", func := "loop.example/g03302/laws.FnExactCountRecords", spec := "fnExactCountRecords", apart := false }
def FnExactCountRecordsSaid : Prop := fnExactCountRecordsRow.holds Try.pinned (OpenSpec.ofChange fnExactCountRecordsSpec)

/-- ITS FALSE NEIGHBOUR: 'it returns false'. Refute it at one input. -/
def fnExactCountRecordsWrong : ChangeSpec := { name := "fnExactCountRecords", fn := fun _ => fun
  | [d1, d2] => { results := [.lit (.bool false)], args := [d1, d2] }
  | _ => none }
def FnExactCountRecordsWrongFalsely : Prop := fnExactCountRecordsRow.holds Try.pinned (OpenSpec.ofChange fnExactCountRecordsWrong)

/-- 'laws.FnRecords': WHATEVER THE INPUT: true; the input reads as it did. -/
def fnRecordsSpec : ChangeSpec := { name := "fnRecords", fn := fun _ => fun
  | [d] => { results := [.lit (.bool true)], args := [d] }
  | _ => none }
def fnRecordsRow : OpenClaim := { program := "ytdagoiedlaaimaa", sum := "7f6b8e2a812041cc1247bd139658f9e1ca5e214c77c3c0d9cabe78b38f8d28cd", func := "loop.example/g03302/laws.FnRecords", spec := "fnRecords", apart := false }
def FnRecordsSaid : Prop := fnRecordsRow.holds Try.pinned (OpenSpec.ofChange fnRecordsSpec)

/-- ITS FALSE NEIGHBOUR: 'it returns false'. Refute it at one input. -/
def fnRecordsWrong : ChangeSpec := { name := "fnRecords", fn := fun _ => fun
  | [d] => { results := [.lit (.bool false)], args := [d] }
  | _ => none }
def FnRecordsWrongFalsely : Prop := fnRecordsRow.holds Try.pinned (OpenSpec.ofChange fnRecordsWrong)

/-- 'laws.FnExactDegreeOf': WHATEVER THE INPUT: true; the input reads as it did. -/
def fnExactDegreeOfSpec : ChangeSpec := { name := "fnExactDegreeOf", fn := fun _ => fun
  | [d1, d2] => { results := [.lit (.bool true)], args := [d1, d2] }
  | _ => none }
def fnExactDegreeOfRow : OpenClaim := { program := "ytdagoiedlaaimaa", sum := "7f6b8e2a812041cc1247bd139658f9e1ca5e214c77c3c0d9cabe78b38f8d28cd", func := "loop.example/g03302/laws.FnExactDegreeOf", spec := "fnExactDegreeOf", apart := false }
def FnExactDegreeOfSaid : Prop := fnExactDegreeOfRow.holds Try.pinned (OpenSpec.ofChange fnExactDegreeOfSpec)

/-- ITS FALSE NEIGHBOUR: 'it returns false'. Refute it at one input. -/
def fnExactDegreeOfWrong : ChangeSpec := { name := "fnExactDegreeOf", fn := fun _ => fun
  | [d1, d2] => { results := [.lit (.bool false)], args := [d1, d2] }
  | _ => none }
def FnExactDegreeOfWrongFalsely : Prop := fnExactDegreeOfRow.holds Try.pinned (OpenSpec.ofChange fnExactDegreeOfWrong)

/-- 'laws.FnSpare': WHATEVER THE INPUT: true; the input reads as it did. -/
def fnSpareSpec : ChangeSpec := { name := "fnSpare", fn := fun _ => fun
  | [d] => { results := [.lit (.bool true)], args := [d] }
  | _ => none }
def fnSpareRow : OpenClaim := { program := "ytdagoiedlaaimaa", sum := "7f6b8e2a812041cc1247bd139658f9e1ca5e214c77c3c0d9cabe78b38f8d28cd", func := "loop.example/g03302/laws.FnSpare", spec := "fnSpare", apart := false }
def FnSpareSaid : Prop := fnSpareRow.holds Try.pinned (OpenSpec.ofChange fnSpareSpec)

/-- ITS FALSE NEIGHBOUR: 'it returns false'. Refute it at one input. -/
def fnSpareWrong : ChangeSpec := { name := "fnSpare", fn := fun _ => fun
  | [d] => { results := [.lit (.bool false)], args := [d] }
  | _ => none }
def FnSpareWrongFalsely : Prop := fnSpareRow.holds Try.pinned (OpenSpec.ofChange fnSpareWrong)

/-- 'laws.FnExactOverCount': WHATEVER THE INPUT: true; the input reads as it did. -/
def fnExactOverCountSpec : ChangeSpec := { name := "fnExactOverCount", fn := fun _ => fun
  | [d1, d2] => { results := [.lit (.bool true)], args := [d1, d2] }
  | _ => none }
def fnExactOverCountRow : OpenClaim := { program := "ytdagoiedlaaimaa", sum := "7f6b8e2a812041cc1247bd139658f9e1ca5e214c77c3c0d9cabe78b38f8d28cd", func := "loop.example/g03302/laws.FnExactOverCount", spec := "fnExactOverCount", apart := false }
def FnExactOverCountSaid : Prop := fnExactOverCountRow.holds Try.pinned (OpenSpec.ofChange fnExactOverCountSpec)

/-- ITS FALSE NEIGHBOUR: 'it returns false'. Refute it at one input. -/
def fnExactOverCountWrong : ChangeSpec := { name := "fnExactOverCount", fn := fun _ => fun
  | [d1, d2] => { results := [.lit (.bool false)], args := [d1, d2] }
  | _ => none }
def FnExactOverCountWrongFalsely : Prop := fnExactOverCountRow.holds Try.pinned (OpenSpec.ofChange fnExactOverCountWrong)

/-- 'laws.FnExactPartOf': WHATEVER THE INPUT: true; the input reads as it did. -/
def fnExactPartOfSpec : ChangeSpec := { name := "fnExactPartOf", fn := fun _ => fun
  | [d1, d2] => { results := [.lit (.bool true)], args := [d1, d2] }
  | _ => none }
def fnExactPartOfRow : OpenClaim := { program := "ytdagoiedlaaimaa", sum := "7f6b8e2a812041cc1247bd139658f9e1ca5e214c77c3c0d9cabe78b38f8d28cd", func := "loop.example/g03302/laws.FnExactPartOf", spec := "fnExactPartOf", apart := false }
def FnExactPartOfSaid : Prop := fnExactPartOfRow.holds Try.pinned (OpenSpec.ofChange fnExactPartOfSpec)

/-- ITS FALSE NEIGHBOUR: 'it returns false'. Refute it at one input. -/
def fnExactPartOfWrong : ChangeSpec := { name := "fnExactPartOf", fn := fun _ => fun
  | [d1, d2] => { results := [.lit (.bool false)], args := [d1, d2] }
  | _ => none }
def FnExactPartOfWrongFalsely : Prop := fnExactPartOfRow.holds Try.pinned (OpenSpec.ofChange fnExactPartOfWrong)

/-- 'laws.FnExactNewGame': WHATEVER THE INPUT: true; the input reads as it did. -/
def fnExactNewGameSpec : ChangeSpec := { name := "fnExactNewGame", fn := fun _ => fun
  | [d] => { results := [.lit (.bool true)], args := [d] }
  | _ => none }
def fnExactNewGameRow : OpenClaim := { program := "ytdagoiedlaaimaa", sum := "7f6b8e2a812041cc1247bd139658f9e1ca5e214c77c3c0d9cabe78b38f8d28cd", func := "loop.example/g03302/laws.FnExactNewGame", spec := "fnExactNewGame", apart := false }
def FnExactNewGameSaid : Prop := fnExactNewGameRow.holds Try.pinned (OpenSpec.ofChange fnExactNewGameSpec)

/-- ITS FALSE NEIGHBOUR: 'it returns false'. Refute it at one input. -/
def fnExactNewGameWrong : ChangeSpec := { name := "fnExactNewGame", fn := fun _ => fun
  | [d] => { results := [.lit (.bool false)], args := [d] }
  | _ => none }
def FnExactNewGameWrongFalsely : Prop := fnExactNewGameRow.holds Try.pinned (OpenSpec.ofChange fnExactNewGameWrong)

/-- 'laws.FnExactEnterRecord': WHATEVER THE INPUT: true; the input reads as it did. -/
def fnExactEnterRecordSpec : ChangeSpec := { name := "fnExactEnterRecord", fn := fun _ => fun
  | [d1, d2] => { results := [.lit (.bool true)], args := [d1, d2] }
  | _ => none }
def fnExactEnterRecordRow : OpenClaim := { program := "ytdagoiedlaaimaa", sum := "7f6b8e2a812041cc1247bd139658f9e1ca5e214c77c3c0d9cabe78b38f8d28cd", func := "loop.example/g03302/laws.FnExactEnterRecord", spec := "fnExactEnterRecord", apart := false }
def FnExactEnterRecordSaid : Prop := fnExactEnterRecordRow.holds Try.pinned (OpenSpec.ofChange fnExactEnterRecordSpec)

/-- ITS FALSE NEIGHBOUR: 'it returns false'. Refute it at one input. -/
def fnExactEnterRecordWrong : ChangeSpec := { name := "fnExactEnterRecord", fn := fun _ => fun
  | [d1, d2] => { results := [.lit (.bool false)], args := [d1, d2] }
  | _ => none }
def FnExactEnterRecordWrongFalsely : Prop := fnExactEnterRecordRow.holds Try.pinned (OpenSpec.ofChange fnExactEnterRecordWrong)

/-- 'laws.FnExactCountParts': WHATEVER THE INPUT: true; the input reads as it did. -/
def fnExactCountPartsSpec : ChangeSpec := { name := "fnExactCountParts", fn := fun _ => fun
  | [d] => { results := [.lit (.bool true)], args := [d] }
  | _ => none }
def fnExactCountPartsRow : OpenClaim := { program := "ytdagoiedlaaimaa", sum := "7f6b8e2a812041cc1247bd139658f9e1ca5e214c77c3c0d9cabe78b38f8d28cd", func := "loop.example/g03302/laws.FnExactCountParts", spec := "fnExactCountParts", apart := false }
def FnExactCountPartsSaid : Prop := fnExactCountPartsRow.holds Try.pinned (OpenSpec.ofChange fnExactCountPartsSpec)

/-- ITS FALSE NEIGHBOUR: 'it returns false'. Refute it at one input. -/
def fnExactCountPartsWrong : ChangeSpec := { name := "fnExactCountParts", fn := fun _ => fun
  | [d] => { results := [.lit (.bool false)], args := [d] }
  | _ => none }
def FnExactCountPartsWrongFalsely : Prop := fnExactCountPartsRow.holds Try.pinned (OpenSpec.ofChange fnExactCountPartsWrong)

/- THE SECOND FORM. 'bulk': how many values and letters a reading holds, each counted each time it is reached (what is shared counts as often as it is met; a slice's spare places count too). A statement '..UptoSaid' is the law's where the arguments, and the package variables that the reading takes, are together of bulk at most 1048576: NARROWER than '..Said'. Prove '..Said' where nothing that the law and all that it calls make is longer than what came in: it says more and counts as full. Else prove '..UptoSaid'. A law counts once. -/
mutual
def uptoBulk {H : Type} : DataW H → Nat
  | .lit (.string bytes) => bytes.length + 1
  | .lit _ => 1
  | .nil => 1
  | .ptr d => uptoBulk d + 1
  | .slice elems spare => uptoBulkAll elems + uptoBulkAll spare + 1
  | .agg parts => uptoBulkAll parts + 1
  | .iface _ d => uptoBulk d + 1
  | .map entries => uptoBulkEntries entries + 1
  | .held _ => 1
def uptoBulkAll {H : Type} : List (DataW H) → Nat
  | [] => 0
  | d :: r => uptoBulk d + uptoBulkAll r
def uptoBulkEntries {H : Type} : List (Lit × DataW H) → Nat
  | [] => 0
  | x :: r => uptoBulkEntry x + uptoBulkEntries r
def uptoBulkEntry {H : Type} : Lit × DataW H → Nat
  | (.string bytes, d) => bytes.length + uptoBulk d + 1
  | (_, d) => uptoBulk d + 1
 end
def uptoSmall : (H : Type) → List (DataW H) → Bool := fun _ ds => decide (uptoBulkAll ds ≤ 1048576)
def OpenSpec.upto (s : _root_.Go.ChangeSpec) : _root_.Go.OpenSpec := { _root_.Go.OpenSpec.ofChange s with cond := some uptoSmall }

/-- 'laws.FnExactActOk', WHERE WHAT IT READS IS OF BULK AT MOST 1048576: true; the input reads as it did. -/
def fnExactActOkUptoRow : OpenClaim := { program := "ytdagoiedlaaimaa", sum := "7f6b8e2a812041cc1247bd139658f9e1ca5e214c77c3c0d9cabe78b38f8d28cd", func := "loop.example/g03302/laws.FnExactActOk", spec := "fnExactActOk", apart := false, narrowed := true }
def FnExactActOkUptoSaid : Prop := fnExactActOkUptoRow.holds Try.pinned (OpenSpec.upto fnExactActOkSpec)

/-- 'laws.FnExactRecordsOk', WHERE WHAT IT READS IS OF BULK AT MOST 1048576: true; the input reads as it did. -/
def fnExactRecordsOkUptoRow : OpenClaim := { program := "ytdagoiedlaaimaa", sum := "7f6b8e2a812041cc1247bd139658f9e1ca5e214c77c3c0d9cabe78b38f8d28cd", func := "loop.example/g03302/laws.FnExactRecordsOk", spec := "fnExactRecordsOk", apart := false, narrowed := true }
def FnExactRecordsOkUptoSaid : Prop := fnExactRecordsOkUptoRow.holds Try.pinned (OpenSpec.upto fnExactRecordsOkSpec)

/-- 'laws.FnExactRecordOf', WHERE WHAT IT READS IS OF BULK AT MOST 1048576: true; the input reads as it did. -/
def fnExactRecordOfUptoRow : OpenClaim := { program := "ytdagoiedlaaimaa", sum := "7f6b8e2a812041cc1247bd139658f9e1ca5e214c77c3c0d9cabe78b38f8d28cd", func := "loop.example/g03302/laws.FnExactRecordOf", spec := "fnExactRecordOf", apart := false, narrowed := true }
def FnExactRecordOfUptoSaid : Prop := fnExactRecordOfUptoRow.holds Try.pinned (OpenSpec.upto fnExactRecordOfSpec)

/-- 'laws.FnExactCountRecords', WHERE WHAT IT READS IS OF BULK AT MOST 1048576: true; the input reads as it did. -/
def fnExactCountRecordsUptoRow : OpenClaim := { program := "ytdagoiedlaaimaa", sum := "7f6b8e2a812041cc1247bd139658f9e1ca5e214c77c3c0d9cabe78b38f8d28cd", func := "loop.example/g03302/laws.FnExactCountRecords", spec := "fnExactCountRecords", apart := false, narrowed := true }
def FnExactCountRecordsUptoSaid : Prop := fnExactCountRecordsUptoRow.holds Try.pinned (OpenSpec.upto fnExactCountRecordsSpec)

/-- 'laws.FnRecords', WHERE WHAT IT READS IS OF BULK AT MOST 1048576: true; the input reads as it did. -/
def fnRecordsUptoRow : OpenClaim := { program := "ytdagoiedlaaimaa", sum := "7f6b8e2a812041cc1247bd139658f9e1ca5e214c77c3c0d9cabe78b38f8d28cd", func := "loop.example/g03302/laws.FnRecords", spec := "fnRecords", apart := false, narrowed := true }
def FnRecordsUptoSaid : Prop := fnRecordsUptoRow.holds Try.pinned (OpenSpec.upto fnRecordsSpec)

/-- 'laws.FnExactDegreeOf', WHERE WHAT IT READS IS OF BULK AT MOST 1048576: true; the input reads as it did. -/
def fnExactDegreeOfUptoRow : OpenClaim := { program := "ytdagoiedlaaimaa", sum := "7f6b8e2a812041cc1247bd139658f9e1ca5e214c77c3c0d9cabe78b38f8d28cd", func := "loop.example/g03302/laws.FnExactDegreeOf", spec := "fnExactDegreeOf", apart := false, narrowed := true }
def FnExactDegreeOfUptoSaid : Prop := fnExactDegreeOfUptoRow.holds Try.pinned (OpenSpec.upto fnExactDegreeOfSpec)

/-- 'laws.FnSpare', WHERE WHAT IT READS IS OF BULK AT MOST 1048576: true; the input reads as it did. -/
def fnSpareUptoRow : OpenClaim := { program := "ytdagoiedlaaimaa", sum := "7f6b8e2a812041cc1247bd139658f9e1ca5e214c77c3c0d9cabe78b38f8d28cd", func := "loop.example/g03302/laws.FnSpare", spec := "fnSpare", apart := false, narrowed := true }
def FnSpareUptoSaid : Prop := fnSpareUptoRow.holds Try.pinned (OpenSpec.upto fnSpareSpec)

/-- 'laws.FnExactOverCount', WHERE WHAT IT READS IS OF BULK AT MOST 1048576: true; the input reads as it did. -/
def fnExactOverCountUptoRow : OpenClaim := { program := "ytdagoiedlaaimaa", sum := "7f6b8e2a812041cc1247bd139658f9e1ca5e214c77c3c0d9cabe78b38f8d28cd", func := "loop.example/g03302/laws.FnExactOverCount", spec := "fnExactOverCount", apart := false, narrowed := true }
def FnExactOverCountUptoSaid : Prop := fnExactOverCountUptoRow.holds Try.pinned (OpenSpec.upto fnExactOverCountSpec)

/-- 'laws.FnExactPartOf', WHERE WHAT IT READS IS OF BULK AT MOST 1048576: true; the input reads as it did. -/
def fnExactPartOfUptoRow : OpenClaim := { program := "ytdagoiedlaaimaa", sum := "7f6b8e2a812041cc1247bd139658f9e1ca5e214c77c3c0d9cabe78b38f8d28cd", func := "loop.example/g03302/laws.FnExactPartOf", spec := "fnExactPartOf", apart := false, narrowed := true }
def FnExactPartOfUptoSaid : Prop := fnExactPartOfUptoRow.holds Try.pinned (OpenSpec.upto fnExactPartOfSpec)

/-- 'laws.FnExactNewGame', WHERE WHAT IT READS IS OF BULK AT MOST 1048576: true; the input reads as it did. -/
def fnExactNewGameUptoRow : OpenClaim := { program := "ytdagoiedlaaimaa", sum := "7f6b8e2a812041cc1247bd139658f9e1ca5e214c77c3c0d9cabe78b38f8d28cd", func := "loop.example/g03302/laws.FnExactNewGame", spec := "fnExactNewGame", apart := false, narrowed := true }
def FnExactNewGameUptoSaid : Prop := fnExactNewGameUptoRow.holds Try.pinned (OpenSpec.upto fnExactNewGameSpec)

/-- 'laws.FnExactEnterRecord', WHERE WHAT IT READS IS OF BULK AT MOST 1048576: true; the input reads as it did. -/
def fnExactEnterRecordUptoRow : OpenClaim := { program := "ytdagoiedlaaimaa", sum := "7f6b8e2a812041cc1247bd139658f9e1ca5e214c77c3c0d9cabe78b38f8d28cd", func := "loop.example/g03302/laws.FnExactEnterRecord", spec := "fnExactEnterRecord", apart := false, narrowed := true }
def FnExactEnterRecordUptoSaid : Prop := fnExactEnterRecordUptoRow.holds Try.pinned (OpenSpec.upto fnExactEnterRecordSpec)

/-- 'laws.FnExactCountParts', WHERE WHAT IT READS IS OF BULK AT MOST 1048576: true; the input reads as it did. -/
def fnExactCountPartsUptoRow : OpenClaim := { program := "ytdagoiedlaaimaa", sum := "7f6b8e2a812041cc1247bd139658f9e1ca5e214c77c3c0d9cabe78b38f8d28cd", func := "loop.example/g03302/laws.FnExactCountParts", spec := "fnExactCountParts", apart := false, narrowed := true }
def FnExactCountPartsUptoSaid : Prop := fnExactCountPartsUptoRow.holds Try.pinned (OpenSpec.upto fnExactCountPartsSpec)

end Rows
end Go.Proofs.Ytdagoiedlaaimaa
