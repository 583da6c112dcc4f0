/-
  DERIVED. GIVEN WITH THE SEED: THE CARDS: each row of YtlplopaahflcpaaDoorRows.lean that lists a variable, with what it lists TIED to the program's text (the seventh form; the later family's looks); each row that meets fmt, with fmt's text TOLD by the authors' own Lean function (tested against real Go, not proved from fmt's source: count such statements apart). THE CARD IS WHAT COUNTS. Prove the row's statement (the work); the ties are given (YtlplopaahflcpaaDoorTie.lean); close each card by the builder's one call (the guide's Derived/Test/ToyasCard.lean, 'card_holds'). Laid BY PROGRAM, IN A SANDBOX (cutbox-door.mjs). By AI agents, Wed Nov 11 2026. No macro, syntax, notation, axiom, sorry.
-/
import Derived.Test.YtlplopaahflcpaaDoorRows
import GoSem.ClaimSeven
namespace Go.Proofs.YtlplopaahflcpaaDoor
namespace Rows

/-- THE TIED CARD OF 'laws.FnExactParseAct'. -/
def fnExactParseActCard : Claim7 := { stood := { row := fnExactParseActRow, standIns := [], harness := (true, "9f7e2495a8310ca804e52d9f5dcaa07c74011f708468ac2f0743ef7365169e32"), looks := true }, kinds := [], alts := [], laidByText := true, laidKinds := [.data, .data, .data, .sentinel, .sentinel], laidTests := true, laidLooks := .later }
def FnExactParseActCardSaid : Prop := Claim7.holds Tryd.pinned (.plain (OpenSpec.ofChange fnExactParseActSpec)) fnExactParseActCard

/-- THE SECOND FORM's CARD OF 'laws.FnExactParseAct'. -/
def fnExactParseActUptoCard : Claim7 := { stood := { row := fnExactParseActUptoRow, standIns := [], harness := (true, "9f7e2495a8310ca804e52d9f5dcaa07c74011f708468ac2f0743ef7365169e32"), looks := true }, kinds := [], alts := [], laidByText := true, laidKinds := [.data, .data, .data, .sentinel, .sentinel], laidTests := true, laidLooks := .later }
def FnExactParseActUptoCardSaid : Prop := Claim7.holds Tryd.pinned (.plain (OpenSpec.upto fnExactParseActSpec)) fnExactParseActUptoCard
end Rows
end Go.Proofs.YtlplopaahflcpaaDoor
