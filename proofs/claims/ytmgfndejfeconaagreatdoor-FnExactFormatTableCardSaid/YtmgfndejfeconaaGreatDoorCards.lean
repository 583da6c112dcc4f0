/-
  DERIVED. GIVEN WITH THE SEED: THE CARDS: each row of YtmgfndejfeconaaGreatDoorRows.lean that lists a variable, with what it lists TIED to the program's text (the seventh form; the later family's looks); each row that meets fmt, with fmt's text TOLD by the authors' own Lean function (tested against real Go, not proved from fmt's source: count such statements apart). THE CARD IS WHAT COUNTS. Prove the row's statement (the work); the ties are given (YtmgfndejfeconaaGreatDoorTie.lean); close each card by the builder's one call (the guide's Derived/Test/ToyasCard.lean, 'card_holds'). Laid BY PROGRAM, IN A SANDBOX (cutbox-door.mjs). By AI agents, Wed Nov 11 2026. No macro, syntax, notation, axiom, sorry.
-/
import Derived.Test.YtmgfndejfeconaaGreatDoorRows
import GoSem.ClaimSeven
namespace Go.Proofs.YtmgfndejfeconaaGreatDoor
namespace Rows

/-- THE TIED CARD OF 'laws.FnExactFormatTable'. -/
def fnExactFormatTableCard : Claim7 := { stood := { row := fnExactFormatTableRow, standIns := [], harness := (true, "4554eed5593c2e987db5f8e8fd603d148177d405a6f7def94f0432e76fac4593"), looks := false }, kinds := [], alts := [], laidByText := true, laidKinds := [.data, .data, .data], laidTests := true, laidLooks := .later }
def FnExactFormatTableCardSaid : Prop := Claim7.holds Tryz.pinned (.plain (OpenSpec.ofChange fnExactFormatTableSpec)) fnExactFormatTableCard

/-- THE SECOND FORM's CARD OF 'laws.FnExactFormatTable'. -/
def fnExactFormatTableUptoCard : Claim7 := { stood := { row := fnExactFormatTableUptoRow, standIns := [], harness := (true, "4554eed5593c2e987db5f8e8fd603d148177d405a6f7def94f0432e76fac4593"), looks := false }, kinds := [], alts := [], laidByText := true, laidKinds := [.data, .data, .data], laidTests := true, laidLooks := .later }
def FnExactFormatTableUptoCardSaid : Prop := Claim7.holds Tryz.pinned (.plain (OpenSpec.upto fnExactFormatTableSpec)) fnExactFormatTableUptoCard
end Rows
end Go.Proofs.YtmgfndejfeconaaGreatDoor
