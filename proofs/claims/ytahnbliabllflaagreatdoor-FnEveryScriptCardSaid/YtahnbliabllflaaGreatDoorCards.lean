/-
  DERIVED. GIVEN WITH THE SEED: THE CARDS: each row of YtahnbliabllflaaGreatDoorRows.lean that lists a variable, with what it lists TIED to the program's text (the seventh form; the later family's looks); each row that meets fmt, with fmt's text TOLD by the authors' own Lean function (tested against real Go, not proved from fmt's source: count such statements apart). THE CARD IS WHAT COUNTS. Prove the row's statement (the work); the ties are given (YtahnbliabllflaaGreatDoorTie.lean); close each card by the builder's one call (the guide's Derived/Test/ToyasCard.lean, 'card_holds'). Laid BY PROGRAM, IN A SANDBOX (cutbox-door.mjs). By AI agents, Wed Nov 11 2026. No macro, syntax, notation, axiom, sorry.
-/
import Derived.Test.YtahnbliabllflaaGreatDoorRows
import GoSem.ClaimSeven
namespace Go.Proofs.YtahnbliabllflaaGreatDoor
namespace Rows

/-- THE TIED CARD OF 'laws.FnActTexts'. -/
def fnActTextsCard : Claim7 := { stood := { row := fnActTextsRow, standIns := [], harness := (true, "0a3c9defa41a683fbea3010c0a327362ebc628698711a1ea672847ebf505c719"), looks := true }, kinds := [], alts := [], laidByText := true, laidKinds := [.data, .data, .data, .sentinel, .sentinel], laidTests := true, laidLooks := .later }
def FnActTextsCardSaid : Prop := Claim7.holds Tryz.pinned (.plain (OpenSpec.ofChange fnActTextsSpec)) fnActTextsCard

/-- THE TIED CARD OF 'laws.FnExactRunScript'. -/
def fnExactRunScriptCard : Claim7 := { stood := { row := fnExactRunScriptRow, standIns := [], harness := (true, "0a3c9defa41a683fbea3010c0a327362ebc628698711a1ea672847ebf505c719"), looks := true }, kinds := [], alts := [], laidByText := true, laidKinds := [.data, .data, .data, .data, .sentinel, .sentinel, .pinned], laidTests := true, laidLooks := .later }
def FnExactRunScriptCardSaid : Prop := Claim7.holds Tryz.pinned (.plain (OpenSpec.ofChange fnExactRunScriptSpec)) fnExactRunScriptCard

/-- THE TIED CARD OF 'laws.FnScripts'. -/
def fnScriptsCard : Claim7 := { stood := { row := fnScriptsRow, standIns := [], harness := (true, "0a3c9defa41a683fbea3010c0a327362ebc628698711a1ea672847ebf505c719"), looks := true }, kinds := [], alts := [], laidByText := true, laidKinds := [.data, .data, .data, .data, .sentinel, .sentinel, .pinned], laidTests := true, laidLooks := .later }
def FnScriptsCardSaid : Prop := Claim7.holds Tryz.pinned (.plain (OpenSpec.ofChange fnScriptsSpec)) fnScriptsCard

/-- THE TIED CARD OF 'laws.FnEveryScript'. -/
def fnEveryScriptCard : Claim7 := { stood := { row := fnEveryScriptRow, standIns := [], harness := (true, "0a3c9defa41a683fbea3010c0a327362ebc628698711a1ea672847ebf505c719"), looks := true }, kinds := [], alts := [], laidByText := true, laidKinds := [.data, .data, .data, .data, .sentinel, .sentinel, .pinned], laidTests := true, laidLooks := .later }
def FnEveryScriptCardSaid : Prop := Claim7.holds Tryz.pinned (.plain (OpenSpec.ofChange fnEveryScriptSpec)) fnEveryScriptCard

/-- THE SECOND FORM's CARD OF 'laws.FnActTexts'. -/
def fnActTextsUptoCard : Claim7 := { stood := { row := fnActTextsUptoRow, standIns := [], harness := (true, "0a3c9defa41a683fbea3010c0a327362ebc628698711a1ea672847ebf505c719"), looks := true }, kinds := [], alts := [], laidByText := true, laidKinds := [.data, .data, .data, .sentinel, .sentinel], laidTests := true, laidLooks := .later }
def FnActTextsUptoCardSaid : Prop := Claim7.holds Tryz.pinned (.plain (OpenSpec.upto fnActTextsSpec)) fnActTextsUptoCard

/-- THE SECOND FORM's CARD OF 'laws.FnExactRunScript'. -/
def fnExactRunScriptUptoCard : Claim7 := { stood := { row := fnExactRunScriptUptoRow, standIns := [], harness := (true, "0a3c9defa41a683fbea3010c0a327362ebc628698711a1ea672847ebf505c719"), looks := true }, kinds := [], alts := [], laidByText := true, laidKinds := [.data, .data, .data, .data, .sentinel, .sentinel, .pinned], laidTests := true, laidLooks := .later }
def FnExactRunScriptUptoCardSaid : Prop := Claim7.holds Tryz.pinned (.plain (OpenSpec.upto fnExactRunScriptSpec)) fnExactRunScriptUptoCard

/-- THE SECOND FORM's CARD OF 'laws.FnScripts'. -/
def fnScriptsUptoCard : Claim7 := { stood := { row := fnScriptsUptoRow, standIns := [], harness := (true, "0a3c9defa41a683fbea3010c0a327362ebc628698711a1ea672847ebf505c719"), looks := true }, kinds := [], alts := [], laidByText := true, laidKinds := [.data, .data, .data, .data, .sentinel, .sentinel, .pinned], laidTests := true, laidLooks := .later }
def FnScriptsUptoCardSaid : Prop := Claim7.holds Tryz.pinned (.plain (OpenSpec.upto fnScriptsSpec)) fnScriptsUptoCard

/-- THE SECOND FORM's CARD OF 'laws.FnEveryScript'. -/
def fnEveryScriptUptoCard : Claim7 := { stood := { row := fnEveryScriptUptoRow, standIns := [], harness := (true, "0a3c9defa41a683fbea3010c0a327362ebc628698711a1ea672847ebf505c719"), looks := true }, kinds := [], alts := [], laidByText := true, laidKinds := [.data, .data, .data, .data, .sentinel, .sentinel, .pinned], laidTests := true, laidLooks := .later }
def FnEveryScriptUptoCardSaid : Prop := Claim7.holds Tryz.pinned (.plain (OpenSpec.upto fnEveryScriptSpec)) fnEveryScriptUptoCard
end Rows
end Go.Proofs.YtahnbliabllflaaGreatDoor
