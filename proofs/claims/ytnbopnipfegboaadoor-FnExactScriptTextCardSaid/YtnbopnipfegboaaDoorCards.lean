/-
  DERIVED. GIVEN WITH THE SEED: THE CARDS: each row of YtnbopnipfegboaaDoorRows.lean that lists a variable, with what it lists TIED to the program's text (the seventh form; the later family's looks); each row that meets fmt, with fmt's text TOLD by the authors' own Lean function (tested against real Go, not proved from fmt's source: count such statements apart). THE CARD IS WHAT COUNTS. Prove the row's statement (the work); the ties are given (YtnbopnipfegboaaDoorTie.lean); close each card by the builder's one call (the guide's Derived/Test/ToyasCard.lean, 'card_holds'). Laid BY PROGRAM, IN A SANDBOX (cutbox-door.mjs). By AI agents, Wed Nov 11 2026. No macro, syntax, notation, axiom, sorry.
-/
import Derived.Test.YtnbopnipfegboaaDoorRows
import GoSem.ClaimSeven
namespace Go.Proofs.YtnbopnipfegboaaDoor
namespace Rows

/-- THE TIED CARD OF 'laws.FnExactFormatAct'. -/
def fnExactFormatActCard : Claim7 := { stood := { row := fnExactFormatActRow, standIns := [], harness := (true, "b720cf6839a6531eed48469a319ae21cbaebad27a485e305e91fb79113ef9117"), looks := false }, kinds := [], alts := [], laidByText := true, laidKinds := [.data, .data, .data], laidTests := true, laidLooks := .later }
def FnExactFormatActCardSaid : Prop := Claim7.holds Tryd.pinned (.plain (OpenSpec.ofChange fnExactFormatActSpec)) fnExactFormatActCard

/-- THE TIED CARD OF 'laws.FnExactScriptText'. -/
def fnExactScriptTextCard : Claim7 := { stood := { row := fnExactScriptTextRow, standIns := [], harness := (true, "b720cf6839a6531eed48469a319ae21cbaebad27a485e305e91fb79113ef9117"), looks := false }, kinds := [], alts := [], laidByText := true, laidKinds := [.data, .data, .data], laidTests := true, laidLooks := .later }
def FnExactScriptTextCardSaid : Prop := Claim7.holds Tryd.pinned (.plain (OpenSpec.ofChange fnExactScriptTextSpec)) fnExactScriptTextCard

/-- THE SECOND FORM's CARD OF 'laws.FnExactFormatAct'. -/
def fnExactFormatActUptoCard : Claim7 := { stood := { row := fnExactFormatActUptoRow, standIns := [], harness := (true, "b720cf6839a6531eed48469a319ae21cbaebad27a485e305e91fb79113ef9117"), looks := false }, kinds := [], alts := [], laidByText := true, laidKinds := [.data, .data, .data], laidTests := true, laidLooks := .later }
def FnExactFormatActUptoCardSaid : Prop := Claim7.holds Tryd.pinned (.plain (OpenSpec.upto fnExactFormatActSpec)) fnExactFormatActUptoCard

/-- THE SECOND FORM's CARD OF 'laws.FnExactScriptText'. -/
def fnExactScriptTextUptoCard : Claim7 := { stood := { row := fnExactScriptTextUptoRow, standIns := [], harness := (true, "b720cf6839a6531eed48469a319ae21cbaebad27a485e305e91fb79113ef9117"), looks := false }, kinds := [], alts := [], laidByText := true, laidKinds := [.data, .data, .data], laidTests := true, laidLooks := .later }
def FnExactScriptTextUptoCardSaid : Prop := Claim7.holds Tryd.pinned (.plain (OpenSpec.upto fnExactScriptTextSpec)) fnExactScriptTextUptoCard
end Rows
end Go.Proofs.YtnbopnipfegboaaDoor
