/-
  What the functions compute that list the jumps, the good jumps, and give a hint.
-/
import Derived.Test.YtmgfndejfeconaaGreatDoorP4
import Derived.Test.YtmgfndejfeconaaGreatDoorU3
namespace Go.Proofs.YtmgfndejfeconaaGreatDoor
open Go.PL
set_option linter.unusedSimpArgs false
def jumpsOf (b : Brd) (p : Int) : List Ln := if positionOk b p = true then (linesOf b).filter (canJ p) else []
noncomputable def goodAt' (b : Brd) (p g : Int) (l : Ln) : Bool := hasS (spreadL b true g) (flip p l)
noncomputable def goodJ (b : Brd) (p g : Int) : List Ln := (jumpsOf b p).filter (goodAt' b p g)
noncomputable def hintFor (x : Pz) (now : Int) : Option Ln := if puzzleOk x = true ∧ positionOk x.b now = true then (goodJ x.b now x.g).head? else none
end Go.Proofs.YtmgfndejfeconaaGreatDoor
