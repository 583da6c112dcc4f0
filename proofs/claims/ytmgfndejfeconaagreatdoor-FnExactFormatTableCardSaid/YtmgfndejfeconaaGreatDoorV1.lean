/-
  What the functions compute that copy a game and make a jump in it.
  What the functions compute that make a jump in a game.
  What the functions compute that take a jump back.
-/
import Derived.Test.YtmgfndejfeconaaGreatDoorU3
namespace Go.Proofs.YtmgfndejfeconaaGreatDoor
open Go.PL
set_option linter.unusedSimpArgs false
/-- the game after one more jump -/
def addG (g : Gm) (l : Ln) : Gm := { g with j := g.j ++ [l] }
def makeOk (g : Gm) (l : Ln) : Bool := gameOk g && gameOk (addG g l)
def makeG (g : Gm) (l : Ln) : Gm := if makeOk g l = true then addG g l else g
end Go.Proofs.YtmgfndejfeconaaGreatDoor
namespace Go.Proofs.YtmgfndejfeconaaGreatDoor
open Go.PL
set_option linter.unusedSimpArgs false
end Go.Proofs.YtmgfndejfeconaaGreatDoor
namespace Go.Proofs.YtmgfndejfeconaaGreatDoor
open Go.PL
set_option linter.unusedSimpArgs false
/-- the game after its last jump is taken back -/
def backG (g : Gm) : Gm := { g with j := g.j.dropLast, u := g.u + 1 }
def backOk (g : Gm) : Bool := gameOk g && (!decide (g.j.length = 0) && gameOk (backG g))
def backR (g : Gm) : Gm := if backOk g = true then backG g else g
end Go.Proofs.YtmgfndejfeconaaGreatDoor
