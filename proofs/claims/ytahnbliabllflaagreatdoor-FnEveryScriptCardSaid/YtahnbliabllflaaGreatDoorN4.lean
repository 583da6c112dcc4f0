/-
  What the functions compute that copy a list of lines and measure it.
  What the functions compute that compare two equal lists of lines.
  What the functions compute that write a list of lines anew and read it again.
  What the functions of the laws compute that copy a puzzle and compare games.
  What the functions of the laws compute that write a game's jumps anew and read them again.
  The law on new games.
-/
import Derived.Test.YtahnbliabllflaaGreatDoorGa
import Derived.Test.YtahnbliabllflaaGreatDoorL6
namespace Go.Proofs.YtahnbliabllflaaGreatDoor
open Go.PL
set_option linter.unusedSimpArgs false
end Go.Proofs.YtahnbliabllflaaGreatDoor
namespace Go.Proofs.YtahnbliabllflaaGreatDoor
open Go.PL
set_option linter.unusedSimpArgs false
end Go.Proofs.YtahnbliabllflaaGreatDoor
namespace Go.Proofs.YtahnbliabllflaaGreatDoor
open Go.PL
set_option linter.unusedSimpArgs false
def mkLine (k : Int) (j : Nat) : Value := .agg #[.int .i64 (k + 3 * j), .int .i64 (k + 3 * j + 1), .int .i64 (k + 3 * j + 2)]
end Go.Proofs.YtahnbliabllflaaGreatDoor
namespace Go.Proofs.YtahnbliabllflaaGreatDoor
open Go.PL
set_option linter.unusedSimpArgs false
structure Gm where
  x : Pz
  j : List Ln
  h : Int
  u : Int
abbrev gmC (g : Gm) (c : C) : List C := [.v (.int .i64 g.x.b.w), .v (.int .i64 g.x.b.h), .v (.int .i64 g.x.b.n), .v (.int .i64 g.x.s), .v (.int .i64 g.x.g), c, .v (.int .i64 g.h), .v (.int .i64 g.u)]
abbrev gmL (g : Gm) : List C := gmC g (.l 3 (g.j.map lineV))
end Go.Proofs.YtahnbliabllflaaGreatDoor
namespace Go.Proofs.YtahnbliabllflaaGreatDoor
open Go.PL
set_option linter.unusedSimpArgs false
end Go.Proofs.YtahnbliabllflaaGreatDoor
namespace Go.Proofs.YtahnbliabllflaaGreatDoor
open Go.PL
set_option linter.unusedSimpArgs false
end Go.Proofs.YtahnbliabllflaaGreatDoor
