/-
  What the functions of the laws compute that copy a puzzle and compare games.
  What the functions of the laws compute that write a game's jumps anew and read them again.
  The law on new games.
-/
import Derived.Test.YtnbopnipfegboaaGreatDoorN1
import Derived.Test.YtnbopnipfegboaaGreatDoorTLe
import Derived.Test.YtnbopnipfegboaaGreatDoorL6
namespace Go.Proofs.YtnbopnipfegboaaGreatDoor
open Go.PL
set_option linter.unusedSimpArgs false
structure Gm where
  x : Pz
  j : List Ln
  h : Int
  u : Int
/-- a game whose list of jumps is this value -/
abbrev gmC (g : Gm) (c : C) : List C := [.v (.int .i64 g.x.b.w), .v (.int .i64 g.x.b.h), .v (.int .i64 g.x.b.n), .v (.int .i64 g.x.s), .v (.int .i64 g.x.g), c, .v (.int .i64 g.h), .v (.int .i64 g.u)]
abbrev gmL (g : Gm) : List C := gmC g (.l 3 (g.j.map lineV))
end Go.Proofs.YtnbopnipfegboaaGreatDoor
namespace Go.Proofs.YtnbopnipfegboaaGreatDoor
open Go.PL
set_option linter.unusedSimpArgs false
end Go.Proofs.YtnbopnipfegboaaGreatDoor
namespace Go.Proofs.YtnbopnipfegboaaGreatDoor
open Go.PL
set_option linter.unusedSimpArgs false
end Go.Proofs.YtnbopnipfegboaaGreatDoor
