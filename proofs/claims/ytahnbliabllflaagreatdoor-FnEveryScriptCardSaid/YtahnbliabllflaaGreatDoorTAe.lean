/-
  Acts as values.
  What the functions compute that copy a list of acts and measure it.
  What the functions compute that compare two equal lists of acts.
  What the functions compute that write a list of acts anew and read it again.
  What the functions compute that copy a list of numbers.
  What the functions compute that compare a list of numbers, write it anew and read it again.
  What the functions compute that write a list of numbers anew and read it again.
-/
import Derived.Test.YtahnbliabllflaaGreatDoorL1
import Derived.Test.YtahnbliabllflaaGreatDoorGa
namespace Go.Proofs.YtahnbliabllflaaGreatDoor
open Go.PL
set_option linter.unusedSimpArgs false
structure Ac where
  k : Int
  a : Int
  b : Int
def actV (r : Ac) : Value := .agg #[.int .i64 r.k, .int .i64 r.a, .int .i64 r.b]
abbrev actC (r : Ac) : List C := [.v (.int .i64 r.k), .v (.int .i64 r.a), .v (.int .i64 r.b)]
end Go.Proofs.YtahnbliabllflaaGreatDoor
namespace Go.Proofs.YtahnbliabllflaaGreatDoor
open Go.PL
set_option linter.unusedSimpArgs false
end Go.Proofs.YtahnbliabllflaaGreatDoor
namespace Go.Proofs.YtahnbliabllflaaGreatDoor
open Go.PL
set_option linter.unusedSimpArgs false
end Go.Proofs.YtahnbliabllflaaGreatDoor
namespace Go.Proofs.YtahnbliabllflaaGreatDoor
open Go.PL
set_option linter.unusedSimpArgs false
def mkAct (k : Int) (j : Nat) : Value := .agg #[.int .i64 (k + 3 * j), .int .i64 (k + 3 * j + 1), .int .i64 (k + 3 * j + 2)]
end Go.Proofs.YtahnbliabllflaaGreatDoor
namespace Go.Proofs.YtahnbliabllflaaGreatDoor
open Go.PL
set_option linter.unusedSimpArgs false
end Go.Proofs.YtahnbliabllflaaGreatDoor
namespace Go.Proofs.YtahnbliabllflaaGreatDoor
open Go.PL
set_option linter.unusedSimpArgs false
end Go.Proofs.YtahnbliabllflaaGreatDoor
namespace Go.Proofs.YtahnbliabllflaaGreatDoor
open Go.PL
set_option linter.unusedSimpArgs false
def mkInt (k : Int) (j : Nat) : Value := .int .i64 (k + j)
end Go.Proofs.YtahnbliabllflaaGreatDoor
