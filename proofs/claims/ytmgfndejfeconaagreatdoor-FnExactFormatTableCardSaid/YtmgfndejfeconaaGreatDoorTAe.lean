/-
  Acts as values.
  What the functions compute that copy a list of acts and measure it.
  What the functions compute that compare two equal lists of acts.
  What the functions compute that write a list of acts anew and read it again.
-/
import Derived.Test.YtmgfndejfeconaaGreatDoorL1
import Derived.Test.YtmgfndejfeconaaGreatDoorGa
namespace Go.Proofs.YtmgfndejfeconaaGreatDoor
open Go.PL
set_option linter.unusedSimpArgs false
structure Ac where
  k : Int
  a : Int
  b : Int
def actV (r : Ac) : Value := .agg #[.int .i64 r.k, .int .i64 r.a, .int .i64 r.b]
abbrev actC (r : Ac) : List C := [.v (.int .i64 r.k), .v (.int .i64 r.a), .v (.int .i64 r.b)]
end Go.Proofs.YtmgfndejfeconaaGreatDoor
namespace Go.Proofs.YtmgfndejfeconaaGreatDoor
open Go.PL
set_option linter.unusedSimpArgs false
end Go.Proofs.YtmgfndejfeconaaGreatDoor
namespace Go.Proofs.YtmgfndejfeconaaGreatDoor
open Go.PL
set_option linter.unusedSimpArgs false
end Go.Proofs.YtmgfndejfeconaaGreatDoor
namespace Go.Proofs.YtmgfndejfeconaaGreatDoor
open Go.PL
set_option linter.unusedSimpArgs false
def mkAct (k : Int) (j : Nat) : Value := .agg #[.int .i64 (k + 3 * j), .int .i64 (k + 3 * j + 1), .int .i64 (k + 3 * j + 2)]
end Go.Proofs.YtmgfndejfeconaaGreatDoor
