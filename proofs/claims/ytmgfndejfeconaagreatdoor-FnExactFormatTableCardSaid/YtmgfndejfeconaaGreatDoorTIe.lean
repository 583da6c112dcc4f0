/-
  What the functions compute that copy a list of numbers.
  What the functions compute that compare a list of numbers, write it anew and read it again.
  What the functions compute that write a list of numbers anew and read it again.
-/
import Derived.Test.YtmgfndejfeconaaGreatDoorGa
import Derived.Test.YtmgfndejfeconaaGreatDoorL4
namespace Go.Proofs.YtmgfndejfeconaaGreatDoor
open Go.PL
set_option linter.unusedSimpArgs false
end Go.Proofs.YtmgfndejfeconaaGreatDoor
namespace Go.Proofs.YtmgfndejfeconaaGreatDoor
open Go.PL
set_option linter.unusedSimpArgs false
end Go.Proofs.YtmgfndejfeconaaGreatDoor
namespace Go.Proofs.YtmgfndejfeconaaGreatDoor
open Go.PL
set_option linter.unusedSimpArgs false
def mkInt (k : Int) (j : Nat) : Value := .int .i64 (k + j)
end Go.Proofs.YtmgfndejfeconaaGreatDoor
