/-
  What the functions compute that copy a list of numbers.
  What the functions compute that compare a list of numbers, write it anew and read it again.
  What the functions compute that write a list of numbers anew and read it again.
-/
import Derived.Test.YtnbopnipfegboaaGreatDoorGa
import Derived.Test.YtnbopnipfegboaaGreatDoorL4
namespace Go.Proofs.YtnbopnipfegboaaGreatDoor
open Go.PL
set_option linter.unusedSimpArgs false
end Go.Proofs.YtnbopnipfegboaaGreatDoor
namespace Go.Proofs.YtnbopnipfegboaaGreatDoor
open Go.PL
set_option linter.unusedSimpArgs false
end Go.Proofs.YtnbopnipfegboaaGreatDoor
namespace Go.Proofs.YtnbopnipfegboaaGreatDoor
open Go.PL
set_option linter.unusedSimpArgs false
def mkInt (k : Int) (j : Nat) : Value := .int .i64 (k + j)
end Go.Proofs.YtnbopnipfegboaaGreatDoor
