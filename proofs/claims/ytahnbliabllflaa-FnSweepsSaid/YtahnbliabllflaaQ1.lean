/-
  What the functions compute that find the lines through a hole and the lone holes.
-/
import Derived.Test.YtahnbliabllflaaL6
import Derived.Test.YtahnbliabllflaaGa
namespace Go.Proofs.Ytahnbliabllflaa
open Go.PL
set_option linter.unusedSimpArgs false
def touches (k : Int) (l : Ln) : Bool := decide (l.f = k) || (decide (l.o = k) || decide (l.t = k))
def linesThrough (b : Brd) (k : Int) : List Ln := (linesOf b).filter (touches k)
def isLone (b : Brd) (k : Int) : Bool := hasHole b k && decide ((linesThrough b k).length = 0)
theorem len_zero_cast {n : Nat} : decide ((n : Int) = 0) = decide (n = 0) := by simp
def loneHoles (b : Brd) : List Int := (holesOf b).filter (isLone b)
end Go.Proofs.Ytahnbliabllflaa
