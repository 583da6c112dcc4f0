/-
  What the functions compute that copy a list of lines and measure it.
  What the functions compute that compare two equal lists of lines.
  What the functions compute that write a list of lines anew and read it again.
-/
import Derived.Test.YtggejdgohkfmmaaGreatGa
import Derived.Test.YtggejdgohkfmmaaGreatL6
namespace Go.Proofs.YtggejdgohkfmmaaGreat
open Go.PL
set_option linter.unusedSimpArgs false
end Go.Proofs.YtggejdgohkfmmaaGreat
namespace Go.Proofs.YtggejdgohkfmmaaGreat
open Go.PL
set_option linter.unusedSimpArgs false
end Go.Proofs.YtggejdgohkfmmaaGreat
namespace Go.Proofs.YtggejdgohkfmmaaGreat
open Go.PL
set_option linter.unusedSimpArgs false
def mkLine (k : Int) (j : Nat) : Value := .agg #[.int .i64 (k + 3 * j), .int .i64 (k + 3 * j + 1), .int .i64 (k + 3 * j + 2)]
end Go.Proofs.YtggejdgohkfmmaaGreat
