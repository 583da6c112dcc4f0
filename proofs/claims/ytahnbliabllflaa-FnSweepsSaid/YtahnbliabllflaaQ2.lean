/-
  The law on lone holes.
-/
import Derived.Test.YtahnbliabllflaaQ1
import Derived.Test.YtahnbliabllflaaTAe
namespace Go.Proofs.Ytahnbliabllflaa
open Go.PL
set_option linter.unusedSimpArgs false
theorem lone_len {b : Brd} : (loneHoles b).length ≤ 1048576 := by
  have h1 := List.length_filter_le (isLone b) (holesOf b)
  have h2 := holes_len (b := b)
  unfold loneHoles; omega
end Go.Proofs.Ytahnbliabllflaa
