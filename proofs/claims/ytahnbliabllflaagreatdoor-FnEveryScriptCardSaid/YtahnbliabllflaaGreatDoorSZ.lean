/-
  What all laws over drawn values share: bytes that come in, and how many may.
-/
import Derived.Test.YtahnbliabllflaaGreatDoorD3
import Derived.Test.YtahnbliabllflaaGreatDoorEg
namespace Go.Proofs.YtahnbliabllflaaGreatDoor
open Go.PL
set_option linter.unusedSimpArgs false
end Go.Proofs.YtahnbliabllflaaGreatDoor
