/-
  The laws on scenarios and on replays.
-/
import Derived.Test.YtahnbliabllflaaGreatDoorDA
import Derived.Test.YtahnbliabllflaaGreatDoorSZ
import Derived.Test.YtahnbliabllflaaGreatDoorEl
namespace Go.Proofs.YtahnbliabllflaaGreatDoor
open Go.PL
set_option linter.unusedSimpArgs false
def iterL {α : Type} (f : α → α) : Nat → α → α
  | 0, s => s
  | n + 1, s => iterL f n (f s)
end Go.Proofs.YtahnbliabllflaaGreatDoor
