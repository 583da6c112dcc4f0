/-
  The laws on printed acts and scripts; what ScriptText computes.
-/
import Derived.Test.YtlplopaahflcpaaDoorB2
import Derived.Test.YtlplopaahflcpaaDoorTAe
namespace Go.Proofs.YtlplopaahflcpaaDoor
open Go.PL
set_option linter.unusedSimpArgs false
end Go.Proofs.YtlplopaahflcpaaDoor
