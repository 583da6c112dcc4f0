/-
  What the functions compute that carry out an act on a table.
  A table stays valid; what the functions compute that carry out many acts.
-/
import Derived.Test.YtmgfndejfeconaaGreatDoorR4
import Derived.Test.YtmgfndejfeconaaGreatDoorR5
import Derived.Test.YtmgfndejfeconaaGreatDoorTAe
import Derived.Test.YtmgfndejfeconaaGreatDoorTIe
namespace Go.Proofs.YtmgfndejfeconaaGreatDoor
open Go.PL
set_option linter.unusedSimpArgs false
def b2i (b : Bool) : Int := if b = true then 1 else 0
noncomputable def doT (t : Tb) (a : Ac) : Tb :=
  if tableOk t = true ∧ actOk a.k a.a a.b = true then
    if a.k = 1 then (if (lineBetween t.g.x.b a.a a.b).isSome = true then playT t (lineO (lineBetween t.g.x.b a.a a.b)) 1 else t)
    else if a.k = 2 then askT t a.a
    else if a.k = 3 then stepT t
    else if a.k = 4 then claimT t a.a a.b
    else t
  else t
noncomputable def doN (t : Tb) (a : Ac) : Int :=
  if tableOk t = true ∧ actOk a.k a.a a.b = true then
    if a.k = 1 then (if (lineBetween t.g.x.b a.a a.b).isSome = true then b2i (playOk t (lineO (lineBetween t.g.x.b a.a a.b)) 1) else b2i false)
    else if a.k = 2 then b2i (askOk t a.a)
    else if a.k = 3 then b2i (stepOk t)
    else if a.k = 4 then b2i (claimOk t a.a a.b)
    else nowOf t.g
  else -1
end Go.Proofs.YtmgfndejfeconaaGreatDoor
namespace Go.Proofs.YtmgfndejfeconaaGreatDoor
open Go.PL
set_option linter.unusedSimpArgs false
/-! ### a table stays valid -/
theorem tableOk_iff {t : Tb} : tableOk t = true ↔ gameOk t.g = true ∧ clockOk t.c = true ∧ recordsOk t.r = true ∧ within t.n 1 999 = true := by
  simp [tableOk]
/-! ### many acts -/
noncomputable def runT : Tb → List Ac → Tb
  | t, [] => t
  | t, a :: l => runT (doT t a) l
noncomputable def runN : Tb → List Ac → List Int
  | _, [] => []
  | t, a :: l => doN t a :: runN (doT t a) l
def runOk (t : Tb) (l : List Ac) : Bool := tableOk t && decide (l.length ≤ 40)
noncomputable def runsT (t : Tb) (l : List Ac) : Tb := if runOk t l = true then runT t l else t
noncomputable def runsN (t : Tb) (l : List Ac) : List Int := if runOk t l = true then runN t l else []
abbrev zTb : List C := [.v (.int .i64 0), .v (.int .i64 0), .v (.int .i64 0), .v (.int .i64 0), .v (.int .i64 0), .v (.slice none 0 0), .v (.int .i64 0), .v (.int .i64 0), .v (.int .i64 0), .v (.int .i64 0), .v (.int .i64 0), .v (.int .i64 0), .v (.slice none 0 0)]
/-! ### two lists of numbers -/
noncomputable def isReplay (t : Tb) (l : List Ac) (ns : List Int) : Bool := runOk t l && decide (runsN t l = ns)
end Go.Proofs.YtmgfndejfeconaaGreatDoor
