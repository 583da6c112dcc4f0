/-
  What the functions compute that count sweeps and claim a record on a table.
-/
import Derived.Test.YtmgfndejfeconaaGreatDoorR1
import Derived.Test.YtmgfndejfeconaaGreatDoorL9
namespace Go.Proofs.YtmgfndejfeconaaGreatDoor
open Go.PL
set_option linter.unusedSimpArgs false
/-- does a sweep begin with this jump -/
def newAt (js : List Ln) (i : Nat) : Bool := decide (i = 0) || match js[i]?, js[i - 1]? with
  | some l, some m => !decide (l.f = m.t)
  | _, _ => false
def sweepsN (js : List Ln) (i : Nat) : Nat := ((List.range i).filter (newAt js)).length
def sweeps (js : List Ln) : Nat := sweepsN js js.length
def claimR (t : Tb) (n day : Int) : Rec := ⟨n, t.n, sweeps t.g.j, day⟩
def claimOk (t : Tb) (n day : Int) : Bool := tableOk t && (isWon t.g && (decide (t.g.h = 0) && (enterRecord t.r (claimR t n day)).2))
def claimT (t : Tb) (n day : Int) : Tb := if claimOk t n day = true then { t with r := (enterRecord t.r (claimR t n day)).1 } else t
end Go.Proofs.YtmgfndejfeconaaGreatDoor
