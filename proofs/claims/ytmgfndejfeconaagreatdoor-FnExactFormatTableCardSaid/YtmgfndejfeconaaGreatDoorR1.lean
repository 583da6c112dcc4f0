/-
  What the functions compute that let a clock tick, copy a table and lay a new game and clock into it.
  What the functions compute that play a jump on a table and take one back.
-/
import Derived.Test.YtmgfndejfeconaaGreatDoorW1
import Derived.Test.YtmgfndejfeconaaGreatDoorV1
import Derived.Test.YtmgfndejfeconaaGreatDoorL9
namespace Go.Proofs.YtmgfndejfeconaaGreatDoor
open Go.PL
set_option linter.unusedSimpArgs false
/-- the clock after so many seconds -/
def tickd (c : Ck) (s : Int) : Ck := ⟨c.a - s + c.b, c.b, c.c + 1⟩
def tickOk (c : Ck) (s : Int) : Bool := clockOk c && (within s 0 c.a && clockOk (tickd c s))
def tickC (c : Ck) (s : Int) : Ck := if tickOk c s = true then tickd c s else c
/-- a game and a clock laid into a table -/
def layG (t : Tb) (g : Gm) (c : Ck) : Tb := { t with g := g, c := c }
end Go.Proofs.YtmgfndejfeconaaGreatDoor
namespace Go.Proofs.YtmgfndejfeconaaGreatDoor
open Go.PL
set_option linter.unusedSimpArgs false
/-- lists short enough to be copied -/
structure TbS (t : Tb) : Prop where
  x : pzIn t.g.x
  j : t.g.j.length ≤ 1048576
  r : t.r.length ≤ 1048576
theorem TbS.tb {t : Tb} (h : TbS t) : TbIn t := ⟨⟨h.x, by have := h.j; omega⟩, h.r⟩
def stepOk (t : Tb) : Bool := tableOk t && backOk t.g
def stepT (t : Tb) : Tb := if stepOk t = true then layG t (backR t.g) t.c else t
def playOk (t : Tb) (l : Ln) (s : Int) : Bool := tableOk t && (makeOk t.g l && tickOk t.c s)
def playT (t : Tb) (l : Ln) (s : Int) : Tb := if playOk t l s = true then layG t (makeG t.g l) (tickC t.c s) else t
end Go.Proofs.YtmgfndejfeconaaGreatDoor
