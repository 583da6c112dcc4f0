/-
  What the functions compute that search the positions that jumps lead to.
  What the program's own search computes, and the functions on its result.
  Searches there and back; pegs that can be spared.
-/
import Derived.Test.YtmgfndejfeconaaGreatDoorP2
namespace Go.Proofs.YtmgfndejfeconaaGreatDoor
open Go.PL
set_option linter.unusedSimpArgs false
abbrev nV (q : Nat) : Value := .int .i64 (q : Int)
@[go_sem] theorem n_toNat {n : Nat} : ((n : Int)).toNat = n := Int.toNat_natCast n
end Go.Proofs.YtmgfndejfeconaaGreatDoor
namespace Go.Proofs.YtmgfndejfeconaaGreatDoor
open Go.PL
set_option linter.unusedSimpArgs false
noncomputable def spreadL (b : Brd) (bk : Bool) (p : Int) : List Bool := if isSmall b = true ∧ positionOk b p = true then seenL b bk p.toNat else []
/-- is the position marked -/
def hasS (S : List Bool) (p : Int) : Bool := decide (0 ≤ p) && ((S[p.toNat]?).getD false)
def markedS (S : List Bool) (q : Nat) : Bool := (S[q]?).getD false
/-- the marked positions -/
def listN (S : List Bool) (i : Nat) : List Nat := (List.range i).filter (markedS S)
def listS (S : List Bool) : List Nat := listN S S.length
end Go.Proofs.YtmgfndejfeconaaGreatDoor
namespace Go.Proofs.YtmgfndejfeconaaGreatDoor
open Go.PL
set_option linter.unusedSimpArgs false
noncomputable def canReach (b : Brd) (p g : Int) : Bool := hasS (spreadL b false p) g
/-! ### spared pegs -/
def spAt (S : List Bool) (p k : Int) : Bool := bitAt p k && hasS S ((ndiff p.toNat (2 ^ k.toNat) : Nat) : Int)
def spares (b : Brd) (S : List Bool) (p : Int) : List Int := (holesOf b).filter (spAt S p)
end Go.Proofs.YtmgfndejfeconaaGreatDoor
