/-
  What the functions compute that find the pegs that can be spared and tight positions; the laws on them.
  What the functions compute that take spared pegs away; the law on them.
  What the functions compute that count the bits of a number.
  What the functions compute that find the least start and count tight positions; the laws on them.
-/
import Derived.Test.YtnbopnipfegboaaGreatDoorP4
import Derived.Test.YtnbopnipfegboaaGreatDoorL6
import Derived.Test.YtnbopnipfegboaaGreatDoorP2
import Derived.Test.YtnbopnipfegboaaGreatDoorN1
import Derived.Test.YtnbopnipfegboaaGreatDoorGa
namespace Go.Proofs.YtnbopnipfegboaaGreatDoor
open Go.PL
set_option linter.unusedSimpArgs false
noncomputable def isTight (b : Brd) (p g : Int) : Bool := hasS (spreadL b true g) p && decide ((spares b (spreadL b true g) p).length = 0)
theorem spread_at {b : Brd} {bk : Bool} {g p : Int} (h : hasS (spreadL b bk g) p = true) : isSmall b = true ∧ positionOk b g = true ∧ positionOk b p = true ∧ boardOk b = true ∧ 0 ≤ p ∧ Sub b p.toNat ∧ p.toNat < (spreadL b bk g).length ∧ p ≤ 65536 := by
  obtain ⟨h1, h2, h3, h4⟩ := has_spread.1 h
  obtain ⟨hb, p0, hsub⟩ := pos_sub h3
  have hlt := sub_lt hb hsub
  have hN := board_le h1
  refine ⟨h1, h2, h3, hb, p0, hsub, ?_, by omega⟩
  simp only [spreadL, h1, h2, and_self, if_true, seenL_len]
  exact hlt
noncomputable def sparePegs (b : Brd) (p g : Int) : List Int := if canReach b p g = true then spares b (spreadL b true g) p else []
end Go.Proofs.YtnbopnipfegboaaGreatDoor
namespace Go.Proofs.YtnbopnipfegboaaGreatDoor
open Go.PL
set_option linter.unusedSimpArgs false
/-- spared pegs are taken away, the first one first -/
def tight (b : Brd) (S : List Bool) (p : Nat) : Nat :=
  match spares b S (p : Int) with
  | [] => p
  | k :: _ => if h : p - 2 ^ k.toNat < p then tight b S (p - 2 ^ k.toNat) else p
  termination_by p
noncomputable def tightI (b : Brd) (p g : Int) : Int := if canReach b p g = true then (tight b (spreadL b true g) p.toNat : Nat) else p
end Go.Proofs.YtnbopnipfegboaaGreatDoor
namespace Go.Proofs.YtnbopnipfegboaaGreatDoor
open Go.PL
set_option linter.unusedSimpArgs false
def pop1 (x : Nat) : Nat := (x / 2 ^ 1 &&& 6148914691236517205) + (x &&& 6148914691236517205)
def pop2 (x : Nat) : Nat := (x / 2 ^ 2 &&& 3689348814741910323) + (x &&& 3689348814741910323)
def pop3 (x : Nat) : Nat := (x / 2 ^ 4 + x) &&& 1085102592571150095
def pop4 (x : Nat) : Nat := x + x / 2 ^ 8
def pop5 (x : Nat) : Nat := x + x / 2 ^ 16
def pop6 (x : Nat) : Nat := x + x / 2 ^ 32
def popN (x : Nat) : Nat := pop6 (pop5 (pop4 (pop3 (pop2 (pop1 x))))) &&& 127
def popAll : Bool := (List.range 256).all fun a => (List.range 256).all fun c => popN (256 * a + c) == cardN 8 a + cardN 8 c
def pegs (x : Nat) : Nat := cardN 49 x
end Go.Proofs.YtnbopnipfegboaaGreatDoor
namespace Go.Proofs.YtnbopnipfegboaaGreatDoor
open Go.PL
set_option linter.unusedSimpArgs false
noncomputable def backOf (b : Brd) (g : Int) : List Nat := listS (spreadL b true g)
def leastF (g acc : Int) (q : Nat) : Int := if (q : Int) ≠ g ∧ (acc < 0 ∨ (pegs q : Int) < acc) then pegs q else acc
def leastN (g : Int) (l : List Nat) (i : Nat) : Int := (l.take i).foldl (leastF g) (-1)
noncomputable def leastStart (b : Brd) (g : Int) : Int := leastN g (backOf b g) (backOf b g).length
/-! ### tight positions -/
def noSpare (b : Brd) (S : List Bool) (q : Nat) : Bool := decide ((spares b S (q : Int)).length = 0)
noncomputable def countTight (b : Brd) (g : Int) : Int :=
  if isSmall b = true ∧ positionOk b g = true ∧ (holesOf b).length ≤ 9 then ((backOf b g).filter (noSpare b (spreadL b true g))).length else -1
end Go.Proofs.YtnbopnipfegboaaGreatDoor
