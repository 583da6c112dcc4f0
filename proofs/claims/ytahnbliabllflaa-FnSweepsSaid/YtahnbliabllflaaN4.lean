/-
  What the functions compute that copy a list of lines and measure it.
  What the functions compute that compare two equal lists of lines.
  What the functions compute that write a list of lines anew and read it again.
  What the functions of the laws compute that copy a puzzle and compare games.
  What the functions of the laws compute that write a game's jumps anew and read them again.
  The law on new games.
-/
import Derived.Test.YtahnbliabllflaaGa
import Derived.Test.YtahnbliabllflaaL6
namespace Go.Proofs.Ytahnbliabllflaa
open Go.PL
set_option linter.unusedSimpArgs false
end Go.Proofs.Ytahnbliabllflaa
namespace Go.Proofs.Ytahnbliabllflaa
open Go.PL
set_option linter.unusedSimpArgs false
end Go.Proofs.Ytahnbliabllflaa
namespace Go.Proofs.Ytahnbliabllflaa
open Go.PL
set_option linter.unusedSimpArgs false
def mkLine (k : Int) (j : Nat) : Value := .agg #[.int .i64 (k + 3 * j), .int .i64 (k + 3 * j + 1), .int .i64 (k + 3 * j + 2)]
end Go.Proofs.Ytahnbliabllflaa
namespace Go.Proofs.Ytahnbliabllflaa
open Go.PL
set_option linter.unusedSimpArgs false
structure Gm where
  x : Pz
  j : List Ln
  h : Int
  u : Int
/-- a game whose list of jumps is this value -/
abbrev gmC (g : Gm) (c : C) : List C := [.v (.int .i64 g.x.b.w), .v (.int .i64 g.x.b.h), .v (.int .i64 g.x.b.n), .v (.int .i64 g.x.s), .v (.int .i64 g.x.g), c, .v (.int .i64 g.h), .v (.int .i64 g.u)]
abbrev gmL (g : Gm) : List C := gmC g (.l 3 (g.j.map lineV))
end Go.Proofs.Ytahnbliabllflaa
namespace Go.Proofs.Ytahnbliabllflaa
open Go.PL
set_option linter.unusedSimpArgs false
end Go.Proofs.Ytahnbliabllflaa
namespace Go.Proofs.Ytahnbliabllflaa
open Go.PL
set_option linter.unusedSimpArgs false
theorem pz_of {cs : List C} (h : All2 TC [.z (.i .i64), .z (.i .i64), .z (.i .i64), .z (.i .i64), .z (.i .i64)] cs) : ∃ x : Pz, cs = pzC x ∧ pzIn x := by
  obtain ⟨c1, r1, rfl, h1, g1⟩ := all2_cons h
  obtain ⟨c2, r2, rfl, h2, g2⟩ := all2_cons g1
  obtain ⟨c3, r3, rfl, h3, g3⟩ := all2_cons g2
  obtain ⟨c4, r4, rfl, h4, g4⟩ := all2_cons g3
  obtain ⟨c5, r5, rfl, h5, g5⟩ := all2_cons g4
  obtain rfl := all2_nil g5
  obtain ⟨a, rfl, _⟩ := tc_i h1
  obtain ⟨b, rfl, _⟩ := tc_i h2
  obtain ⟨c, rfl, _⟩ := tc_i h3
  obtain ⟨s, rfl, i4⟩ := tc_i h4
  obtain ⟨g, rfl, i5⟩ := tc_i h5
  rw [inK_i64] at i4 i5
  exact ⟨⟨⟨a, b, c⟩, s, g⟩, rfl, i4.2, i5.2⟩
end Go.Proofs.Ytahnbliabllflaa
