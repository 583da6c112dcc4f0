/-
  What the functions that count lines through a hole compute.
-/
import Derived.Test.YtncdcgaaeclhiaaL6
namespace Go.Proofs.Ytncdcgaaeclhiaa
open Go.PL
set_option linter.unusedSimpArgs false
theorem brd_of {cs : List C} (h : All2 TC [.z (.i .i64), .z (.i .i64), .z (.i .i64)] cs) : ∃ b : Brd, cs = brdC b := by
  obtain ⟨c1, r1, rfl, h1, g1⟩ := all2_cons h
  obtain ⟨c2, r2, rfl, h2, g2⟩ := all2_cons g1
  obtain ⟨c3, r3, rfl, h3, g3⟩ := all2_cons g2
  obtain rfl := all2_nil g3
  obtain ⟨a, rfl, _⟩ := tc_i h1
  obtain ⟨b, rfl, _⟩ := tc_i h2
  obtain ⟨c, rfl, _⟩ := tc_i h3
  exact ⟨⟨a, b, c⟩, rfl⟩
def degreeOf (b : Brd) (k : Int) : Int := if hasHole b k = true then (cntL (fun l => decide (l.f = k)) (linesOf b) (linesOf b).length : Int) else -1
def overCount (b : Brd) (k : Int) : Int := if hasHole b k = true then (cntL (fun l => decide (l.o = k)) (linesOf b) (linesOf b).length : Int) else -1
end Go.Proofs.Ytncdcgaaeclhiaa
