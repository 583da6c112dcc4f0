/-
  Acts as values.
  What the functions compute that copy a list of acts and measure it.
  What the functions compute that compare two equal lists of acts.
  What the functions compute that write a list of acts anew and read it again.
  What the functions compute that copy a list of numbers.
  What the functions compute that compare a list of numbers, write it anew and read it again.
  What the functions compute that write a list of numbers anew and read it again.
-/
import Derived.Test.YtahnbliabllflaaL1
import Derived.Test.YtahnbliabllflaaGa
namespace Go.Proofs.Ytahnbliabllflaa
open Go.PL
set_option linter.unusedSimpArgs false
structure Ac where
  k : Int
  a : Int
  b : Int
def actV (r : Ac) : Value := .agg #[.int .i64 r.k, .int .i64 r.a, .int .i64 r.b]
abbrev actC (r : Ac) : List C := [.v (.int .i64 r.k), .v (.int .i64 r.a), .v (.int .i64 r.b)]
theorem ac_of {cs : List C} (h : All2 TC [.z (.i .i64), .z (.i .i64), .z (.i .i64)] cs) : ∃ l : Ac, cs = actC l := by
  obtain ⟨c1, r1, rfl, h1, g1⟩ := all2_cons h
  obtain ⟨c2, r2, rfl, h2, g2⟩ := all2_cons g1
  obtain ⟨c3, r3, rfl, h3, g3⟩ := all2_cons g2
  obtain rfl := all2_nil g3
  obtain ⟨a, rfl, _⟩ := tc_i h1
  obtain ⟨b, rfl, _⟩ := tc_i h2
  obtain ⟨c, rfl, _⟩ := tc_i h3
  exact ⟨⟨a, b, c⟩, rfl⟩
theorem acts_of {c : C} (h : TC (.l 3 true [.i .i64, .i .i64, .i .i64]) c) : ∃ l : List Ac, c = .l 3 (l.map actV) ∧ l.length ≤ maxLen := by
  obtain ⟨xs, rfl, hl, hx⟩ := tc_l h
  obtain ⟨rs, rfl, hr⟩ := list_of actV (fun _ => True) (xs := xs) (fun x hm => by
    obtain ⟨cs, rfl, h⟩ := hx x hm
    obtain ⟨c1, r1, rfl, ⟨a, rfl, ha⟩, h1⟩ := all2_cons h
    obtain ⟨c2, r2, rfl, ⟨b, rfl, hb⟩, h2⟩ := all2_cons h1
    obtain ⟨c3, r3, rfl, ⟨c, rfl, hc⟩, h3⟩ := all2_cons h2
    obtain rfl := all2_nil h3
    exact ⟨⟨a, b, c⟩, rfl, trivial⟩)
  exact ⟨rs, rfl, by simpa using hl⟩
theorem ints_of {c : C} (h : TC (.l 1 false [.i .i64]) c) : ∃ l : List Int, c = .l 1 (l.map (fun n => Value.int .i64 n)) ∧ l.length ≤ maxLen := by
  obtain ⟨xs, rfl, hl, hx⟩ := tc_l h
  obtain ⟨rs, rfl, hr⟩ := list_of (fun n => Value.int .i64 n) (fun _ => True) (xs := xs) (fun x hm => by
    obtain ⟨k, hk, h⟩ := hx x hm
    obtain rfl := (List.cons.inj hk).1.symm
    obtain ⟨a, rfl, ha⟩ := h
    exact ⟨a, rfl, trivial⟩)
  exact ⟨rs, rfl, by simpa using hl⟩
end Go.Proofs.Ytahnbliabllflaa
namespace Go.Proofs.Ytahnbliabllflaa
open Go.PL
set_option linter.unusedSimpArgs false
end Go.Proofs.Ytahnbliabllflaa
namespace Go.Proofs.Ytahnbliabllflaa
open Go.PL
set_option linter.unusedSimpArgs false
end Go.Proofs.Ytahnbliabllflaa
namespace Go.Proofs.Ytahnbliabllflaa
open Go.PL
set_option linter.unusedSimpArgs false
def mkAct (k : Int) (j : Nat) : Value := .agg #[.int .i64 (k + 3 * j), .int .i64 (k + 3 * j + 1), .int .i64 (k + 3 * j + 2)]
end Go.Proofs.Ytahnbliabllflaa
namespace Go.Proofs.Ytahnbliabllflaa
open Go.PL
set_option linter.unusedSimpArgs false
end Go.Proofs.Ytahnbliabllflaa
namespace Go.Proofs.Ytahnbliabllflaa
open Go.PL
set_option linter.unusedSimpArgs false
end Go.Proofs.Ytahnbliabllflaa
namespace Go.Proofs.Ytahnbliabllflaa
open Go.PL
set_option linter.unusedSimpArgs false
def mkInt (k : Int) (j : Nat) : Value := .int .i64 (k + j)
end Go.Proofs.Ytahnbliabllflaa
