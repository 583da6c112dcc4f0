/-
  What the functions compute that take spared pegs away; the law on them.
-/
import Derived.Test.YtenfpjipeeolpaaGreatP7
namespace Go.Proofs.YtenfpjipeeolpaaGreat
open Go.PL
set_option linter.unusedSimpArgs false
/-- spared pegs are taken away, the first one first -/
def tight (b : Brd) (S : List Bool) (p : Nat) : Nat :=
  match spares b S (p : Int) with
  | [] => p
  | k :: _ => if h : p - 2 ^ k.toNat < p then tight b S (p - 2 ^ k.toNat) else p
  termination_by p
theorem tight_nil {b : Brd} {S : List Bool} {p : Nat} (h : spares b S (p : Int) = []) : tight b S p = p := by
  rw [tight, h]
theorem tight_cons {b : Brd} {S : List Bool} {p : Nat} {k : Int} {r : List Int} (h : spares b S (p : Int) = k :: r) (hlt : p - 2 ^ k.toNat < p) : tight b S p = tight b S (p - 2 ^ k.toNat) := by
  conv => lhs; rw [tight, h]
  simp only [hlt, dite_true]
theorem spare_at {b : Brd} {S : List Bool} {p : Nat} {k : Int} (h : k ∈ spares b S (p : Int)) : 0 ≤ k ∧ k ≤ 48 ∧ p.testBit k.toNat = true ∧ 2 ^ k.toNat ≤ p ∧ p - 2 ^ k.toNat < p ∧ ndiff p (2 ^ k.toNat) = p - 2 ^ k.toNat ∧ hasS S ((p - 2 ^ k.toNat : Nat) : Int) = true := by
  unfold spares at h
  obtain ⟨h1, h2⟩ := List.mem_filter.1 h
  obtain ⟨_, _, k0, k1⟩ := mem_holes h1
  simp only [spAt, Bool.and_eq_true] at h2
  obtain ⟨h3, h4⟩ := h2
  rw [bitAt_int k0] at h3
  have e := ndiff_sub h3
  have hle : 2 ^ k.toNat ≤ p := Nat.ge_two_pow_of_testBit h3
  have hpos : 0 < 2 ^ k.toNat := Nat.pow_pos (by omega)
  rw [Int.toNat_natCast, e] at h4
  exact ⟨k0, k1, h3, hle, by omega, e, h4⟩
noncomputable def tightI (b : Brd) (p g : Int) : Int := if canReach b p g = true then (tight b (spreadL b true g) p.toNat : Nat) else p
end Go.Proofs.YtenfpjipeeolpaaGreat
