/-
  What the functions compute that find the pegs that can be spared and tight positions; the laws on them.
-/
import Derived.Test.YtenfpjipeeolpaaGreatP4
import Derived.Test.YtenfpjipeeolpaaGreatL6
namespace Go.Proofs.YtenfpjipeeolpaaGreat
open Go.PL
set_option linter.unusedSimpArgs false
theorem bitsN_sub {b : Brd} {p : Nat} (hb : boardOk b = true) (h : Sub b p) : bitsN (p : Int) 49 = (holesOf b).filter (bitAt (p : Int)) := by
  have n1 := (bok hb).n1
  rw [← holes_49 hb]
  unfold bitsN
  rw [List.filter_map, List.filter_filter]
  congr 1
  apply List.filter_congr
  intro k _
  simp only [Function.comp]
  cases hk : bitAt (p : Int) (k : Int) with
  | false => rfl
  | true =>
    rw [bitAt_nat] at hk
    have := h k hk
    have e : bitAt b.n (k : Int) = b.n.toNat.testBit k := by
      have := bitAt_toNat (p := b.n) (k := (k : Int)) (by omega) (by omega)
      rw [Int.toNat_natCast] at this
      exact this
    rw [e, this]; rfl
theorem spares_eq {b : Brd} {S : List Bool} {p : Nat} (hb : boardOk b = true) (h : Sub b p) : spares b S (p : Int) = (bitsN (p : Int) 49).filter fun k => hasS S ((p : Int) - 2 ^ k.toNat) := by
  rw [bitsN_sub hb h, List.filter_filter]
  unfold spares
  apply List.filter_congr
  intro k hk
  obtain ⟨_, _, k0, _⟩ := mem_holes hk
  simp only [spAt]
  cases hb : bitAt (p : Int) k with
  | false => simp
  | true =>
    rw [bitAt_int k0] at hb
    have e := ndiff_sub hb
    have hle : 2 ^ k.toNat ≤ p := Nat.ge_two_pow_of_testBit hb
    have e2 : ((ndiff p (2 ^ k.toNat) : Nat) : Int) = (p : Int) - 2 ^ k.toNat := by
      rw [e, Int.ofNat_sub hle]; simp
    rw [Int.toNat_natCast, e2]
    simp
noncomputable def isTight (b : Brd) (p g : Int) : Bool := hasS (spreadL b true g) p && decide ((spares b (spreadL b true g) p).length = 0)
theorem len0_cast {n : Nat} : decide ((n : Int) = 0) = decide (n = 0) := by simp
theorem spread_at {b : Brd} {bk : Bool} {g p : Int} (h : hasS (spreadL b bk g) p = true) : isSmall b = true ∧ positionOk b g = true ∧ positionOk b p = true ∧ boardOk b = true ∧ 0 ≤ p ∧ Sub b p.toNat ∧ p.toNat < (spreadL b bk g).length ∧ p ≤ 65536 := by
  obtain ⟨h1, h2, h3, h4⟩ := has_spread.1 h
  obtain ⟨hb, p0, hsub⟩ := pos_sub h3
  have hlt := sub_lt hb hsub
  have hN := board_le h1
  refine ⟨h1, h2, h3, hb, p0, hsub, ?_, by omega⟩
  simp only [spreadL, h1, h2, and_self, if_true, seenL_len]
  exact hlt
noncomputable def sparePegs (b : Brd) (p g : Int) : List Int := if canReach b p g = true then spares b (spreadL b true g) p else []
end Go.Proofs.YtenfpjipeeolpaaGreat
