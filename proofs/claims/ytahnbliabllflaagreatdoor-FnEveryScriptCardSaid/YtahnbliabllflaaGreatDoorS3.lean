/-
  Spared pegs, tight positions, starts with the least pegs: what holds of them.
-/
import Derived.Test.YtahnbliabllflaaGreatDoorP2
import Derived.Test.YtahnbliabllflaaGreatDoorD5
namespace Go.Proofs.YtahnbliabllflaaGreatDoor
open Go.PL
set_option linter.unusedSimpArgs false
theorem pegs_und {q : Nat} {l : Ln} (hl : LnIn l) (h0 : l.f ≠ l.o) (h1 : l.o ≠ l.t) (h2 : l.f ≠ l.t) (hc : canU (q : Int) l = true) : pegs (q ^^^ bitsL l) = pegs q + 1 := by
  have e := und_flip (p := (q : Int)) (by omega) hl h1 h2 hc
  rw [Int.toNat_natCast] at e
  rw [← e]
  obtain ⟨f0, f1, o0, o1, t0, t1⟩ := hl
  have n0 : ¬ l.f.toNat = l.o.toNat := fun e => h0 (toNat_inj f0 o0 e)
  have n1 : ¬ l.o.toNat = l.t.toNat := fun e => h1 (toNat_inj o0 t0 e)
  have n2 : ¬ l.f.toNat = l.t.toNat := fun e => h2 (toNat_inj f0 t0 e)
  simp only [canU, bitAt_int f0, bitAt_int o0, bitAt_int t0, Bool.and_eq_true, Bool.not_eq_true'] at hc
  obtain ⟨a, c, d⟩ := hc
  unfold pegs und
  rw [Int.toNat_natCast]
  have x1 : (ndiff q (2 ^ l.t.toNat)).testBit l.t.toNat = false := by simp [tb_ndiff, Nat.testBit_two_pow]
  have x2 : ndiff q (2 ^ l.t.toNat) ||| 2 ^ l.t.toNat = q := by
    apply Nat.eq_of_testBit_eq
    intro j
    simp only [Nat.testBit_or, tb_ndiff, Nat.testBit_two_pow]
    by_cases e : l.t.toNat = j
    · subst e; simp [d]
    · simp [e]
  have x3 : (ndiff q (2 ^ l.t.toNat)).testBit l.f.toNat = false := by simp [tb_ndiff, a]
  have x4 : (ndiff q (2 ^ l.t.toNat) ||| 2 ^ l.f.toNat).testBit l.o.toNat = false := by simp [tb_ndiff, Nat.testBit_or, Nat.testBit_two_pow, c, n0]
  have c1 := cardN_add x1 (n := 49)
  have c2 := cardN_add x3 (n := 49)
  have c3 := cardN_add x4 (n := 49)
  rw [x2] at c1
  rw [if_pos (by omega)] at c1 c2 c3
  omega
def undosOf (b : Brd) (p : Int) : List Ln := if positionOk b p = true then (linesOf b).filter (canU p) else []
def LeastP (g r : Int) (l : List Nat) : Prop := (r = -1 ∧ ∀ q ∈ l, (q : Int) = g) ∨ ∃ q ∈ l, (q : Int) ≠ g ∧ r = pegs q ∧ ∀ q' ∈ l, (q' : Int) ≠ g → r ≤ pegs q'
def hasPeg (b : Brd) (p k : Int) : Bool := positionOk b p && (hasHole b k && bitAt p k)
structure SpareOk (b : Brd) (p g : Int) : Prop where
  peg : ∀ k ∈ sparePegs b p g, 0 ≤ k ∧ k ≤ 48 ∧ hasPeg b p k = true ∧ 2 ^ k.toNat ≤ p ∧ canReach b (p - 2 ^ k.toNat) g = true
  no : canReach b p g = false → sparePegs b p g = []
  t1 : canReach b p g = true → isTight b (tightI b p g) g = true
  t2 : canReach b p g = true → ((tightI b p g).toNat &&& p.toNat : Nat) = tightI b p g
  t3 : canReach b p g = true → canReach b (tightI b p g) g = true
  t4 : canReach b p g = true → isTight b p g = decide ((sparePegs b p g).length = 0)
  t5 : 0 ≤ tightI b p g ∧ tightI b p g ≤ p
end Go.Proofs.YtahnbliabllflaaGreatDoor
