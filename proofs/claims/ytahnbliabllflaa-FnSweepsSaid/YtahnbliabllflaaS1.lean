/-
  What the functions compute that count a board's parts; the law on them.
-/
import Derived.Test.YtahnbliabllflaaL6
import Derived.Test.YtahnbliabllflaaGa
namespace Go.Proofs.Ytahnbliabllflaa
open Go.PL
set_option linter.unusedSimpArgs false
/-! ### parts as classes -/
theorem reach_trans {ls : List Ln} {a b c : Int} (h : Reach ls a b) (h' : Reach ls b c) : Reach ls a c := by
  induction h' with
  | refl => exact h
  | step l hl _ ih => exact .step l hl ih
theorem reach_sym {b : Brd} {k x : Int} (h : Reach (linesOf b) k x) : Reach (linesOf b) x k := by
  induction h with
  | refl => exact .refl
  | step l hl _ ih => exact reach_trans (.step ⟨l.t, l.o, l.f⟩ (line_turn hl) .refl) ih
theorem reach_bd {b : Brd} {k x : Int} (hk : 0 ≤ k ∧ k ≤ 48) (h : Reach (linesOf b) k x) : 0 ≤ x ∧ x ≤ 48 := by
  cases h with
  | refl => exact hk
  | step l hl _ => have := mem_line_bd hl; omega
theorem bits_ex (p : Nat → Prop) : ∀ n, ∃ s : Nat, s < 2 ^ n ∧ ∀ j, s.testBit j = true ↔ j < n ∧ p j
  | 0 => ⟨0, by simp, by simp⟩
  | n + 1 => by
    obtain ⟨s, hs, h⟩ := bits_ex p n
    by_cases hp : p n
    · refine ⟨s ||| 2 ^ n, Nat.or_lt_two_pow (Nat.lt_of_lt_of_le hs (Nat.pow_le_pow_right (by omega) (by omega))) (Nat.pow_lt_pow_right (by omega) (by omega)), fun j => ?_⟩
      simp only [Nat.testBit_or, Nat.testBit_two_pow, Bool.or_eq_true, decide_eq_true_eq, h]
      constructor
      · rintro (⟨h1, h2⟩ | h1)
        · exact ⟨by omega, h2⟩
        · subst h1; exact ⟨by omega, hp⟩
      · rintro ⟨h1, h2⟩
        by_cases e : n = j
        · exact .inr e
        · exact .inl ⟨by omega, h2⟩
    · refine ⟨s, Nat.lt_of_lt_of_le hs (Nat.pow_le_pow_right (by omega) (by omega)), fun j => ?_⟩
      rw [h]
      constructor
      · rintro ⟨h1, h2⟩; exact ⟨by omega, h2⟩
      · rintro ⟨h1, h2⟩
        refine ⟨?_, h2⟩
        by_cases e : j = n
        · subst e; exact absurd h2 hp
        · omega
theorem part_ex {b : Brd} {k : Int} (hh : hasHole b k = true) : ∃ s : Nat, s < 2 ^ 49 ∧ partOf b k = (s : Int) ∧ IsPart b k s := by
  obtain ⟨s, hs, h⟩ := bits_ex (fun j => Reach (linesOf b) k (j : Int)) 49
  have hp : IsPart b k s := fun j => by
    rw [h]
    refine ⟨fun h => h.2, fun hr => ⟨?_, hr⟩⟩
    have := reach_bd (hole_bd hh).2 hr
    omega
  exact ⟨s, hs, partOf_eq hh hp, hp⟩
theorem part_iff {b : Brd} {k k' : Int} (hh : hasHole b k = true) (hh' : hasHole b k' = true) : partOf b k = partOf b k' ↔ Reach (linesOf b) k k' := by
  obtain ⟨s, _, e, hp⟩ := part_ex hh
  obtain ⟨s', _, e', hp'⟩ := part_ex hh'
  have k0 := (hole_bd hh').2.1
  rw [e, e']
  constructor
  · intro h
    have : s = s' := by omega
    subst this
    have h1 := (hp' k'.toNat).2 (by rw [Int.toNat_of_nonneg k0]; exact .refl)
    have h2 := (hp k'.toNat).1 h1
    rwa [Int.toNat_of_nonneg k0] at h2
  · intro h
    have : s = s' := by
      apply Nat.eq_of_testBit_eq
      intro j
      rw [Bool.eq_iff_iff, hp j, hp' j]
      exact ⟨fun h1 => reach_trans (reach_sym h) h1, fun h1 => reach_trans h h1⟩
    rw [this]
theorem part_bit {b : Brd} {k k' : Int} (hh : hasHole b k = true) (hh' : hasHole b k' = true) : (partOf b k).toNat.testBit k'.toNat = true ↔ partOf b k = partOf b k' := by
  obtain ⟨s, _, e, hp⟩ := part_ex hh
  have k0 := (hole_bd hh').2.1
  rw [part_iff hh hh', e, Int.toNat_natCast, hp, Int.toNat_of_nonneg k0]
/-! ### counting them -/
noncomputable def partAt (b : Brd) (i : Nat) : Int := partOf b ((holesOf b)[i]?.getD 0)
open Classical in
noncomputable def newP (b : Brd) (i : Nat) : Bool := decide (∀ j, j < i → partAt b j ≠ partAt b i)
noncomputable def cntN (b : Brd) (i : Nat) : Nat := ((List.range i).filter (newP b)).length
noncomputable def countParts (b : Brd) : Nat := cntN b (holesOf b).length
theorem newP_iff {b : Brd} {i : Nat} : newP b i = true ↔ ∀ j, j < i → partAt b j ≠ partAt b i := by simp [newP]
theorem cntP_hit {b : Brd} {i : Nat} (h : newP b i = true) : cntN b (i + 1) = cntN b i + 1 := by simp [cntN, List.range_succ, List.filter_append, h]
theorem cntP_miss {b : Brd} {i : Nat} (h : newP b i = false) : cntN b (i + 1) = cntN b i := by simp [cntN, List.range_succ, List.filter_append, h]
theorem cntP_le {b : Brd} {i : Nat} : cntN b i ≤ i := by
  have := List.length_filter_le (newP b) (List.range i)
  unfold cntN; simpa using this
theorem partAt_eq {b : Brd} {i : Nat} (h : i < (holesOf b).length) : partAt b i = partOf b (holesOf b)[i] := by simp [partAt, h]
theorem hole_at {b : Brd} {i : Nat} (h : i < (holesOf b).length) : hasHole b (holesOf b)[i] = true := (mem_holes (List.getElem_mem h)).2.1
theorem ndiff_sub' {a c : Nat} : a - (a &&& c) = ndiff a c := by
  have h1 : (a &&& c) &&& ndiff a c = 0 := by
    apply Nat.eq_of_testBit_eq
    intro j
    simp only [ndiff, Nat.testBit_and, Nat.testBit_xor, Nat.zero_testBit]
    cases a.testBit j <;> cases c.testBit j <;> rfl
  have h2 : (a &&& c) ||| ndiff a c = a := by
    apply Nat.eq_of_testBit_eq
    intro j
    simp only [ndiff, Nat.testBit_and, Nat.testBit_xor, Nat.testBit_or]
    cases a.testBit j <;> cases c.testBit j <;> rfl
  have h3 : (a &&& c) + ndiff a c = a := by
    have : ∀ (n a b : Nat), a < 2 ^ n → a &&& b = 0 → a + b = a ||| b := by
      intro n
      induction n with
      | zero => intro a b h _; have : a = 0 := by simpa using h
                subst this; simp
      | succ n ih =>
        intro a b h hab
        have h2 : a / 2 &&& b / 2 = 0 := by rw [← Nat.and_div_two, hab]
        have ih := ih (a / 2) (b / 2) (by rw [Nat.pow_succ] at h; omega) h2
        rw [← Nat.or_div_two] at ih
        have h3 : ¬ (a % 2 = 1 ∧ b % 2 = 1) := by rw [← Nat.and_mod_two_eq_one, hab]; simp
        have h4 := Nat.or_mod_two_eq_one (a := a) (b := b)
        have h5 : (a ||| b) % 2 = 0 ∨ (a ||| b) % 2 = 1 := by omega
        by_cases h6 : (a ||| b) % 2 = 1
        · have := h4.1 h6; omega
        · have h7 : ¬ (a % 2 = 1 ∨ b % 2 = 1) := fun h => h6 (h4.2 h)
          omega
    rw [this (a &&& c) _ _ Nat.lt_two_pow_self h1, h2]
  omega
/-- what is left of the holes -/
structure LeftOk (b : Brd) (i left : Nat) : Prop where
  le : i ≤ (holesOf b).length
  lt : left < 2 ^ 49
  bit : ∀ x, left.testBit x = true ↔ (b.n.toNat.testBit x = true ∧ ∀ j, j < i → (partAt b j).toNat.testBit x = false)
theorem left_new {b : Brd} {i left : Nat} (h : LeftOk b i left) (hi : i < (holesOf b).length) : left.testBit (holesOf b)[i].toNat = newP b i := by
  have hh := hole_at hi
  obtain ⟨hb, k0, k1⟩ := hole_bd hh
  have n0 : 0 ≤ b.n := by have := bok hb; obtain ⟨w1, w2, h1, h2, m1, m2, n1, n2, n3⟩ := this; omega
  have hbit : b.n.toNat.testBit (holesOf b)[i].toNat = true := by
    simp only [hasHole, Bool.and_eq_true] at hh
    have := hh.2
    rw [← Int.toNat_of_nonneg n0, bitAt_int k0] at this
    exact this
  rw [Bool.eq_iff_iff, h.bit, newP_iff]
  simp only [hbit, true_and]
  constructor
  · intro h1 j hj e
    have hjl : j < (holesOf b).length := by omega
    rw [partAt_eq hjl, partAt_eq hi] at e
    have h2 := (part_bit (hole_at hjl) hh).2 e
    have h3 := h1 j hj
    rw [partAt_eq hjl, h2] at h3
    cases h3
  · intro h1 j hj
    have hjl : j < (holesOf b).length := by omega
    cases h2 : (partAt b j).toNat.testBit (holesOf b)[i].toNat with
    | false => rfl
    | true =>
      rw [partAt_eq hjl] at h2
      have h3 := (part_bit (hole_at hjl) hh).1 h2
      exact absurd (by rw [partAt_eq hjl, partAt_eq hi]; exact h3) (h1 j hj)
theorem left_hit {b : Brd} {i left s : Nat} (h : LeftOk b i left) (hi : i < (holesOf b).length) (es : partOf b (holesOf b)[i] = (s : Int)) : LeftOk b (i + 1) (ndiff left s) := by
  refine ⟨hi, Nat.lt_of_le_of_lt (ndiff_le _ _) h.lt, fun x => ?_⟩
  have e : (ndiff left s).testBit x = (left.testBit x && !s.testBit x) := by
    unfold ndiff
    rw [Nat.testBit_xor, Nat.testBit_and]
    cases left.testBit x <;> cases s.testBit x <;> rfl
  rw [e, Bool.and_eq_true, h.bit]
  have e2 : (partAt b i).toNat = s := by rw [partAt_eq hi, es, Int.toNat_natCast]
  constructor
  · rintro ⟨⟨h1, h2⟩, h3⟩
    refine ⟨h1, fun j hj => ?_⟩
    by_cases ej : j = i
    · subst ej; rw [e2]; simpa using h3
    · exact h2 j (by omega)
  · rintro ⟨h1, h2⟩
    refine ⟨⟨h1, fun j hj => h2 j (by omega)⟩, ?_⟩
    have := h2 i (by omega)
    rw [e2] at this
    simp [this]
theorem left_miss {b : Brd} {i left : Nat} (h : LeftOk b i left) (hi : i < (holesOf b).length) (hn : newP b i = false) : LeftOk b (i + 1) left := by
  refine ⟨hi, h.lt, fun x => ?_⟩
  rw [h.bit]
  constructor
  · rintro ⟨h1, h2⟩
    refine ⟨h1, fun j hj => ?_⟩
    by_cases ej : j = i
    · subst ej
      have : ¬ ∀ j', j' < j → partAt b j' ≠ partAt b j := fun hall => by rw [newP_iff.2 hall] at hn; cases hn
      obtain ⟨j', h3⟩ := Classical.not_forall.1 this
      obtain ⟨h4, h5⟩ := Classical.not_imp.1 h3
      have h5 : partAt b j' = partAt b j := Classical.not_not.1 h5
      rw [← h5]
      exact h2 j' h4
    · exact h2 j (by omega)
  · rintro ⟨h1, h2⟩
    exact ⟨h1, fun j hj => h2 j (by omega)⟩
end Go.Proofs.Ytahnbliabllflaa
