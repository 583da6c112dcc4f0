/-
  Spared pegs, tight positions, starts with the least pegs: what holds of them.
-/
import Derived.Test.YtahnbliabllflaaP2
import Derived.Test.YtahnbliabllflaaD5
namespace Go.Proofs.Ytahnbliabllflaa
open Go.PL
set_option linter.unusedSimpArgs false
theorem pegs_und {q : Nat} {l : Ln} (hl : LnIn l) (h0 : l.f ≠ l.o) (h1 : l.o ≠ l.t) (h2 : l.f ≠ l.t) (hc : canU (q : Int) l = true) : pegs (q ^^^ bitsL l) = pegs q + 1 := by
  have e := und_flip (p := (q : Int)) (by omega) hl h1 h2 hc
  rw [Int.toNat_natCast] at e
  rw [← e]
  obtain ⟨f0, f1, o0, o1, t0, t1⟩ := hl
  have n0 : ¬ l.f.toNat = l.o.toNat := fun e => h0 (toNat_inj f0 o0 e)
  have n1 : ¬ l.o.toNat = l.t.toNat := fun e => h1 (toNat_inj o0 t0 e)
  have n2 : ¬ l.f.toNat = l.t.toNat := fun e => h2 (toNat_inj f0 t0 e)
  simp only [canU, bitAt_int f0, bitAt_int o0, bitAt_int t0, Bool.and_eq_true, Bool.not_eq_true'] at hc
  obtain ⟨a, c, d⟩ := hc
  unfold pegs und
  rw [Int.toNat_natCast]
  have x1 : (ndiff q (2 ^ l.t.toNat)).testBit l.t.toNat = false := by simp [tb_ndiff, Nat.testBit_two_pow]
  have x2 : ndiff q (2 ^ l.t.toNat) ||| 2 ^ l.t.toNat = q := by
    apply Nat.eq_of_testBit_eq
    intro j
    simp only [Nat.testBit_or, tb_ndiff, Nat.testBit_two_pow]
    by_cases e : l.t.toNat = j
    · subst e; simp [d]
    · simp [e]
  have x3 : (ndiff q (2 ^ l.t.toNat)).testBit l.f.toNat = false := by simp [tb_ndiff, a]
  have x4 : (ndiff q (2 ^ l.t.toNat) ||| 2 ^ l.f.toNat).testBit l.o.toNat = false := by simp [tb_ndiff, Nat.testBit_or, Nat.testBit_two_pow, c, n0]
  have c1 := cardN_add x1 (n := 49)
  have c2 := cardN_add x3 (n := 49)
  have c3 := cardN_add x4 (n := 49)
  rw [x2] at c1
  rw [if_pos (by omega)] at c1 c2 c3
  omega
theorem rch_pegs {b : Brd} {g q : Nat} (h : Rch b true g q) : q = g ∨ pegs g + 1 ≤ pegs q := by
  induction h with
  | refl => exact .inl rfl
  | step q l hq hl ha ih =>
    obtain ⟨h0, h1, h2⟩ := line_ne hl
    have := pegs_und (lnIn hl) h0 h1 h2 (by simpa [able] using ha)
    rcases ih with rfl | ih
    · exact .inr (by omega)
    · exact .inr (by omega)
theorem rch_none {b : Brd} {g q : Nat} (hn : ∀ l ∈ linesOf b, ¬ able true g l = true) (h : Rch b true g q) : q = g := by
  induction h with
  | refl => rfl
  | step q l hq hl ha ih =>
    subst ih
    exact absurd ha (hn l hl)
def undosOf (b : Brd) (p : Int) : List Ln := if positionOk b p = true then (linesOf b).filter (canU p) else []
theorem undos_len {b : Brd} {p : Int} : (undosOf b p).length ≤ 196 := by
  have h1 := linesOf_len (b := b)
  unfold undosOf
  split
  · have := List.length_filter_le (canU p) (linesOf b)
    omega
  · simp
theorem listS_mem {S : List Bool} {q : Nat} (h : hasS S (q : Int) = true) : q ∈ listS S := by
  simp only [hasS, Bool.and_eq_true, Int.toNat_natCast] at h
  have hlt : q < S.length := by
    apply Classical.byContradiction
    intro hc
    rw [List.getElem?_eq_none (by omega)] at h
    simp at h
  unfold listS listN
  exact List.mem_filter.2 ⟨List.mem_range.2 hlt, h.2⟩
def LeastP (g r : Int) (l : List Nat) : Prop := (r = -1 ∧ ∀ q ∈ l, (q : Int) = g) ∨ ∃ q ∈ l, (q : Int) ≠ g ∧ r = pegs q ∧ ∀ q' ∈ l, (q' : Int) ≠ g → r ≤ pegs q'
theorem least_at {g : Int} {l : List Nat} : ∀ i, i ≤ l.length → LeastP g (leastN g l i) (l.take i)
  | 0, _ => .inl ⟨rfl, by simp⟩
  | i + 1, h => by
    have ih := least_at (g := g) (l := l) i (by omega)
    rw [leastN_step (by omega), List.take_succ_eq_append_getElem (by omega)]
    generalize leastN g l i = r at ih
    generalize l[i] = x
    generalize l.take i = m at ih
    unfold leastF
    by_cases hx : (x : Int) ≠ g ∧ (r < 0 ∨ (pegs x : Int) < r)
    · rw [if_pos hx]
      refine .inr ⟨x, by simp, hx.1, rfl, fun q' hq' hne => ?_⟩
      rcases List.mem_append.1 hq' with hq' | hq'
      · rcases ih with ⟨_, h2⟩ | ⟨q, _, _, h3, h4⟩
        · exact absurd (h2 q' hq') hne
        · have := h4 q' hq' hne
          omega
      · simp only [List.mem_singleton] at hq'
        subst hq'; exact Int.le_refl _
    · rw [if_neg hx]
      rcases ih with ⟨h1, h2⟩ | ⟨q, h1, h2, h3, h4⟩
      · refine .inl ⟨h1, fun q' hq' => ?_⟩
        rcases List.mem_append.1 hq' with hq' | hq'
        · exact h2 q' hq'
        · simp only [List.mem_singleton] at hq'
          subst hq'
          apply Classical.byContradiction
          intro hne
          exact hx ⟨hne, .inl (by omega)⟩
      · refine .inr ⟨q, by simp [h1], h2, h3, fun q' hq' hne => ?_⟩
        rcases List.mem_append.1 hq' with hq' | hq'
        · exact h4 q' hq' hne
        · simp only [List.mem_singleton] at hq'
          subst hq'
          have : ¬ (pegs q' : Int) < r := fun hlt => hx ⟨hne, .inr hlt⟩
          omega
theorem back_rch {b : Brd} {g : Int} {q : Nat} (h : q ∈ backOf b g) : Rch b true g.toNat q := by
  have := (has_spread.1 (mem_listS h)).2.2.2
  rwa [Int.toNat_natCast] at this
theorem undo_back {b : Brd} {g : Int} (hs : isSmall b = true) (hg : positionOk b g = true) {l : Ln} (hl : l ∈ undosOf b g) : g.toNat ^^^ bitsL l ∈ backOf b g ∧ pegs (g.toNat ^^^ bitsL l) = pegs g.toNat + 1 := by
  obtain ⟨hb, g0, hsub⟩ := pos_sub hg
  simp only [undosOf, hg, if_true] at hl
  obtain ⟨hm, hc⟩ := List.mem_filter.1 hl
  have eg : (g.toNat : Int) = g := Int.toNat_of_nonneg g0
  have ha : able true g.toNat l = true := by simp only [able, if_true, eg]; exact hc
  have hr : Rch b true g.toNat (g.toNat ^^^ bitsL l) := .step _ l .refl hm ha
  obtain ⟨h0, h1, h2⟩ := line_ne hm
  refine ⟨listS_mem (has_spread.2 ⟨hs, hg, sub_pos hb (rch_sub hsub hr), by rw [Int.toNat_natCast]; exact hr⟩), pegs_und (lnIn hm) h0 h1 h2 (by rw [eg]; exact hc)⟩
theorem least_law {b : Brd} {g : Int} (hs : isSmall b = true) (hg : positionOk b g = true) : (leastStart b g = -1 ∧ (undosOf b g).length = 0) ∨ (leastStart b g = pegs g.toNat + 1 ∧ 0 < (undosOf b g).length) := by
  obtain ⟨hb, g0, hsub⟩ := pos_sub hg
  have eg : (g.toNat : Int) = g := Int.toNat_of_nonneg g0
  have h := least_at (g := g) (l := backOf b g) (backOf b g).length (Nat.le_refl _)
  rw [List.take_length] at h
  change LeastP g (leastStart b g) (backOf b g) at h
  rcases h with ⟨h1, h2⟩ | ⟨q, h1, h2, h3, h4⟩
  · refine .inl ⟨h1, ?_⟩
    cases hu : undosOf b g with
    | nil => rfl
    | cons l r =>
      obtain ⟨m1, m2⟩ := undo_back hs hg (l := l) (by rw [hu]; simp)
      have := h2 _ m1
      have e : g.toNat ^^^ bitsL l = g.toNat := by omega
      rw [e] at m2; omega
  · have hr := back_rch h1
    have hge : pegs g.toNat + 1 ≤ pegs q := (rch_pegs hr).resolve_left (by omega)
    cases hu : undosOf b g with
    | nil =>
      have := rch_none (fun l hl ha => by
        have : l ∈ undosOf b g := by
          simp only [undosOf, hg, if_true]
          refine List.mem_filter.2 ⟨hl, ?_⟩
          simp only [able, if_true, eg] at ha
          exact ha
        rw [hu] at this; simp at this) hr
      omega
    | cons l r =>
      obtain ⟨m1, m2⟩ := undo_back hs hg (l := l) (by rw [hu]; simp)
      have hne : ((g.toNat ^^^ bitsL l : Nat) : Int) ≠ g := fun e => by
        have e : g.toNat ^^^ bitsL l = g.toNat := by omega
        rw [e] at m2; omega
      have := h4 _ m1 hne
      exact .inr ⟨by omega, by simp⟩
theorem tight_ok {b : Brd} {S : List Bool} : ∀ (n p : Nat), p ≤ n → hasS S (p : Int) = true → hasS S (tight b S p : Int) = true ∧ spares b S (tight b S p : Int) = [] ∧ ∀ j, (tight b S p).testBit j = true → p.testBit j = true
  | n, p, hn, h => by
    cases hs : spares b S (p : Int) with
    | nil => rw [tight_nil hs]; exact ⟨h, hs, fun _ hj => hj⟩
    | cons k r =>
      obtain ⟨k0, k1, hb, hle, hlt, hnd, hh⟩ := spare_at (b := b) (S := S) (p := p) (k := k) (by rw [hs]; simp)
      rw [tight_cons hs hlt]
      cases n with
      | zero => omega
      | succ n =>
        obtain ⟨h1, h2, h3⟩ := tight_ok n (p - 2 ^ k.toNat) (by omega) hh
        refine ⟨h1, h2, fun j hj => ?_⟩
        have := h3 j hj
        rw [← hnd, tb_ndiff, Bool.and_eq_true] at this
        exact this.1
def hasPeg (b : Brd) (p k : Int) : Bool := positionOk b p && (hasHole b k && bitAt p k)
/-- what the law says of spared pegs -/
structure SpareOk (b : Brd) (p g : Int) : Prop where
  peg : ∀ k ∈ sparePegs b p g, 0 ≤ k ∧ k ≤ 48 ∧ hasPeg b p k = true ∧ 2 ^ k.toNat ≤ p ∧ canReach b (p - 2 ^ k.toNat) g = true
  no : canReach b p g = false → sparePegs b p g = []
  t1 : canReach b p g = true → isTight b (tightI b p g) g = true
  t2 : canReach b p g = true → ((tightI b p g).toNat &&& p.toNat : Nat) = tightI b p g
  t3 : canReach b p g = true → canReach b (tightI b p g) g = true
  t4 : canReach b p g = true → isTight b p g = decide ((sparePegs b p g).length = 0)
  t5 : 0 ≤ tightI b p g ∧ tightI b p g ≤ p
theorem spare_ok {b : Brd} {p g : Int} (hp : positionOk b p = true) : SpareOk b p g := by
  obtain ⟨hb, p0, hsub⟩ := pos_sub hp
  have ep : (p.toNat : Int) = p := Int.toNat_of_nonneg p0
  by_cases hc : canReach b p g = true
  · have hh := hc
    rw [canReach_back] at hh
    have hh' : hasS (spreadL b true g) (p.toNat : Int) = true := by rw [ep]; exact hh
    obtain ⟨h1, h2, h3⟩ := tight_ok (b := b) p.toNat p.toNat (Nat.le_refl _) hh'
    have et : tightI b p g = (tight b (spreadL b true g) p.toNat : Nat) := by simp [tightI, hc]
    have es : sparePegs b p g = spares b (spreadL b true g) p := by simp [sparePegs, hc]
    have ea : tight b (spreadL b true g) p.toNat &&& p.toNat = tight b (spreadL b true g) p.toNat := by
      apply Nat.eq_of_testBit_eq
      intro j
      rw [Nat.testBit_and]
      cases hj : (tight b (spreadL b true g) p.toNat).testBit j with
      | false => rfl
      | true => rw [h3 j hj]; rfl
    refine ⟨fun k hk => ?_, fun h => (by rw [hc] at h; cases h), fun _ => ?_, fun _ => ?_, fun _ => ?_, fun _ => ?_, ?_⟩
    · rw [es] at hk
      have hk' : k ∈ spares b (spreadL b true g) (p.toNat : Int) := by rw [ep]; exact hk
      obtain ⟨k0, k1, hbt, hle, hlt, hnd, hhs⟩ := spare_at hk'
      have hm := mem_holes (List.mem_filter.1 hk).1
      have e2 : ((2 ^ k.toNat : Nat) : Int) = (2 : Int) ^ k.toNat := by simp
      have e3 : ((p.toNat - 2 ^ k.toNat : Nat) : Int) = p - 2 ^ k.toNat := by omega
      rw [e3] at hhs
      refine ⟨k0, k1, ?_, by omega, by rw [canReach_back]; exact hhs⟩
      simp only [hasPeg, hp, hm.2.1, Bool.true_and]
      rw [bitAt_toNat p0 k0]; exact hbt
    · rw [et]; simp [isTight, h1, h2]
    · rw [et, Int.toNat_natCast, ea]
    · rw [et, canReach_back]; exact h1
    · simp [isTight, hh, es]
    · rw [et]
      have : tight b (spreadL b true g) p.toNat ≤ p.toNat := by rw [← ea]; exact Nat.and_le_right
      omega
  · have es : sparePegs b p g = [] := by simp [sparePegs, hc]
    have et : tightI b p g = p := by simp [tightI, hc]
    exact ⟨fun k hk => by rw [es] at hk; simp at hk, fun _ => es, fun h => absurd h hc, fun h => absurd h hc, fun h => absurd h hc, fun h => absurd h hc, by rw [et]; omega⟩
theorem rect32_pos : positionOk (rect 3 2) 1 = true := by decide
theorem rect32_small : isSmall (rect 3 2) = true := by decide
theorem rect32_tight : 1 ≤ countTight (rect 3 2) 1 ∧ countTight (rect 3 2) 1 ≤ (backOf (rect 3 2) 1).length := by
  have hl : (holesOf (rect 3 2)).length ≤ 9 := by decide +kernel
  have e : countTight (rect 3 2) 1 = ((backOf (rect 3 2) 1).filter (noSpare (rect 3 2) (spreadL (rect 3 2) true 1))).length := by
    unfold countTight
    rw [if_pos ⟨rect32_small, rect32_pos, hl⟩]
  rw [e]
  have hle := List.length_filter_le (noSpare (rect 3 2) (spreadL (rect 3 2) true 1)) (backOf (rect 3 2) 1)
  refine ⟨?_, by omega⟩
  have hm : 1 ∈ (backOf (rect 3 2) 1).filter (noSpare (rect 3 2) (spreadL (rect 3 2) true 1)) := by
    refine List.mem_filter.2 ⟨listS_mem (has_spread.2 ⟨rect32_small, rect32_pos, rect32_pos, .refl⟩), ?_⟩
    have hn : spares (rect 3 2) (spreadL (rect 3 2) true 1) ((1 : Nat) : Int) = [] := by
      cases hs : spares (rect 3 2) (spreadL (rect 3 2) true 1) ((1 : Nat) : Int) with
      | nil => rfl
      | cons k r =>
        obtain ⟨k0, k1, hb, hle, hlt, hnd, hh⟩ := spare_at (b := rect 3 2) (S := spreadL (rect 3 2) true 1) (p := 1) (k := k) (by rw [hs]; simp)
        have e0 : 1 - 2 ^ k.toNat = 0 := by omega
        rw [e0] at hh
        have hr := (has_spread.1 hh).2.2.2
        rcases rch_pegs hr with h | h
        · cases h
        · have hq : ¬ (pegs (Int.toNat 1) + 1 ≤ pegs (Int.toNat ((0 : Nat) : Int))) := by decide +kernel
          exact absurd h hq
    unfold noSpare
    rw [hn]
    rfl
  have := List.length_pos_of_mem hm
  omega
end Go.Proofs.Ytahnbliabllflaa
