/-
  Positions that jumps lead to: the plain law of the search.
-/
import Derived.Test.YtncdcgaaeclhiaaP2
import Derived.Test.YtncdcgaaeclhiaaN1
import Derived.Test.YtncdcgaaeclhiaaGc
namespace Go.Proofs.Ytncdcgaaeclhiaa
open Go.PL
set_option linter.unusedSimpArgs false
def able (bk : Bool) (q : Nat) (l : Ln) : Bool := if bk = true then canU (q : Int) l else canJ (q : Int) l
inductive Rch (b : Brd) (bk : Bool) (p : Nat) : Nat → Prop where
  | refl : Rch b bk p p
  | step (q : Nat) (l : Ln) : Rch b bk p q → l ∈ linesOf b → able bk q l = true → Rch b bk p (q ^^^ bitsL l)
def boardN (b : Brd) : Nat := 2 ^ (b.w * b.h).toNat
noncomputable def seenL (b : Brd) (bk : Bool) (p : Nat) : List Bool := by
  classical exact (List.range (boardN b)).map fun q => decide (Rch b bk p q)
theorem seenL_len {b : Brd} {bk : Bool} {p : Nat} : (seenL b bk p).length = boardN b := by simp [seenL]
theorem seenL_get {b : Brd} {bk : Bool} {p q : Nat} : (seenL b bk p)[q]? = some true ↔ q < boardN b ∧ Rch b bk p q := by
  unfold seenL
  rw [List.getElem?_map]
  by_cases h : q < boardN b
  · rw [List.getElem?_range h]; simp [h]
  · rw [List.getElem?_eq_none (by simpa using h)]; simp [h]
theorem board_le {b : Brd} (hs : isSmall b = true) : boardN b ≤ 65536 ∧ 1 ≤ boardN b := by
  simp only [isSmall, Bool.and_eq_true, decide_eq_true_eq] at hs
  have h1 : 2 ^ (b.w * b.h).toNat ≤ 2 ^ 16 := Nat.pow_le_pow_right (by omega) (by omega)
  have h2 : 0 < 2 ^ (b.w * b.h).toNat := Nat.pow_pos (by omega)
  unfold boardN; omega
theorem n_lt {b : Brd} (hb : boardOk b = true) : b.n.toNat < boardN b := by
  have n1 := (bok hb).n1
  have n2 := (bok hb).n2
  have e : ((2 ^ (b.w * b.h).toNat : Nat) : Int) = (2 : Int) ^ (b.w * b.h).toNat := by simp
  unfold boardN
  omega
/-- the pegs lie in holes, bit by bit -/
def Sub (b : Brd) (q : Nat) : Prop := ∀ j, q.testBit j = true → b.n.toNat.testBit j = true
theorem sub_and {b : Brd} {q : Nat} (h : Sub b q) : q &&& b.n.toNat = q := by
  apply Nat.eq_of_testBit_eq
  intro j
  rw [Nat.testBit_and]
  cases hq : q.testBit j with
  | false => rfl
  | true => rw [h j hq]; rfl
theorem sub_lt {b : Brd} (hb : boardOk b = true) {q : Nat} (h : Sub b q) : q < boardN b := by
  have h1 := n_lt hb
  have h2 : q &&& b.n.toNat ≤ b.n.toNat := Nat.and_le_right
  rw [sub_and h] at h2
  omega
theorem pos_sub {b : Brd} {p : Int} (h : positionOk b p = true) : boardOk b = true ∧ 0 ≤ p ∧ Sub b p.toNat := by
  simp only [positionOk, sub, Bool.and_eq_true, decide_eq_true_eq] at h
  refine ⟨h.1, h.2.1, fun j hj => ?_⟩
  have e : p.toNat &&& b.n.toNat = p.toNat := by omega
  rw [← e, Nat.testBit_and, Bool.and_eq_true] at hj
  exact hj.2
theorem sub_pos {b : Brd} {q : Nat} (hb : boardOk b = true) (h : Sub b q) : positionOk b (q : Int) = true := by
  simp [positionOk, hb, sub, sub_and h]
theorem line_bits {b : Brd} {l : Ln} (h : l ∈ linesOf b) (j : Nat) (hj : (bitsL l).testBit j = true) : b.n.toNat.testBit j = true := by
  obtain ⟨hb, h1, h2, h3⟩ := mem_lines h
  have n1 := (bok hb).n1
  have key : ∀ k : Int, hasHole b k = true → b.n.toNat.testBit k.toNat = true := fun k hk => by
    have k0 := (hole_bd hk).2.1
    simp only [hasHole, Bool.and_eq_true] at hk
    rw [← bitAt_toNat (by omega) k0]
    exact hk.2
  simp only [bitsL, Nat.testBit_or, Nat.testBit_two_pow, Bool.or_eq_true, decide_eq_true_eq] at hj
  rcases hj with (hj | hj) | hj
  · rw [← hj]; exact key _ h1
  · rw [← hj]; exact key _ h2
  · rw [← hj]; exact key _ h3
theorem rch_sub {b : Brd} {bk : Bool} {p q : Nat} (hp : Sub b p) (h : Rch b bk p q) : Sub b q := by
  induction h with
  | refl => exact hp
  | step q l _ hl _ ih =>
    intro j hj
    rw [Nat.testBit_xor] at hj
    cases hq : q.testBit j with
    | true => exact ih j hq
    | false =>
      rw [hq] at hj
      exact line_bits hl j (by simpa using hj)
structure Spr (b : Brd) (bk : Bool) (p : Nat) (S : List Bool) (td : List Nat) (k : Nat) : Prop where
  len : S.length = boardN b
  cnt : td.length = S.count true
  mem : ∀ q ∈ td, q < boardN b ∧ S[q]? = some true ∧ Rch b bk p q
  all : ∀ q : Nat, S[q]? = some true → q ∈ td
  st : S[p]? = some true
  le : k ≤ td.length
  done : ∀ q ∈ td.take k, ∀ l ∈ linesOf b, able bk q l = true → S[q ^^^ bitsL l]? = some true
theorem set_true {S : List Bool} {q j : Nat} (hq : q < S.length) : (S.set q true)[j]? = some true ↔ (j = q ∨ S[j]? = some true) := by
  by_cases h : q = j
  · subst h; simp [hq]
  · have h' : ¬ j = q := fun e => h e.symm
    simp [List.getElem?_set_ne h, h']
theorem spr_start {b : Brd} {bk : Bool} {p : Nat} (hb : boardOk b = true) (hp : Sub b p) : Spr b bk p ((List.replicate (boardN b) false).set p true) [p] 0 := by
  have hlt := sub_lt hb hp
  have hset : ∀ j, ((List.replicate (boardN b) false).set p true)[j]? = some true ↔ j = p := fun j => by
    rw [set_true (by simpa using hlt)]
    constructor
    · rintro (h | h)
      · exact h
      · rw [List.getElem?_replicate] at h
        split at h <;> simp at h
    · exact .inl
  refine ⟨by simp, ?_, fun q hq => ?_, fun q hq => ?_, (hset p).2 rfl, by simp, by simp⟩
  · rw [List.count_set (by simpa using hlt)]
    simp [List.count_replicate]
  · simp only [List.mem_singleton] at hq
    subst hq
    exact ⟨hlt, (hset q).2 rfl, .refl⟩
  · simp [(hset q).1 hq]
theorem spr_add {b : Brd} {bk : Bool} {p : Nat} (hb : boardOk b = true) (hp : Sub b p) {S : List Bool} {td : List Nat} {k : Nat} (h : Spr b bk p S td k) {q : Nat} (hq : q ∈ td) {l : Ln} (hl : l ∈ linesOf b) (ha : able bk q l = true) (hn : S[q ^^^ bitsL l]? = some false) :
    Spr b bk p (S.set (q ^^^ bitsL l) true) (td ++ [q ^^^ bitsL l]) k := by
  have hr : Rch b bk p (q ^^^ bitsL l) := .step q l (h.mem q hq).2.2 hl ha
  have hlt := sub_lt hb (rch_sub hp hr)
  have hlt' : q ^^^ bitsL l < S.length := by rw [h.len]; exact hlt
  refine ⟨by simp [h.len], ?_, fun x hx => ?_, fun x hx => ?_, (set_true hlt').2 (.inr h.st), by have := h.le; simp; omega, fun x hx l' hl' ha' => ?_⟩
  · rw [List.length_append, h.cnt, List.count_set hlt']
    have e : S[q ^^^ bitsL l] = false := by
      rw [List.getElem?_eq_getElem hlt'] at hn
      exact Option.some.inj hn
    simp [e]
  · rcases List.mem_append.1 hx with hx | hx
    · obtain ⟨a, c, d⟩ := h.mem x hx
      exact ⟨a, (set_true hlt').2 (.inr c), d⟩
    · simp only [List.mem_singleton] at hx
      subst hx
      exact ⟨hlt, (set_true hlt').2 (.inl rfl), hr⟩
  · rcases (set_true hlt').1 hx with rfl | hx
    · simp
    · exact List.mem_append_left _ (h.all x hx)
  · rw [List.take_append_of_le_length h.le] at hx
    exact (set_true hlt').2 (.inr (h.done x hx l' hl' ha'))
theorem spr_next {b : Brd} {bk : Bool} {p : Nat} {S : List Bool} {td : List Nat} {k : Nat} (h : Spr b bk p S td k) (hk : k < td.length) (hd : ∀ l ∈ linesOf b, able bk td[k] l = true → S[td[k] ^^^ bitsL l]? = some true) : Spr b bk p S td (k + 1) := by
  refine ⟨h.len, h.cnt, h.mem, h.all, h.st, by omega, fun q hq => ?_⟩
  rw [List.take_succ_eq_append_getElem hk] at hq
  rcases List.mem_append.1 hq with hq | hq
  · exact h.done q hq
  · simp only [List.mem_singleton] at hq
    subst hq
    exact hd
theorem spr_end {b : Brd} {bk : Bool} {p : Nat} {S : List Bool} {td : List Nat} (h : Spr b bk p S td td.length) : S = seenL b bk p := by
  have hd : ∀ q, Rch b bk p q → S[q]? = some true := by
    intro q hq
    induction hq with
    | refl => exact h.st
    | step q l _ hl ha ih => exact h.done q (by rw [List.take_length]; exact h.all q ih) l hl ha
  apply List.ext_getElem?
  intro j
  by_cases hj : j < boardN b
  · have e1 : S[j]? = some (S[j]'(by rw [h.len]; exact hj)) := List.getElem?_eq_getElem _
    have e2 : (seenL b bk p)[j]? = some ((seenL b bk p)[j]'(by rw [seenL_len]; exact hj)) := List.getElem?_eq_getElem _
    have i1 : S[j]? = some true ↔ Rch b bk p j := ⟨fun h' => (h.mem j (h.all j h')).2.2, hd j⟩
    have i2 : (seenL b bk p)[j]? = some true ↔ Rch b bk p j := by rw [seenL_get]; simp [hj]
    rw [e1] at i1 ⊢
    rw [e2] at i2 ⊢
    congr 1
    rw [Bool.eq_iff_iff]
    simp only [Option.some.injEq] at i1 i2
    rw [i1, i2]
  · rw [List.getElem?_eq_none (by rw [h.len]; omega), List.getElem?_eq_none (by rw [seenL_len]; omega)]
theorem spr_len {b : Brd} {bk : Bool} {p : Nat} {S : List Bool} {td : List Nat} {k : Nat} (h : Spr b bk p S td k) : td.length ≤ boardN b := by
  rw [h.cnt, ← h.len]
  exact List.count_le_length
theorem spr_bd {b : Brd} {bk : Bool} {p : Nat} (hb : boardOk b = true) (hp : Sub b p) {S : List Bool} {td : List Nat} {k : Nat} (h : Spr b bk p S td k) {q : Nat} (hq : q ∈ td) {l : Ln} (hl : l ∈ linesOf b) (ha : able bk q l = true) :
    q ^^^ bitsL l < boardN b ∧ ∃ x, S[q ^^^ bitsL l]? = some x := by
  have hlt := sub_lt hb (rch_sub hp (.step q l (h.mem q hq).2.2 hl ha))
  exact ⟨hlt, _, List.getElem?_eq_getElem (by rw [h.len]; exact hlt)⟩
end Go.Proofs.Ytncdcgaaeclhiaa
