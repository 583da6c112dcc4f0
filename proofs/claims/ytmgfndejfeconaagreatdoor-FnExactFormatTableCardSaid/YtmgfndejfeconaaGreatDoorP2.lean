/-
  What the functions compute that make a jump and undo one.
  Positions that jumps lead to: the plain law of the search.
-/
import Derived.Test.YtmgfndejfeconaaGreatDoorP1
import Derived.Test.YtmgfndejfeconaaGreatDoorL6
import Derived.Test.YtmgfndejfeconaaGreatDoorN1
import Derived.Test.YtmgfndejfeconaaGreatDoorGa
namespace Go.Proofs.YtmgfndejfeconaaGreatDoor
open Go.PL
set_option linter.unusedSimpArgs false
structure LnIn (l : Ln) : Prop where
  f0 : 0 ≤ l.f
  f1 : l.f ≤ 48
  o0 : 0 ≤ l.o
  o1 : l.o ≤ 48
  t0 : 0 ≤ l.t
  t1 : l.t ≤ 48
theorem lnIn {b : Brd} {l : Ln} (h : l ∈ linesOf b) : LnIn l := by
  obtain ⟨_, h1, h2, h3⟩ := mem_lines h
  have a := hole_bd h1
  have c := hole_bd h2
  have d := hole_bd h3
  exact ⟨a.2.1, a.2.2, c.2.1, c.2.2, d.2.1, d.2.2⟩
def canJ (p : Int) (l : Ln) : Bool := bitAt p l.f && (bitAt p l.o && !bitAt p l.t)
def canU (p : Int) (l : Ln) : Bool := !bitAt p l.f && (!bitAt p l.o && bitAt p l.t)
/-- the three holes of a line, as a set -/
def bitsL (l : Ln) : Nat := 2 ^ l.f.toNat ||| 2 ^ l.o.toNat ||| 2 ^ l.t.toNat
def flip (p : Int) (l : Ln) : Int := ((p.toNat ^^^ bitsL l : Nat) : Int)
def jmp (p : Int) (l : Ln) : Nat := ndiff (ndiff p.toNat (2 ^ l.f.toNat)) (2 ^ l.o.toNat) ||| 2 ^ l.t.toNat
def und (p : Int) (l : Ln) : Nat := ndiff p.toNat (2 ^ l.t.toNat) ||| 2 ^ l.f.toNat ||| 2 ^ l.o.toNat
theorem tb_ndiff {a b j : Nat} : (ndiff a b).testBit j = (a.testBit j && !b.testBit j) := by
  unfold ndiff
  rw [Nat.testBit_xor, Nat.testBit_and]
  cases a.testBit j <;> cases b.testBit j <;> rfl
theorem bitAt_toNat {p k : Int} (hp : 0 ≤ p) (hk : 0 ≤ k) : bitAt p k = p.toNat.testBit k.toNat := by
  conv => lhs; rw [← Int.toNat_of_nonneg hp]
  exact bitAt_int hk
theorem toNat_inj {a b : Int} (ha : 0 ≤ a) (hb : 0 ≤ b) (h : a.toNat = b.toNat) : a = b := by omega
theorem can_and {p : Int} {l : Ln} (hp : 0 ≤ p) (hl : LnIn l) (h1 : l.o ≠ l.t) (h2 : l.f ≠ l.t) : (p.toNat &&& bitsL l = 2 ^ l.f.toNat ||| 2 ^ l.o.toNat) ↔ canJ p l = true := by
  obtain ⟨f0, f1, o0, o1, t0, t1⟩ := hl
  have n1 : l.o.toNat ≠ l.t.toNat := fun e => h1 (toNat_inj o0 t0 e)
  have n2 : l.f.toNat ≠ l.t.toNat := fun e => h2 (toNat_inj f0 t0 e)
  simp only [canJ, bitAt_toNat hp f0, bitAt_toNat hp o0, bitAt_toNat hp t0, Bool.and_eq_true, Bool.not_eq_true']
  constructor
  · intro h
    have hj : ∀ j, (p.toNat &&& bitsL l).testBit j = (2 ^ l.f.toNat ||| 2 ^ l.o.toNat).testBit j := fun j => by rw [h]
    have a := hj l.f.toNat
    have c := hj l.o.toNat
    have d := hj l.t.toNat
    simp only [bitsL, Nat.testBit_and, Nat.testBit_or, Nat.testBit_two_pow] at a c d
    simp [n1, n2] at a c d
    exact ⟨a, c, d⟩
  · rintro ⟨a, c, d⟩
    apply Nat.eq_of_testBit_eq
    intro j
    simp only [bitsL, Nat.testBit_and, Nat.testBit_or, Nat.testBit_two_pow]
    by_cases e1 : l.f.toNat = j
    · subst e1; simp [a]
    · by_cases e2 : l.o.toNat = j
      · subst e2; simp [c]
      · by_cases e3 : l.t.toNat = j
        · subst e3; simp [d, n1, n2]
        · simp [e1, e2, e3]
theorem jmp_flip {p : Int} {l : Ln} (hp : 0 ≤ p) (hl : LnIn l) (h1 : l.o ≠ l.t) (h2 : l.f ≠ l.t) (hc : canJ p l = true) : jmp p l = p.toNat ^^^ bitsL l := by
  obtain ⟨f0, f1, o0, o1, t0, t1⟩ := hl
  have n1 : ¬ l.o.toNat = l.t.toNat := fun e => h1 (toNat_inj o0 t0 e)
  have n2 : ¬ l.f.toNat = l.t.toNat := fun e => h2 (toNat_inj f0 t0 e)
  simp only [canJ, bitAt_toNat hp f0, bitAt_toNat hp o0, bitAt_toNat hp t0, Bool.and_eq_true, Bool.not_eq_true'] at hc
  obtain ⟨a, c, d⟩ := hc
  apply Nat.eq_of_testBit_eq
  intro j
  simp only [jmp, bitsL, tb_ndiff, Nat.testBit_xor, Nat.testBit_or, Nat.testBit_two_pow]
  by_cases e1 : l.f.toNat = j
  · subst e1; simp [a, Ne.symm n2]
  · by_cases e2 : l.o.toNat = j
    · subst e2; simp [c, Ne.symm n1]
    · by_cases e3 : l.t.toNat = j
      · subst e3; simp [d]
      · simp [e1, e2, e3]
theorem pow48 {k : Int} (h0 : 0 ≤ k) (h1 : k ≤ 48) : 1 ≤ (2 : Nat) ^ k.toNat ∧ (2 : Nat) ^ k.toNat ≤ 281474976710656 := by
  have h1 : (2 : Nat) ^ k.toNat ≤ 2 ^ 48 := Nat.pow_le_pow_right (by omega) (by omega)
  have h2 : 0 < (2 : Nat) ^ k.toNat := Nat.pow_pos (by omega)
  omega
theorem or63 {a c : Nat} (h1 : a ≤ 9223372036854775807) (h2 : c ≤ 9223372036854775807) : a ||| c ≤ 9223372036854775807 := by
  have := Nat.or_lt_two_pow (n := 63) (x := a) (y := c) (by omega) (by omega)
  omega
theorem xor63 {a c : Nat} (h1 : a ≤ 9223372036854775807) (h2 : c ≤ 9223372036854775807) : a ^^^ c ≤ 9223372036854775807 := by
  have := Nat.xor_lt_two_pow (n := 63) (x := a) (y := c) (by omega) (by omega)
  omega
@[go_sem] theorem powI {n : Nat} : (1 : Int) * 2 ^ n = ((2 ^ n : Nat) : Int) := by simp
theorem bitsL_le {l : Ln} (hl : LnIn l) : bitsL l ≤ 562949953421311 := by
  obtain ⟨f0, f1, o0, o1, t0, t1⟩ := hl
  have h : bitsL l < 2 ^ 49 := Nat.or_lt_two_pow (Nat.or_lt_two_pow (Nat.pow_lt_pow_right (by omega) (by omega)) (Nat.pow_lt_pow_right (by omega) (by omega))) (Nat.pow_lt_pow_right (by omega) (by omega))
  omega
theorem l05Bits_c (l : Ln) (hl : LnIn l) : PC Tryz.prog 82 [] [.a (lineC l)] (vN (bitsL l : Nat)) ⟨[], []⟩ := by
  refine pc_of Tryz.func82 rfl (by kernel_rfl) _ Tryz.ntmps82 (by simp) ?_
  obtain ⟨f0, f1, o0, o1, t0, t1⟩ := hl
  have p1 := pow48 f0 f1
  have p2 := pow48 o0 o1
  have p3 := pow48 t0 t1
  have q1 := or63 (a := 2 ^ l.f.toNat) (c := 2 ^ l.o.toNat) (by omega) (by omega)
  have q2 := or63 (a := 2 ^ l.f.toNat ||| 2 ^ l.o.toNat) (c := 2 ^ l.t.toNat) q1 (by omega)
  simp -implicitDefEqProofs only [go_sem]
  refine draw_step Tryz.pl_follows (by kernel_rfl) ?_
  (repeat' (first | simp -implicitDefEqProofs only [go_sem] | (refine And.intro ?_ ?_; omega) | (refine And.intro (shr_bd ?_ ?_) ?_; omega; omega) | refine sl_list rfl ?_ | refine sd_list rfl ?_ | refine sl_str ?_ | refine sd_str ?_))
  exact fin_scal rfl rfl
def jumpI (p : Int) (l : Ln) : Int := if canJ p l = true then (jmp p l : Nat) else p
def undoI (p : Int) (l : Ln) : Int := if canU p l = true then (und p l : Nat) else p
theorem jumpFrom_c (p : Int) (l : Ln) (h0 : 0 ≤ p) (h1 : p ≤ 9223372036854775807) (hl : LnIn l) : PC Tryz.prog 85 [] [.c (.v (.int .i64 p)), .a (lineC l)] (.t [.c (.v (.int .i64 (jumpI p l))), .c (.v (.bool (canJ p l)))]) ⟨[], []⟩ := by
  refine pc_of Tryz.func85 rfl (by kernel_rfl) _ Tryz.ntmps85 (by simp) ?_
  obtain ⟨f0, f1, o0, o1, t0, t1⟩ := hl
  have p1 := pow48 f0 f1
  have p2 := pow48 o0 o1
  have p3 := pow48 t0 t1
  have n1 := ndiff_le p.toNat (2 ^ l.f.toNat)
  have n2 := ndiff_le (ndiff p.toNat (2 ^ l.f.toNat)) (2 ^ l.o.toNat)
  have q1 := or63 (a := ndiff (ndiff p.toNat (2 ^ l.f.toNat)) (2 ^ l.o.toNat)) (c := 2 ^ l.t.toNat) (by omega) (by omega)
  (repeat' (first | simp -implicitDefEqProofs only [go_sem] | (refine And.intro ?_ ?_; omega) | (refine And.intro (shr_bd ?_ ?_) ?_; omega; omega) | refine sl_list rfl ?_ | refine sd_list rfl ?_ | refine sl_str ?_ | refine sd_str ?_))
  refine callS (hasBit_c p l.f h0 h1 f0 (by omega)) rfl rfl rfl ?_
  by_cases a : bitAt p l.f = true
  · (repeat' (first | simp -implicitDefEqProofs only [a, go_sem] | (refine And.intro ?_ ?_; omega) | (refine And.intro (shr_bd ?_ ?_) ?_; omega; omega) | refine sl_list rfl ?_ | refine sd_list rfl ?_ | refine sl_str ?_ | refine sd_str ?_))
    refine callS (hasBit_c p l.o h0 h1 o0 (by omega)) rfl rfl rfl ?_
    by_cases c : bitAt p l.o = true
    · (repeat' (first | simp -implicitDefEqProofs only [a, c, go_sem] | (refine And.intro ?_ ?_; omega) | (refine And.intro (shr_bd ?_ ?_) ?_; omega; omega) | refine sl_list rfl ?_ | refine sd_list rfl ?_ | refine sl_str ?_ | refine sd_str ?_))
      refine callS (hasBit_c p l.t h0 h1 t0 (by omega)) rfl rfl rfl ?_
      by_cases d : bitAt p l.t = true
      · have e : canJ p l = false := by simp [canJ, d]
        simp -implicitDefEqProofs only [a, c, d, go_sem]
        exact fin_scal rfl (by simp [jumpI, e])
      · have e : canJ p l = true := by simp [canJ, a, c, d]
        simp -implicitDefEqProofs only [a, c, d, go_sem]
        refine draw_step Tryz.pl_follows (by kernel_rfl) ?_
        (repeat' (first | simp -implicitDefEqProofs only [go_sem] | (refine And.intro ?_ ?_; omega) | (refine And.intro (shr_bd ?_ ?_) ?_; omega; omega) | refine sl_list rfl ?_ | refine sd_list rfl ?_ | refine sl_str ?_ | refine sd_str ?_))
        exact fin_scal rfl (by simp [jumpI, e, jmp])
    · have e : canJ p l = false := by simp [canJ, c]
      simp -implicitDefEqProofs only [a, c, go_sem]
      exact fin_scal rfl (by simp [jumpI, e])
  · have e : canJ p l = false := by simp [canJ, a]
    simp -implicitDefEqProofs only [a, go_sem]
    exact fin_scal rfl (by simp [jumpI, e])
end Go.Proofs.YtmgfndejfeconaaGreatDoor
namespace Go.Proofs.YtmgfndejfeconaaGreatDoor
open Go.PL
set_option linter.unusedSimpArgs false
def able (bk : Bool) (q : Nat) (l : Ln) : Bool := if bk = true then canU (q : Int) l else canJ (q : Int) l
inductive Rch (b : Brd) (bk : Bool) (p : Nat) : Nat → Prop where
  | refl : Rch b bk p p
  | step (q : Nat) (l : Ln) : Rch b bk p q → l ∈ linesOf b → able bk q l = true → Rch b bk p (q ^^^ bitsL l)
def boardN (b : Brd) : Nat := 2 ^ (b.w * b.h).toNat
noncomputable def seenL (b : Brd) (bk : Bool) (p : Nat) : List Bool := by
  classical exact (List.range (boardN b)).map fun q => decide (Rch b bk p q)
/-- the pegs lie in holes, bit by bit -/
def Sub (b : Brd) (q : Nat) : Prop := ∀ j, q.testBit j = true → b.n.toNat.testBit j = true
theorem sub_and {b : Brd} {q : Nat} (h : Sub b q) : q &&& b.n.toNat = q := by
  apply Nat.eq_of_testBit_eq
  intro j
  rw [Nat.testBit_and]
  cases hq : q.testBit j with
  | false => rfl
  | true => rw [h j hq]; rfl
theorem pos_sub {b : Brd} {p : Int} (h : positionOk b p = true) : boardOk b = true ∧ 0 ≤ p ∧ Sub b p.toNat := by
  simp only [positionOk, sub, Bool.and_eq_true, decide_eq_true_eq] at h
  refine ⟨h.1, h.2.1, fun j hj => ?_⟩
  have e : p.toNat &&& b.n.toNat = p.toNat := by omega
  rw [← e, Nat.testBit_and, Bool.and_eq_true] at hj
  exact hj.2
theorem sub_pos {b : Brd} {q : Nat} (hb : boardOk b = true) (h : Sub b q) : positionOk b (q : Int) = true := by
  simp [positionOk, hb, sub, sub_and h]
theorem line_bits {b : Brd} {l : Ln} (h : l ∈ linesOf b) (j : Nat) (hj : (bitsL l).testBit j = true) : b.n.toNat.testBit j = true := by
  obtain ⟨hb, h1, h2, h3⟩ := mem_lines h
  have n1 := (bok hb).n1
  have key : ∀ k : Int, hasHole b k = true → b.n.toNat.testBit k.toNat = true := fun k hk => by
    have k0 := (hole_bd hk).2.1
    simp only [hasHole, Bool.and_eq_true] at hk
    rw [← bitAt_toNat (by omega) k0]
    exact hk.2
  simp only [bitsL, Nat.testBit_or, Nat.testBit_two_pow, Bool.or_eq_true, decide_eq_true_eq] at hj
  rcases hj with (hj | hj) | hj
  · rw [← hj]; exact key _ h1
  · rw [← hj]; exact key _ h2
  · rw [← hj]; exact key _ h3
theorem rch_sub {b : Brd} {bk : Bool} {p q : Nat} (hp : Sub b p) (h : Rch b bk p q) : Sub b q := by
  induction h with
  | refl => exact hp
  | step q l _ hl _ ih =>
    intro j hj
    rw [Nat.testBit_xor] at hj
    cases hq : q.testBit j with
    | true => exact ih j hq
    | false =>
      rw [hq] at hj
      exact line_bits hl j (by simpa using hj)
structure Spr (b : Brd) (bk : Bool) (p : Nat) (S : List Bool) (td : List Nat) (k : Nat) : Prop where
  len : S.length = boardN b
  cnt : td.length = S.count true
  mem : ∀ q ∈ td, q < boardN b ∧ S[q]? = some true ∧ Rch b bk p q
  all : ∀ q : Nat, S[q]? = some true → q ∈ td
  st : S[p]? = some true
  le : k ≤ td.length
  done : ∀ q ∈ td.take k, ∀ l ∈ linesOf b, able bk q l = true → S[q ^^^ bitsL l]? = some true
end Go.Proofs.YtmgfndejfeconaaGreatDoor
