/-
  What the functions compute that make a jump and undo one.
  Positions that jumps lead to: the plain law of the search.
  What the functions compute that search the positions that jumps lead to.
  What the program's own search computes, and the functions on its result.
  Searches there and back; pegs that can be spared.
  What the functions compute that find the pegs that can be spared and tight positions; the laws on them.
  What the functions compute that take spared pegs away; the law on them.
  What the functions compute that count the bits of a number.
  What the functions compute that find the least start and count tight positions; the laws on them.
-/
import Derived.Test.YtahnbliabllflaaL6
import Derived.Test.YtahnbliabllflaaGa
namespace Go.Proofs.Ytahnbliabllflaa
open Go.PL
set_option linter.unusedSimpArgs false
structure LnIn (l : Ln) : Prop where
  f0 : 0 ≤ l.f
  f1 : l.f ≤ 48
  o0 : 0 ≤ l.o
  o1 : l.o ≤ 48
  t0 : 0 ≤ l.t
  t1 : l.t ≤ 48
theorem lnIn {b : Brd} {l : Ln} (h : l ∈ linesOf b) : LnIn l := by
  obtain ⟨_, h1, h2, h3⟩ := mem_lines h
  have a := hole_bd h1
  have c := hole_bd h2
  have d := hole_bd h3
  exact ⟨a.2.1, a.2.2, c.2.1, c.2.2, d.2.1, d.2.2⟩
def canJ (p : Int) (l : Ln) : Bool := bitAt p l.f && (bitAt p l.o && !bitAt p l.t)
def canU (p : Int) (l : Ln) : Bool := !bitAt p l.f && (!bitAt p l.o && bitAt p l.t)
/-- the three holes of a line, as a set -/
def bitsL (l : Ln) : Nat := 2 ^ l.f.toNat ||| 2 ^ l.o.toNat ||| 2 ^ l.t.toNat
def flip (p : Int) (l : Ln) : Int := ((p.toNat ^^^ bitsL l : Nat) : Int)
def jmp (p : Int) (l : Ln) : Nat := ndiff (ndiff p.toNat (2 ^ l.f.toNat)) (2 ^ l.o.toNat) ||| 2 ^ l.t.toNat
def und (p : Int) (l : Ln) : Nat := ndiff p.toNat (2 ^ l.t.toNat) ||| 2 ^ l.f.toNat ||| 2 ^ l.o.toNat
theorem tb_ndiff {a b j : Nat} : (ndiff a b).testBit j = (a.testBit j && !b.testBit j) := by
  unfold ndiff
  rw [Nat.testBit_xor, Nat.testBit_and]
  cases a.testBit j <;> cases b.testBit j <;> rfl
theorem bitAt_toNat {p k : Int} (hp : 0 ≤ p) (hk : 0 ≤ k) : bitAt p k = p.toNat.testBit k.toNat := by
  conv => lhs; rw [← Int.toNat_of_nonneg hp]
  exact bitAt_int hk
theorem toNat_inj {a b : Int} (ha : 0 ≤ a) (hb : 0 ≤ b) (h : a.toNat = b.toNat) : a = b := by omega
theorem can_and {p : Int} {l : Ln} (hp : 0 ≤ p) (hl : LnIn l) (h1 : l.o ≠ l.t) (h2 : l.f ≠ l.t) : (p.toNat &&& bitsL l = 2 ^ l.f.toNat ||| 2 ^ l.o.toNat) ↔ canJ p l = true := by
  obtain ⟨f0, f1, o0, o1, t0, t1⟩ := hl
  have n1 : l.o.toNat ≠ l.t.toNat := fun e => h1 (toNat_inj o0 t0 e)
  have n2 : l.f.toNat ≠ l.t.toNat := fun e => h2 (toNat_inj f0 t0 e)
  simp only [canJ, bitAt_toNat hp f0, bitAt_toNat hp o0, bitAt_toNat hp t0, Bool.and_eq_true, Bool.not_eq_true']
  constructor
  · intro h
    have hj : ∀ j, (p.toNat &&& bitsL l).testBit j = (2 ^ l.f.toNat ||| 2 ^ l.o.toNat).testBit j := fun j => by rw [h]
    have a := hj l.f.toNat
    have c := hj l.o.toNat
    have d := hj l.t.toNat
    simp only [bitsL, Nat.testBit_and, Nat.testBit_or, Nat.testBit_two_pow] at a c d
    simp [n1, n2] at a c d
    exact ⟨a, c, d⟩
  · rintro ⟨a, c, d⟩
    apply Nat.eq_of_testBit_eq
    intro j
    simp only [bitsL, Nat.testBit_and, Nat.testBit_or, Nat.testBit_two_pow]
    by_cases e1 : l.f.toNat = j
    · subst e1; simp [a]
    · by_cases e2 : l.o.toNat = j
      · subst e2; simp [c]
      · by_cases e3 : l.t.toNat = j
        · subst e3; simp [d, n1, n2]
        · simp [e1, e2, e3]
theorem canU_and {p : Int} {l : Ln} (hp : 0 ≤ p) (hl : LnIn l) (h1 : l.o ≠ l.t) (h2 : l.f ≠ l.t) : (p.toNat &&& bitsL l = 2 ^ l.t.toNat) ↔ canU p l = true := by
  obtain ⟨f0, f1, o0, o1, t0, t1⟩ := hl
  have n1 : ¬ l.t.toNat = l.o.toNat := fun e => h1 (toNat_inj o0 t0 e.symm)
  have n2 : ¬ l.t.toNat = l.f.toNat := fun e => h2 (toNat_inj f0 t0 e.symm)
  simp only [canU, bitAt_toNat hp f0, bitAt_toNat hp o0, bitAt_toNat hp t0, Bool.and_eq_true, Bool.not_eq_true']
  constructor
  · intro h
    have hj : ∀ j, (p.toNat &&& bitsL l).testBit j = (2 ^ l.t.toNat).testBit j := fun j => by rw [h]
    have a := hj l.f.toNat
    have c := hj l.o.toNat
    have d := hj l.t.toNat
    simp only [bitsL, Nat.testBit_and, Nat.testBit_or, Nat.testBit_two_pow] at a c d
    simp [n1, n2] at a c d
    exact ⟨a, c, d⟩
  · rintro ⟨a, c, d⟩
    apply Nat.eq_of_testBit_eq
    intro j
    simp only [bitsL, Nat.testBit_and, Nat.testBit_or, Nat.testBit_two_pow]
    by_cases e1 : l.f.toNat = j
    · subst e1; simp [a, n2]
    · by_cases e2 : l.o.toNat = j
      · subst e2; simp [c, n1]
      · by_cases e3 : l.t.toNat = j
        · subst e3; simp [d]
        · simp [e1, e2, e3]
theorem jmp_flip {p : Int} {l : Ln} (hp : 0 ≤ p) (hl : LnIn l) (h1 : l.o ≠ l.t) (h2 : l.f ≠ l.t) (hc : canJ p l = true) : jmp p l = p.toNat ^^^ bitsL l := by
  obtain ⟨f0, f1, o0, o1, t0, t1⟩ := hl
  have n1 : ¬ l.o.toNat = l.t.toNat := fun e => h1 (toNat_inj o0 t0 e)
  have n2 : ¬ l.f.toNat = l.t.toNat := fun e => h2 (toNat_inj f0 t0 e)
  simp only [canJ, bitAt_toNat hp f0, bitAt_toNat hp o0, bitAt_toNat hp t0, Bool.and_eq_true, Bool.not_eq_true'] at hc
  obtain ⟨a, c, d⟩ := hc
  apply Nat.eq_of_testBit_eq
  intro j
  simp only [jmp, bitsL, tb_ndiff, Nat.testBit_xor, Nat.testBit_or, Nat.testBit_two_pow]
  by_cases e1 : l.f.toNat = j
  · subst e1; simp [a, Ne.symm n2]
  · by_cases e2 : l.o.toNat = j
    · subst e2; simp [c, Ne.symm n1]
    · by_cases e3 : l.t.toNat = j
      · subst e3; simp [d]
      · simp [e1, e2, e3]
theorem und_flip {p : Int} {l : Ln} (hp : 0 ≤ p) (hl : LnIn l) (h1 : l.o ≠ l.t) (h2 : l.f ≠ l.t) (hc : canU p l = true) : und p l = p.toNat ^^^ bitsL l := by
  obtain ⟨f0, f1, o0, o1, t0, t1⟩ := hl
  have n1 : ¬ l.o.toNat = l.t.toNat := fun e => h1 (toNat_inj o0 t0 e)
  have n2 : ¬ l.f.toNat = l.t.toNat := fun e => h2 (toNat_inj f0 t0 e)
  simp only [canU, bitAt_toNat hp f0, bitAt_toNat hp o0, bitAt_toNat hp t0, Bool.and_eq_true, Bool.not_eq_true'] at hc
  obtain ⟨a, c, d⟩ := hc
  apply Nat.eq_of_testBit_eq
  intro j
  simp only [und, bitsL, tb_ndiff, Nat.testBit_xor, Nat.testBit_or, Nat.testBit_two_pow]
  by_cases e1 : l.f.toNat = j
  · subst e1; simp [a]
  · by_cases e2 : l.o.toNat = j
    · subst e2; simp [c]
    · by_cases e3 : l.t.toNat = j
      · subst e3; simp [d, n1, n2]
      · simp [e1, e2, e3]
theorem pow48 {k : Int} (h0 : 0 ≤ k) (h1 : k ≤ 48) : 1 ≤ (2 : Nat) ^ k.toNat ∧ (2 : Nat) ^ k.toNat ≤ 281474976710656 := by
  have h1 : (2 : Nat) ^ k.toNat ≤ 2 ^ 48 := Nat.pow_le_pow_right (by omega) (by omega)
  have h2 : 0 < (2 : Nat) ^ k.toNat := Nat.pow_pos (by omega)
  omega
theorem or63 {a c : Nat} (h1 : a ≤ 9223372036854775807) (h2 : c ≤ 9223372036854775807) : a ||| c ≤ 9223372036854775807 := by
  have := Nat.or_lt_two_pow (n := 63) (x := a) (y := c) (by omega) (by omega)
  omega
theorem xor63 {a c : Nat} (h1 : a ≤ 9223372036854775807) (h2 : c ≤ 9223372036854775807) : a ^^^ c ≤ 9223372036854775807 := by
  have := Nat.xor_lt_two_pow (n := 63) (x := a) (y := c) (by omega) (by omega)
  omega
@[go_sem] theorem powI {n : Nat} : (1 : Int) * 2 ^ n = ((2 ^ n : Nat) : Int) := by simp
theorem bitsL_le {l : Ln} (hl : LnIn l) : bitsL l ≤ 562949953421311 := by
  obtain ⟨f0, f1, o0, o1, t0, t1⟩ := hl
  have h : bitsL l < 2 ^ 49 := Nat.or_lt_two_pow (Nat.or_lt_two_pow (Nat.pow_lt_pow_right (by omega) (by omega)) (Nat.pow_lt_pow_right (by omega) (by omega))) (Nat.pow_lt_pow_right (by omega) (by omega))
  omega
theorem l05Bits_c (l : Ln) (hl : LnIn l) : PC Try.prog 25 [] [.a (lineC l)] (vN (bitsL l : Nat)) ⟨[], []⟩ := by
  refine pc_of Try.func25 rfl (by kernel_rfl) _ Try.ntmps25 (by simp) ?_
  obtain ⟨f0, f1, o0, o1, t0, t1⟩ := hl
  have p1 := pow48 f0 f1
  have p2 := pow48 o0 o1
  have p3 := pow48 t0 t1
  have q1 := or63 (a := 2 ^ l.f.toNat) (c := 2 ^ l.o.toNat) (by omega) (by omega)
  have q2 := or63 (a := 2 ^ l.f.toNat ||| 2 ^ l.o.toNat) (c := 2 ^ l.t.toNat) q1 (by omega)
  simp -implicitDefEqProofs only [go_sem]
  refine draw_step Try.pl_follows (by kernel_rfl) ?_
  (repeat' (first | simp -implicitDefEqProofs only [go_sem] | (refine And.intro ?_ ?_; omega) | (refine And.intro (shr_bd ?_ ?_) ?_; omega; omega) | refine sl_list rfl ?_ | refine sd_list rfl ?_ | refine sl_str ?_ | refine sd_str ?_))
  exact fin_scal rfl rfl
def jumpI (p : Int) (l : Ln) : Int := if canJ p l = true then (jmp p l : Nat) else p
def undoI (p : Int) (l : Ln) : Int := if canU p l = true then (und p l : Nat) else p
theorem jumpFrom_c (p : Int) (l : Ln) (h0 : 0 ≤ p) (h1 : p ≤ 9223372036854775807) (hl : LnIn l) : PC Try.prog 21 [] [.c (.v (.int .i64 p)), .a (lineC l)] (.t [.c (.v (.int .i64 (jumpI p l))), .c (.v (.bool (canJ p l)))]) ⟨[], []⟩ := by
  refine pc_of Try.func21 rfl (by kernel_rfl) _ Try.ntmps21 (by simp) ?_
  obtain ⟨f0, f1, o0, o1, t0, t1⟩ := hl
  have p1 := pow48 f0 f1
  have p2 := pow48 o0 o1
  have p3 := pow48 t0 t1
  have n1 := ndiff_le p.toNat (2 ^ l.f.toNat)
  have n2 := ndiff_le (ndiff p.toNat (2 ^ l.f.toNat)) (2 ^ l.o.toNat)
  have q1 := or63 (a := ndiff (ndiff p.toNat (2 ^ l.f.toNat)) (2 ^ l.o.toNat)) (c := 2 ^ l.t.toNat) (by omega) (by omega)
  (repeat' (first | simp -implicitDefEqProofs only [go_sem] | (refine And.intro ?_ ?_; omega) | (refine And.intro (shr_bd ?_ ?_) ?_; omega; omega) | refine sl_list rfl ?_ | refine sd_list rfl ?_ | refine sl_str ?_ | refine sd_str ?_))
  refine callS (hasBit_c p l.f h0 h1 f0 (by omega)) rfl rfl rfl ?_
  by_cases a : bitAt p l.f = true
  · (repeat' (first | simp -implicitDefEqProofs only [a, go_sem] | (refine And.intro ?_ ?_; omega) | (refine And.intro (shr_bd ?_ ?_) ?_; omega; omega) | refine sl_list rfl ?_ | refine sd_list rfl ?_ | refine sl_str ?_ | refine sd_str ?_))
    refine callS (hasBit_c p l.o h0 h1 o0 (by omega)) rfl rfl rfl ?_
    by_cases c : bitAt p l.o = true
    · (repeat' (first | simp -implicitDefEqProofs only [a, c, go_sem] | (refine And.intro ?_ ?_; omega) | (refine And.intro (shr_bd ?_ ?_) ?_; omega; omega) | refine sl_list rfl ?_ | refine sd_list rfl ?_ | refine sl_str ?_ | refine sd_str ?_))
      refine callS (hasBit_c p l.t h0 h1 t0 (by omega)) rfl rfl rfl ?_
      by_cases d : bitAt p l.t = true
      · have e : canJ p l = false := by simp [canJ, d]
        simp -implicitDefEqProofs only [a, c, d, go_sem]
        exact fin_scal rfl (by simp [jumpI, e])
      · have e : canJ p l = true := by simp [canJ, a, c, d]
        simp -implicitDefEqProofs only [a, c, d, go_sem]
        refine draw_step Try.pl_follows (by kernel_rfl) ?_
        (repeat' (first | simp -implicitDefEqProofs only [go_sem] | (refine And.intro ?_ ?_; omega) | (refine And.intro (shr_bd ?_ ?_) ?_; omega; omega) | refine sl_list rfl ?_ | refine sd_list rfl ?_ | refine sl_str ?_ | refine sd_str ?_))
        exact fin_scal rfl (by simp [jumpI, e, jmp])
    · have e : canJ p l = false := by simp [canJ, c]
      simp -implicitDefEqProofs only [a, c, go_sem]
      exact fin_scal rfl (by simp [jumpI, e])
  · have e : canJ p l = false := by simp [canJ, a]
    simp -implicitDefEqProofs only [a, go_sem]
    exact fin_scal rfl (by simp [jumpI, e])
theorem undoFrom_c (p : Int) (l : Ln) (h0 : 0 ≤ p) (h1 : p ≤ 9223372036854775807) (hl : LnIn l) : PC Try.prog 55 [] [.c (.v (.int .i64 p)), .a (lineC l)] (.t [.c (.v (.int .i64 (undoI p l))), .c (.v (.bool (canU p l)))]) ⟨[], []⟩ := by
  refine pc_of Try.func55 rfl (by kernel_rfl) _ Try.ntmps55 (by simp) ?_
  obtain ⟨f0, f1, o0, o1, t0, t1⟩ := hl
  have p1 := pow48 f0 f1
  have p2 := pow48 o0 o1
  have p3 := pow48 t0 t1
  have n1 := ndiff_le p.toNat (2 ^ l.t.toNat)
  have q1 := or63 (a := ndiff p.toNat (2 ^ l.t.toNat)) (c := 2 ^ l.f.toNat) (by omega) (by omega)
  have q2 := or63 (a := ndiff p.toNat (2 ^ l.t.toNat) ||| 2 ^ l.f.toNat) (c := 2 ^ l.o.toNat) q1 (by omega)
  (repeat' (first | simp -implicitDefEqProofs only [go_sem] | (refine And.intro ?_ ?_; omega) | (refine And.intro (shr_bd ?_ ?_) ?_; omega; omega) | refine sl_list rfl ?_ | refine sd_list rfl ?_ | refine sl_str ?_ | refine sd_str ?_))
  refine callS (hasBit_c p l.f h0 h1 f0 (by omega)) rfl rfl rfl ?_
  by_cases a : bitAt p l.f = true
  · have e : canU p l = false := by simp [canU, a]
    simp -implicitDefEqProofs only [a, go_sem]
    exact fin_scal rfl (by simp [undoI, e])
  · (repeat' (first | simp -implicitDefEqProofs only [a, go_sem] | (refine And.intro ?_ ?_; omega) | (refine And.intro (shr_bd ?_ ?_) ?_; omega; omega) | refine sl_list rfl ?_ | refine sd_list rfl ?_ | refine sl_str ?_ | refine sd_str ?_))
    refine callS (hasBit_c p l.o h0 h1 o0 (by omega)) rfl rfl rfl ?_
    by_cases c : bitAt p l.o = true
    · have e : canU p l = false := by simp [canU, c]
      simp -implicitDefEqProofs only [a, c, go_sem]
      exact fin_scal rfl (by simp [undoI, e])
    · (repeat' (first | simp -implicitDefEqProofs only [a, c, go_sem] | (refine And.intro ?_ ?_; omega) | (refine And.intro (shr_bd ?_ ?_) ?_; omega; omega) | refine sl_list rfl ?_ | refine sd_list rfl ?_ | refine sl_str ?_ | refine sd_str ?_))
      refine callS (hasBit_c p l.t h0 h1 t0 (by omega)) rfl rfl rfl ?_
      by_cases d : bitAt p l.t = true
      · have e : canU p l = true := by simp [canU, a, c, d]
        simp -implicitDefEqProofs only [a, c, d, go_sem]
        refine draw_step Try.pl_follows (by kernel_rfl) ?_
        (repeat' (first | simp -implicitDefEqProofs only [go_sem] | (refine And.intro ?_ ?_; omega) | (refine And.intro (shr_bd ?_ ?_) ?_; omega; omega) | refine sl_list rfl ?_ | refine sd_list rfl ?_ | refine sl_str ?_ | refine sd_str ?_))
        exact fin_scal rfl (by simp [undoI, e, und])
      · have e : canU p l = false := by simp [canU, d]
        simp -implicitDefEqProofs only [a, c, d, go_sem]
        exact fin_scal rfl (by simp [undoI, e])
end Go.Proofs.Ytahnbliabllflaa
namespace Go.Proofs.Ytahnbliabllflaa
open Go.PL
set_option linter.unusedSimpArgs false
def able (bk : Bool) (q : Nat) (l : Ln) : Bool := if bk = true then canU (q : Int) l else canJ (q : Int) l
inductive Rch (b : Brd) (bk : Bool) (p : Nat) : Nat → Prop where
  | refl : Rch b bk p p
  | step (q : Nat) (l : Ln) : Rch b bk p q → l ∈ linesOf b → able bk q l = true → Rch b bk p (q ^^^ bitsL l)
def boardN (b : Brd) : Nat := 2 ^ (b.w * b.h).toNat
noncomputable def seenL (b : Brd) (bk : Bool) (p : Nat) : List Bool := by
  classical exact (List.range (boardN b)).map fun q => decide (Rch b bk p q)
theorem seenL_len {b : Brd} {bk : Bool} {p : Nat} : (seenL b bk p).length = boardN b := by simp [seenL]
theorem seenL_get {b : Brd} {bk : Bool} {p q : Nat} : (seenL b bk p)[q]? = some true ↔ q < boardN b ∧ Rch b bk p q := by
  unfold seenL
  rw [List.getElem?_map]
  by_cases h : q < boardN b
  · rw [List.getElem?_range h]; simp [h]
  · rw [List.getElem?_eq_none (by simpa using h)]; simp [h]
theorem board_le {b : Brd} (hs : isSmall b = true) : boardN b ≤ 65536 ∧ 1 ≤ boardN b := by
  simp only [isSmall, Bool.and_eq_true, decide_eq_true_eq] at hs
  have h1 : 2 ^ (b.w * b.h).toNat ≤ 2 ^ 16 := Nat.pow_le_pow_right (by omega) (by omega)
  have h2 : 0 < 2 ^ (b.w * b.h).toNat := Nat.pow_pos (by omega)
  unfold boardN; omega
theorem n_lt {b : Brd} (hb : boardOk b = true) : b.n.toNat < boardN b := by
  have n1 := (bok hb).n1
  have n2 := (bok hb).n2
  have e : ((2 ^ (b.w * b.h).toNat : Nat) : Int) = (2 : Int) ^ (b.w * b.h).toNat := by simp
  unfold boardN
  omega
/-- the pegs lie in holes, bit by bit -/
def Sub (b : Brd) (q : Nat) : Prop := ∀ j, q.testBit j = true → b.n.toNat.testBit j = true
theorem sub_and {b : Brd} {q : Nat} (h : Sub b q) : q &&& b.n.toNat = q := by
  apply Nat.eq_of_testBit_eq
  intro j
  rw [Nat.testBit_and]
  cases hq : q.testBit j with
  | false => rfl
  | true => rw [h j hq]; rfl
theorem sub_lt {b : Brd} (hb : boardOk b = true) {q : Nat} (h : Sub b q) : q < boardN b := by
  have h1 := n_lt hb
  have h2 : q &&& b.n.toNat ≤ b.n.toNat := Nat.and_le_right
  rw [sub_and h] at h2
  omega
theorem pos_sub {b : Brd} {p : Int} (h : positionOk b p = true) : boardOk b = true ∧ 0 ≤ p ∧ Sub b p.toNat := by
  simp only [positionOk, sub, Bool.and_eq_true, decide_eq_true_eq] at h
  refine ⟨h.1, h.2.1, fun j hj => ?_⟩
  have e : p.toNat &&& b.n.toNat = p.toNat := by omega
  rw [← e, Nat.testBit_and, Bool.and_eq_true] at hj
  exact hj.2
theorem sub_pos {b : Brd} {q : Nat} (hb : boardOk b = true) (h : Sub b q) : positionOk b (q : Int) = true := by
  simp [positionOk, hb, sub, sub_and h]
theorem line_bits {b : Brd} {l : Ln} (h : l ∈ linesOf b) (j : Nat) (hj : (bitsL l).testBit j = true) : b.n.toNat.testBit j = true := by
  obtain ⟨hb, h1, h2, h3⟩ := mem_lines h
  have n1 := (bok hb).n1
  have key : ∀ k : Int, hasHole b k = true → b.n.toNat.testBit k.toNat = true := fun k hk => by
    have k0 := (hole_bd hk).2.1
    simp only [hasHole, Bool.and_eq_true] at hk
    rw [← bitAt_toNat (by omega) k0]
    exact hk.2
  simp only [bitsL, Nat.testBit_or, Nat.testBit_two_pow, Bool.or_eq_true, decide_eq_true_eq] at hj
  rcases hj with (hj | hj) | hj
  · rw [← hj]; exact key _ h1
  · rw [← hj]; exact key _ h2
  · rw [← hj]; exact key _ h3
theorem rch_sub {b : Brd} {bk : Bool} {p q : Nat} (hp : Sub b p) (h : Rch b bk p q) : Sub b q := by
  induction h with
  | refl => exact hp
  | step q l _ hl _ ih =>
    intro j hj
    rw [Nat.testBit_xor] at hj
    cases hq : q.testBit j with
    | true => exact ih j hq
    | false =>
      rw [hq] at hj
      exact line_bits hl j (by simpa using hj)
structure Spr (b : Brd) (bk : Bool) (p : Nat) (S : List Bool) (td : List Nat) (k : Nat) : Prop where
  len : S.length = boardN b
  cnt : td.length = S.count true
  mem : ∀ q ∈ td, q < boardN b ∧ S[q]? = some true ∧ Rch b bk p q
  all : ∀ q : Nat, S[q]? = some true → q ∈ td
  st : S[p]? = some true
  le : k ≤ td.length
  done : ∀ q ∈ td.take k, ∀ l ∈ linesOf b, able bk q l = true → S[q ^^^ bitsL l]? = some true
theorem set_true {S : List Bool} {q j : Nat} (hq : q < S.length) : (S.set q true)[j]? = some true ↔ (j = q ∨ S[j]? = some true) := by
  by_cases h : q = j
  · subst h; simp [hq]
  · have h' : ¬ j = q := fun e => h e.symm
    simp [List.getElem?_set_ne h, h']
theorem spr_start {b : Brd} {bk : Bool} {p : Nat} (hb : boardOk b = true) (hp : Sub b p) : Spr b bk p ((List.replicate (boardN b) false).set p true) [p] 0 := by
  have hlt := sub_lt hb hp
  have hset : ∀ j, ((List.replicate (boardN b) false).set p true)[j]? = some true ↔ j = p := fun j => by
    rw [set_true (by simpa using hlt)]
    constructor
    · rintro (h | h)
      · exact h
      · rw [List.getElem?_replicate] at h
        split at h <;> simp at h
    · exact .inl
  refine ⟨by simp, ?_, fun q hq => ?_, fun q hq => ?_, (hset p).2 rfl, by simp, by simp⟩
  · rw [List.count_set (by simpa using hlt)]
    simp [List.count_replicate]
  · simp only [List.mem_singleton] at hq
    subst hq
    exact ⟨hlt, (hset q).2 rfl, .refl⟩
  · simp [(hset q).1 hq]
theorem spr_add {b : Brd} {bk : Bool} {p : Nat} (hb : boardOk b = true) (hp : Sub b p) {S : List Bool} {td : List Nat} {k : Nat} (h : Spr b bk p S td k) {q : Nat} (hq : q ∈ td) {l : Ln} (hl : l ∈ linesOf b) (ha : able bk q l = true) (hn : S[q ^^^ bitsL l]? = some false) :
    Spr b bk p (S.set (q ^^^ bitsL l) true) (td ++ [q ^^^ bitsL l]) k := by
  have hr : Rch b bk p (q ^^^ bitsL l) := .step q l (h.mem q hq).2.2 hl ha
  have hlt := sub_lt hb (rch_sub hp hr)
  have hlt' : q ^^^ bitsL l < S.length := by rw [h.len]; exact hlt
  refine ⟨by simp [h.len], ?_, fun x hx => ?_, fun x hx => ?_, (set_true hlt').2 (.inr h.st), by have := h.le; simp; omega, fun x hx l' hl' ha' => ?_⟩
  · rw [List.length_append, h.cnt, List.count_set hlt']
    have e : S[q ^^^ bitsL l] = false := by
      rw [List.getElem?_eq_getElem hlt'] at hn
      exact Option.some.inj hn
    simp [e]
  · rcases List.mem_append.1 hx with hx | hx
    · obtain ⟨a, c, d⟩ := h.mem x hx
      exact ⟨a, (set_true hlt').2 (.inr c), d⟩
    · simp only [List.mem_singleton] at hx
      subst hx
      exact ⟨hlt, (set_true hlt').2 (.inl rfl), hr⟩
  · rcases (set_true hlt').1 hx with rfl | hx
    · simp
    · exact List.mem_append_left _ (h.all x hx)
  · rw [List.take_append_of_le_length h.le] at hx
    exact (set_true hlt').2 (.inr (h.done x hx l' hl' ha'))
theorem spr_next {b : Brd} {bk : Bool} {p : Nat} {S : List Bool} {td : List Nat} {k : Nat} (h : Spr b bk p S td k) (hk : k < td.length) (hd : ∀ l ∈ linesOf b, able bk td[k] l = true → S[td[k] ^^^ bitsL l]? = some true) : Spr b bk p S td (k + 1) := by
  refine ⟨h.len, h.cnt, h.mem, h.all, h.st, by omega, fun q hq => ?_⟩
  rw [List.take_succ_eq_append_getElem hk] at hq
  rcases List.mem_append.1 hq with hq | hq
  · exact h.done q hq
  · simp only [List.mem_singleton] at hq
    subst hq
    exact hd
theorem spr_end {b : Brd} {bk : Bool} {p : Nat} {S : List Bool} {td : List Nat} (h : Spr b bk p S td td.length) : S = seenL b bk p := by
  have hd : ∀ q, Rch b bk p q → S[q]? = some true := by
    intro q hq
    induction hq with
    | refl => exact h.st
    | step q l _ hl ha ih => exact h.done q (by rw [List.take_length]; exact h.all q ih) l hl ha
  apply List.ext_getElem?
  intro j
  by_cases hj : j < boardN b
  · have e1 : S[j]? = some (S[j]'(by rw [h.len]; exact hj)) := List.getElem?_eq_getElem _
    have e2 : (seenL b bk p)[j]? = some ((seenL b bk p)[j]'(by rw [seenL_len]; exact hj)) := List.getElem?_eq_getElem _
    have i1 : S[j]? = some true ↔ Rch b bk p j := ⟨fun h' => (h.mem j (h.all j h')).2.2, hd j⟩
    have i2 : (seenL b bk p)[j]? = some true ↔ Rch b bk p j := by rw [seenL_get]; simp [hj]
    rw [e1] at i1 ⊢
    rw [e2] at i2 ⊢
    congr 1
    rw [Bool.eq_iff_iff]
    simp only [Option.some.injEq] at i1 i2
    rw [i1, i2]
  · rw [List.getElem?_eq_none (by rw [h.len]; omega), List.getElem?_eq_none (by rw [seenL_len]; omega)]
theorem spr_len {b : Brd} {bk : Bool} {p : Nat} {S : List Bool} {td : List Nat} {k : Nat} (h : Spr b bk p S td k) : td.length ≤ boardN b := by
  rw [h.cnt, ← h.len]
  exact List.count_le_length
theorem spr_bd {b : Brd} {bk : Bool} {p : Nat} (hb : boardOk b = true) (hp : Sub b p) {S : List Bool} {td : List Nat} {k : Nat} (h : Spr b bk p S td k) {q : Nat} (hq : q ∈ td) {l : Ln} (hl : l ∈ linesOf b) (ha : able bk q l = true) :
    q ^^^ bitsL l < boardN b ∧ ∃ x, S[q ^^^ bitsL l]? = some x := by
  have hlt := sub_lt hb (rch_sub hp (.step q l (h.mem q hq).2.2 hl ha))
  exact ⟨hlt, _, List.getElem?_eq_getElem (by rw [h.len]; exact hlt)⟩
end Go.Proofs.Ytahnbliabllflaa
namespace Go.Proofs.Ytahnbliabllflaa
open Go.PL
set_option linter.unusedSimpArgs false
abbrev nV (q : Nat) : Value := .int .i64 (q : Int)
theorem map_set' {S : List Bool} {i : Nat} {x : Bool} : (S.map Value.bool).set i (.bool x) = (S.set i x).map Value.bool := by simp [List.map_set]
theorem map_repl {n : Nat} : List.replicate n (Value.bool false) = (List.replicate n false).map Value.bool := by simp
theorem bool_get {S : List Bool} {i : Nat} {x : Bool} (h : S[i]? = some x) : (S.map Value.bool)[i]? = some (.bool x) := by simp [h]
theorem map_getN {l : List Nat} {i : Nat} (h : i < l.length) : (l.map nV)[i]? = some (nV l[i]) := by simp [h]
@[go_sem] theorem n_toNat {n : Nat} : ((n : Int)).toNat = n := Int.toNat_natCast n
theorem able_t {q : Nat} {l : Ln} : able true q l = canU (q : Int) l := rfl
theorem able_f {q : Nat} {l : Ln} : able false q l = canJ (q : Int) l := rfl
set_option maxRecDepth 20000 in
set_option maxHeartbeats 8000000 in
theorem l14Seen_c (d : Nat) (b : Brd) (p : Int) (bk : Bool) (hs : isSmall b = true) (hp : positionOk b p = true) : PC Try.prog 41 [] [.a (brdC b), .c (.v (.int .i64 p)), .c (.v (.bool bk))] (.s (.c (.o d))) ⟨[], [(d, ⟨4, 1, (seenL b bk p.toNat).map Value.bool, false, true⟩)]⟩ := by
  refine pc_of Try.func41 rfl (by kernel_rfl) _ Try.ntmps41 (by simp) ?_
  obtain ⟨hb, p0, hsub⟩ := pos_sub hp
  have hbN := board_le hs
  have hplt := sub_lt hb hsub
  obtain ⟨w1, w2, h1, h2, m1, m2, n1, n2, n3⟩ := bok hb
  have hpw := pow_bd (by omega) m2
  have hbe : (2 : Int) ^ (b.w * b.h).toNat = (boardN b : Int) := by simp [boardN]
  have hll := linesOf_len (b := b)
  have ep : (p.toNat : Int) = p := Int.toNat_of_nonneg p0
  (repeat' (first | simp -implicitDefEqProofs only [Int.one_mul, hbe, go_sem] | (refine And.intro ?_ ?_; omega) | (refine And.intro (shr_bd ?_ ?_) ?_; omega; omega) | refine sl_list rfl ?_ | refine sd_list rfl ?_ | refine sl_str ?_ | refine sd_str ?_))
  refine callL (LinesOf_c 23 b) rfl rfl rfl ?_
  (repeat' (first | simp -implicitDefEqProofs only [map_repl, map_set', go_sem] | (refine And.intro ?_ ?_; omega) | (refine And.intro (shr_bd ?_ ?_) ?_; omega; omega) | refine sl_list rfl ?_ | refine sd_list rfl ?_ | refine sl_str ?_ | refine sd_str ?_))
  refine loop_step (X := Nat × List Bool × List Nat) (fun x => ⟨95, [(2, vB bk), (7, vO 21), (8, vO 23), (9, vO 28), (10, vN x.1)], ⟨[], [(28, ⟨3, 1, x.2.2.map nV, false, true⟩), (23, ⟨35, 3, (linesOf b).map lineV, false, true⟩), (21, ⟨4, 1, x.2.1.map Value.bool, false, true⟩)]⟩⟩)
    (fun x => Spr b bk p.toNat x.2.1 x.2.2 x.1) (fun x => boardN b - x.1) (0, (List.replicate (boardN b) false).set p.toNat true, [p.toNat]) (spr_start hb hsub) (weak_of (fun i => i) (fun i => i) rfl ⟨by simp [ep] <;> omega, by simp [ep] <;> omega, by simp [ep] <;> omega, by simp [ep] <;> omega, by simp [ep] <;> omega⟩ (by simp [ep] <;> omega)) (fun x hx => ?_)
  obtain ⟨k, S, td⟩ := x
  simp only at hx
  have hk1 := hx.le
  have hk2 := spr_len hx
  simp -implicitDefEqProofs only [go_sem]
  refine if_splitP (fun h => ?_) (fun h => ?_)
  · have hklt : k < td.length := by omega
    have hgk := map_getN hklt
    simp -implicitDefEqProofs only [go_sem]
    refine loop_step (X := Nat × List Bool × List Nat) (fun y => ⟨95, [(2, vB bk), (7, vO 21), (8, vO 23), (9, vO 28), (10, vN k), (11, vN y.1)], ⟨[], [(28, ⟨3, 1, y.2.2.map nV, false, true⟩), (23, ⟨35, 3, (linesOf b).map lineV, false, true⟩), (21, ⟨4, 1, y.2.1.map Value.bool, false, true⟩)]⟩⟩)
      (fun y => y.1 ≤ (linesOf b).length ∧ Spr b bk p.toNat y.2.1 y.2.2 k ∧ y.2.2[k]? = some td[k] ∧ ∀ j (hj : j < (linesOf b).length), j < y.1 → able bk td[k] (linesOf b)[j] = true → y.2.1[td[k] ^^^ bitsL (linesOf b)[j]]? = some true)
      (fun y => (linesOf b).length - y.1) (0, S, td) ⟨by simp, hx, by simp [hklt], by simp⟩ (weak_of (fun i => i) (fun i => i) rfl ⟨by simp <;> omega, by simp <;> omega, by simp <;> omega, by simp <;> omega, by simp <;> omega⟩ (by simp <;> omega)) (fun y hy => ?_)
    obtain ⟨j, S', td'⟩ := y
    obtain ⟨hj, hsp, htk, hdn⟩ := hy
    simp only at hj hsp htk hdn
    have hd1 := spr_len hsp
    have hkl' : k < td'.length := (List.getElem?_eq_some_iff.1 htk).1
    have hgk' : (td'.map nV)[k]? = some (nV td[k]) := by rw [List.getElem?_map, htk]; rfl
    have hmem : td[k] ∈ td' := List.mem_of_getElem? htk
    have hq := (hsp.mem _ hmem).1
    simp -implicitDefEqProofs only [go_sem]
    refine if_splitP (fun h => ?_) (fun h => ?_)
    · have hlt : j < (linesOf b).length := by omega
      have hg := map_get (f := lineV) hlt
      have hm := List.getElem_mem hlt
      have hln := lnIn hm
      obtain ⟨hne0, hne1, hne2⟩ := line_ne hm
      have hbl := bitsL_le hln
      obtain ⟨f0, f1, o0, o1, t0, t1⟩ := hln
      have q1 := pow48 f0 f1
      have q2 := pow48 o0 o1
      have q3 := pow48 t0 t1
      have q4 := or63 (a := 2 ^ (linesOf b)[j].f.toNat) (c := 2 ^ (linesOf b)[j].o.toNat) (by omega) (by omega)
      have q5 := xor63 (a := td[k]) (c := bitsL (linesOf b)[j]) (by omega) (by omega)
      have hcan := can_and (p := (td[k] : Int)) (l := (linesOf b)[j]) (by omega) (lnIn hm) hne1 hne2
      have hcanU := canU_and (p := (td[k] : Int)) (l := (linesOf b)[j]) (by omega) (lnIn hm) hne1 hne2
      rw [Int.toNat_natCast] at hcan hcanU
      (repeat' (first | simp -implicitDefEqProofs only [hg, hlt, lineV, go_sem] | (refine And.intro ?_ ?_; omega) | (refine And.intro (shr_bd ?_ ?_) ?_; omega; omega) | refine sl_list rfl ?_ | refine sd_list rfl ?_ | refine sl_str ?_ | refine sd_str ?_))
      refine callS (l05Bits_c _ (lnIn hm)) rfl rfl rfl ?_
      simp -implicitDefEqProofs only [go_sem]
      refine draw_step Try.pl_follows (by kernel_rfl) ?_
      (repeat' (first | simp -implicitDefEqProofs only [hg, hlt, lineV, go_sem] | (refine And.intro ?_ ?_; omega) | (refine And.intro (shr_bd ?_ ?_) ?_; omega; omega) | refine sl_list rfl ?_ | refine sd_list rfl ?_ | refine sl_str ?_ | refine sd_str ?_))
      have step : ∀ (S2 : List Bool) (td2 : List Nat), Spr b bk p.toNat S2 td2 k → td2[k]? = some td[k] → (∀ q : Nat, S'[q]? = some true → S2[q]? = some true) → (able bk td[k] (linesOf b)[j] = true → S2[td[k] ^^^ bitsL (linesOf b)[j]]? = some true) →
          j + 1 ≤ (linesOf b).length ∧ Spr b bk p.toNat S2 td2 k ∧ td2[k]? = some td[k] ∧ ∀ j' (hj' : j' < (linesOf b).length), j' < j + 1 → able bk td[k] (linesOf b)[j'] = true → S2[td[k] ^^^ bitsL (linesOf b)[j']]? = some true := by
        intro S2 td2 a1 a2 a3 a4
        refine ⟨by omega, a1, a2, fun j' hj' hjj ha => ?_⟩
        by_cases e : j' = j
        · subst e; exact a4 ha
        · exact a3 _ (hdn j' hj' (by omega) ha)
      have fin : ∀ (c : Bool), able bk td[k] (linesOf b)[j] = c → (c = false ∨ (c = true ∧ ∃ x, S'[td[k] ^^^ bitsL (linesOf b)[j]]? = some x)) := by
        intro c hc
        cases c with
        | false => exact .inl rfl
        | true => exact .inr ⟨rfl, (spr_bd hb hsub hsp hmem hm hc).2⟩
      cases hbk : bk with
      | false =>
        subst hbk
        by_cases ha : canJ (td[k] : Int) (linesOf b)[j] = true
        · have hx := spr_bd hb hsub hsp hmem hm (bk := false) ha
          obtain ⟨hxl, x, hgx⟩ := hx
          have hgx' := bool_get hgx
          have hxl' : td[k] ^^^ bitsL (linesOf b)[j] < S'.length := by rw [hsp.len]; exact hxl
          have e1 : ((((td[k] &&& bitsL (linesOf b)[j] : Nat) : Int) = ((2 ^ (linesOf b)[j].f.toNat ||| 2 ^ (linesOf b)[j].o.toNat : Nat) : Int))) = True := eq_true (by rw [hcan.2 ha])
          cases x with
          | true =>
            (repeat' (first | simp -implicitDefEqProofs only [hgk', hkl', e1, hgx', hxl', go_sem] | (refine And.intro ?_ ?_; omega) | (refine And.intro (shr_bd ?_ ?_) ?_; omega; omega) | refine sl_list rfl ?_ | refine sd_list rfl ?_ | refine sl_str ?_ | refine sd_str ?_))
            exact ⟨(j + 1, S', td'), step S' td' hsp htk (fun _ h => h) (fun _ => hgx), by simp only; omega, weak_of (fun i => i) (fun i => i) rfl ⟨by simp <;> omega, by simp <;> omega, by simp <;> omega, by simp <;> omega, by simp <;> omega⟩ (by simp <;> omega)⟩
          | false =>
            (repeat' (first | simp -implicitDefEqProofs only [hgk', hkl', e1, hgx', hxl', map_set', go_sem] | (refine And.intro ?_ ?_; omega) | (refine And.intro (shr_bd ?_ ?_) ?_; omega; omega) | refine sl_list rfl ?_ | refine sd_list rfl ?_ | refine sl_str ?_ | refine sd_str ?_))
            exact ⟨(j + 1, _, _), step _ _ (spr_add hb hsub hsp hmem hm (bk := false) ha hgx) (by rw [List.getElem?_append_left hkl', htk]) (fun q h => (set_true hxl').2 (.inr h)) (fun _ => (set_true hxl').2 (.inl rfl)), by simp only; omega, weak_of (fun i => i) (fun i => if i = 28 then 93 else i) rfl ⟨by simp <;> omega, by simp <;> omega, by simp <;> omega, by simp <;> omega, by simp <;> omega⟩ (by simp <;> omega)⟩
        · have e1 : ((((td[k] &&& bitsL (linesOf b)[j] : Nat) : Int) = ((2 ^ (linesOf b)[j].f.toNat ||| 2 ^ (linesOf b)[j].o.toNat : Nat) : Int))) = False := eq_false (fun h => ha (hcan.1 (by omega)))
          (repeat' (first | simp -implicitDefEqProofs only [hgk', hkl', e1, go_sem] | (refine And.intro ?_ ?_; omega) | (refine And.intro (shr_bd ?_ ?_) ?_; omega; omega) | refine sl_list rfl ?_ | refine sd_list rfl ?_ | refine sl_str ?_ | refine sd_str ?_))
          exact ⟨(j + 1, S', td'), step S' td' hsp htk (fun _ h => h) (fun h => absurd h ha), by simp only; omega, weak_of (fun i => i) (fun i => i) rfl ⟨by simp <;> omega, by simp <;> omega, by simp <;> omega, by simp <;> omega, by simp <;> omega⟩ (by simp <;> omega)⟩
      | true =>
        subst hbk
        by_cases ha : canU (td[k] : Int) (linesOf b)[j] = true
        · have hx := spr_bd hb hsub hsp hmem hm (bk := true) ha
          obtain ⟨hxl, x, hgx⟩ := hx
          have hgx' := bool_get hgx
          have hxl' : td[k] ^^^ bitsL (linesOf b)[j] < S'.length := by rw [hsp.len]; exact hxl
          have e1 : ((((td[k] &&& bitsL (linesOf b)[j] : Nat) : Int) = ((2 ^ (linesOf b)[j].t.toNat : Nat) : Int))) = True := eq_true (by rw [hcanU.2 ha])
          cases x with
          | true =>
            (repeat' (first | simp -implicitDefEqProofs only [hg, hlt, lineV, hgk', hkl', e1, hgx', hxl', go_sem] | (refine And.intro ?_ ?_; omega) | (refine And.intro (shr_bd ?_ ?_) ?_; omega; omega) | refine sl_list rfl ?_ | refine sd_list rfl ?_ | refine sl_str ?_ | refine sd_str ?_))
            exact ⟨(j + 1, S', td'), step S' td' hsp htk (fun _ h => h) (fun _ => hgx), by simp only; omega, weak_of (fun i => i) (fun i => i) rfl ⟨by simp <;> omega, by simp <;> omega, by simp <;> omega, by simp <;> omega, by simp <;> omega⟩ (by simp <;> omega)⟩
          | false =>
            (repeat' (first | simp -implicitDefEqProofs only [hg, hlt, lineV, hgk', hkl', e1, hgx', hxl', map_set', go_sem] | (refine And.intro ?_ ?_; omega) | (refine And.intro (shr_bd ?_ ?_) ?_; omega; omega) | refine sl_list rfl ?_ | refine sd_list rfl ?_ | refine sl_str ?_ | refine sd_str ?_))
            exact ⟨(j + 1, _, _), step _ _ (spr_add hb hsub hsp hmem hm (bk := true) ha hgx) (by rw [List.getElem?_append_left hkl', htk]) (fun q h => (set_true hxl').2 (.inr h)) (fun _ => (set_true hxl').2 (.inl rfl)), by simp only; omega, weak_of (fun i => i) (fun i => if i = 28 then 93 else i) rfl ⟨by simp <;> omega, by simp <;> omega, by simp <;> omega, by simp <;> omega, by simp <;> omega⟩ (by simp <;> omega)⟩
        · have e1 : ((((td[k] &&& bitsL (linesOf b)[j] : Nat) : Int) = ((2 ^ (linesOf b)[j].t.toNat : Nat) : Int))) = False := eq_false (fun h => ha (hcanU.1 (by omega)))
          (repeat' (first | simp -implicitDefEqProofs only [hg, hlt, lineV, hgk', hkl', e1, go_sem] | (refine And.intro ?_ ?_; omega) | (refine And.intro (shr_bd ?_ ?_) ?_; omega; omega) | refine sl_list rfl ?_ | refine sd_list rfl ?_ | refine sl_str ?_ | refine sd_str ?_))
          exact ⟨(j + 1, S', td'), step S' td' hsp htk (fun _ h => h) (fun h => absurd h ha), by simp only; omega, weak_of (fun i => i) (fun i => i) rfl ⟨by simp <;> omega, by simp <;> omega, by simp <;> omega, by simp <;> omega, by simp <;> omega⟩ (by simp <;> omega)⟩
    · have e : j = (linesOf b).length := by omega
      subst e
      simp -implicitDefEqProofs only [go_sem]
      have hlie : td'[k] = td[k] := by
        rw [List.getElem?_eq_getElem hkl'] at htk
        exact Option.some.inj htk
      refine ⟨by omega, (k + 1, S', td'), spr_next hsp hkl' (fun l hl ha => ?_), by simp only; omega, weak_of (fun i => i) (fun i => i) rfl ⟨by simp <;> omega, by simp <;> omega, by simp <;> omega, by simp <;> omega, by simp <;> omega⟩ (by simp <;> omega)⟩
      obtain ⟨j, hj, rfl⟩ := List.mem_iff_getElem.1 hl
      rw [hlie] at ha ⊢
      exact hdn j hj hj ha
  · have e : k = td.length := by omega
    subst e
    have he := spr_end hx
    simp -implicitDefEqProofs only [go_sem]
    exact fin_of (fun i => i) (fun i => 21) ⟨by simp [he] <;> omega, by simp [he] <;> omega, by simp [he] <;> omega, by simp [he] <;> omega, by simp [he] <;> omega⟩ (by simp [he] <;> omega) (by first | rfl | (simp [renPV, renV1, renC, he]))
end Go.Proofs.Ytahnbliabllflaa
namespace Go.Proofs.Ytahnbliabllflaa
open Go.PL
set_option linter.unusedSimpArgs false
noncomputable def spreadL (b : Brd) (bk : Bool) (p : Int) : List Bool := if isSmall b = true ∧ positionOk b p = true then seenL b bk p.toNat else []
theorem spreadL_len {b : Brd} {bk : Bool} {p : Int} : (spreadL b bk p).length ≤ 65536 := by
  unfold spreadL
  split
  · rename_i h
    rw [seenL_len]
    exact (board_le h.1).1
  · simp
set_option maxHeartbeats 8000000 in
theorem spreadOf_c (d : Nat) (b : Brd) (p : Int) (bk : Bool) (hp2 : p ≤ 9223372036854775807) : PC Try.prog 38 [] [.a (brdC b), .c (.v (.int .i64 p)), .c (.v (.bool bk))] (.s (.c (.o d))) ⟨[], [(d, ⟨4, 1, (spreadL b bk p).map Value.bool, false, true⟩)]⟩ := by
  refine pc_of Try.func38 rfl (by kernel_rfl) _ Try.ntmps38 (by simp) ?_
  simp -implicitDefEqProofs only [go_sem]
  refine callS (iIsSmall_c b) rfl rfl rfl ?_
  by_cases hs : isSmall b = true
  rotate_left
  · have e : spreadL b bk p = [] := by simp [spreadL, hs]
    (repeat' (first | simp -implicitDefEqProofs only [hs, go_sem] | (refine And.intro ?_ ?_; omega) | (refine And.intro (shr_bd ?_ ?_) ?_; omega; omega) | refine sl_list rfl ?_ | refine sd_list rfl ?_ | refine sl_str ?_ | refine sd_str ?_))
    refine fin_adopt (pv' := .s (.c (.o 999))) 999 4 1 rfl (by omega) (by simp [adPV, adVs, adV1, adCs, adC]) ?_
    exact fin_of (fun i => i) (fun i => 999) ⟨by simp [e] <;> omega, by simp [e] <;> omega, by simp [e] <;> omega, by simp [e] <;> omega, by simp [e] <;> omega⟩ (by simp [e] <;> omega) (by first | rfl | (simp [renPV, renV1, renC, e]))
  simp -implicitDefEqProofs only [hs, go_sem]
  refine callS (iPositionOk_c b p hp2) rfl rfl rfl ?_
  by_cases hp : positionOk b p = true
  rotate_left
  · have e : spreadL b bk p = [] := by simp [spreadL, hp]
    (repeat' (first | simp -implicitDefEqProofs only [hs, hp, go_sem] | (refine And.intro ?_ ?_; omega) | (refine And.intro (shr_bd ?_ ?_) ?_; omega; omega) | refine sl_list rfl ?_ | refine sd_list rfl ?_ | refine sl_str ?_ | refine sd_str ?_))
    refine fin_adopt (pv' := .s (.c (.o 999))) 999 4 1 rfl (by omega) (by simp [adPV, adVs, adV1, adCs, adC]) ?_
    exact fin_of (fun i => i) (fun i => 999) ⟨by simp [e] <;> omega, by simp [e] <;> omega, by simp [e] <;> omega, by simp [e] <;> omega, by simp [e] <;> omega⟩ (by simp [e] <;> omega) (by first | rfl | (simp [renPV, renV1, renC, e]))
  have espr : spreadL b bk p = seenL b bk p.toNat := by simp [spreadL, hs, hp]
  obtain ⟨hb, p0, hsub⟩ := pos_sub hp
  have hbN := board_le hs
  have hplt := sub_lt hb hsub
  obtain ⟨w1, w2, h1, h2, m1, m2, n1, n2, n3⟩ := bok hb
  have hpw := pow_bd (by omega) m2
  have hbe : (2 : Int) ^ (b.w * b.h).toNat = (boardN b : Int) := by simp [boardN]
  have hll := linesOf_len (b := b)
  have ep : (p.toNat : Int) = p := Int.toNat_of_nonneg p0
  simp -implicitDefEqProofs only [hs, hp, go_sem]
  refine callL (iLinesOf_c 25 b) rfl rfl rfl ?_
  (repeat' (first | simp -implicitDefEqProofs only [Int.one_mul, hbe, map_repl, map_set', go_sem] | (refine And.intro ?_ ?_; omega) | (refine And.intro (shr_bd ?_ ?_) ?_; omega; omega) | refine sl_list rfl ?_ | refine sd_list rfl ?_ | refine sl_str ?_ | refine sd_str ?_))
  refine loop_step (X := Nat × List Bool × List Nat) (fun x => ⟨86, [(2, vB bk), (7, vO 25), (8, vO 32), (9, vO 37), (10, vN x.1)], ⟨[], [(37, ⟨3, 1, x.2.2.map nV, false, true⟩), (25, ⟨35, 3, (linesOf b).map lineV, false, true⟩), (32, ⟨4, 1, x.2.1.map Value.bool, false, true⟩)]⟩⟩)
    (fun x => Spr b bk p.toNat x.2.1 x.2.2 x.1) (fun x => boardN b - x.1) (0, (List.replicate (boardN b) false).set p.toNat true, [p.toNat]) (spr_start hb hsub) (weak_of (fun i => i) (fun i => i) rfl ⟨by simp [ep] <;> omega, by simp [ep] <;> omega, by simp [ep] <;> omega, by simp [ep] <;> omega, by simp [ep] <;> omega⟩ (by simp [ep] <;> omega)) (fun x hx => ?_)
  obtain ⟨k, S, td⟩ := x
  simp only at hx
  have hk1 := hx.le
  have hk2 := spr_len hx
  simp -implicitDefEqProofs only [go_sem]
  refine if_splitP (fun h => ?_) (fun h => ?_)
  · have hklt : k < td.length := by omega
    have hgk := map_getN hklt
    simp -implicitDefEqProofs only [go_sem]
    refine loop_step (X := Nat × List Bool × List Nat) (fun y => ⟨86, [(2, vB bk), (7, vO 25), (8, vO 32), (9, vO 37), (10, vN k), (44, vO 25), (45, vN (linesOf b).length), (46, vN y.1)], ⟨[], [(37, ⟨3, 1, y.2.2.map nV, false, true⟩), (25, ⟨35, 3, (linesOf b).map lineV, false, true⟩), (32, ⟨4, 1, y.2.1.map Value.bool, false, true⟩)]⟩⟩)
      (fun y => y.1 ≤ (linesOf b).length ∧ Spr b bk p.toNat y.2.1 y.2.2 k ∧ y.2.2[k]? = some td[k] ∧ ∀ j (hj : j < (linesOf b).length), j < y.1 → able bk td[k] (linesOf b)[j] = true → y.2.1[td[k] ^^^ bitsL (linesOf b)[j]]? = some true)
      (fun y => (linesOf b).length - y.1) (0, S, td) ⟨by simp, hx, by simp [hklt], by simp⟩ (weak_of (fun i => i) (fun i => i) rfl ⟨by simp <;> omega, by simp <;> omega, by simp <;> omega, by simp <;> omega, by simp <;> omega⟩ (by simp <;> omega)) (fun y hy => ?_)
    obtain ⟨j, S', td'⟩ := y
    obtain ⟨hj, hsp, htk, hdn⟩ := hy
    simp only at hj hsp htk hdn
    have hd1 := spr_len hsp
    have hkl' : k < td'.length := (List.getElem?_eq_some_iff.1 htk).1
    have hgk' : (td'.map nV)[k]? = some (nV td[k]) := by rw [List.getElem?_map, htk]; rfl
    have hmem : td[k] ∈ td' := List.mem_of_getElem? htk
    have hq := (hsp.mem _ hmem).1
    simp -implicitDefEqProofs only [go_sem]
    refine if_splitP (fun h => ?_) (fun h => ?_)
    · have hlt : j < (linesOf b).length := by omega
      have hg := map_get (f := lineV) hlt
      have hm := List.getElem_mem hlt
      have hln := lnIn hm
      obtain ⟨hne0, hne1, hne2⟩ := line_ne hm
      have step : ∀ (S2 : List Bool) (td2 : List Nat), Spr b bk p.toNat S2 td2 k → td2[k]? = some td[k] → (∀ q : Nat, S'[q]? = some true → S2[q]? = some true) → (able bk td[k] (linesOf b)[j] = true → S2[td[k] ^^^ bitsL (linesOf b)[j]]? = some true) →
          j + 1 ≤ (linesOf b).length ∧ Spr b bk p.toNat S2 td2 k ∧ td2[k]? = some td[k] ∧ ∀ j' (hj' : j' < (linesOf b).length), j' < j + 1 → able bk td[k] (linesOf b)[j'] = true → S2[td[k] ^^^ bitsL (linesOf b)[j']]? = some true := by
        intro S2 td2 a1 a2 a3 a4
        refine ⟨by omega, a1, a2, fun j' hj' hjj ha => ?_⟩
        by_cases e : j' = j
        · subst e; exact a4 ha
        · exact a3 _ (hdn j' hj' (by omega) ha)
      (repeat' (first | simp -implicitDefEqProofs only [hg, hlt, lineV, go_sem] | (refine And.intro ?_ ?_; omega) | (refine And.intro (shr_bd ?_ ?_) ?_; omega; omega) | refine sl_list rfl ?_ | refine sd_list rfl ?_ | refine sl_str ?_ | refine sd_str ?_))
      refine draw_step Try.pl_follows (by kernel_rfl) ?_
      (repeat' (first | simp -implicitDefEqProofs only [hgk', hkl', go_sem] | (refine And.intro ?_ ?_; omega) | (refine And.intro (shr_bd ?_ ?_) ?_; omega; omega) | refine sl_list rfl ?_ | refine sd_list rfl ?_ | refine sl_str ?_ | refine sd_str ?_))
      refine callD (jumpFrom_c (td[k] : Int) (linesOf b)[j] (by omega) (by omega) hln) rfl rfl rfl ?_
      cases hbk : bk with
      | false =>
        subst hbk
        by_cases ha : canJ (td[k] : Int) (linesOf b)[j] = true
        · have hx := spr_bd hb hsub hsp hmem hm (bk := false) ha
          obtain ⟨hxl, x, hgx⟩ := hx
          have hgx' := bool_get hgx
          have hxl' : td[k] ^^^ bitsL (linesOf b)[j] < S'.length := by rw [hsp.len]; exact hxl
          have ej : jumpI (td[k] : Int) (linesOf b)[j] = ((td[k] ^^^ bitsL (linesOf b)[j] : Nat) : Int) := by
            rw [jumpI, if_pos ha, jmp_flip (by omega) hln hne1 hne2 ha, Int.toNat_natCast]
          cases x with
          | true =>
            (repeat' (first | simp -implicitDefEqProofs only [ej, ha, hgx', hxl', go_sem] | (refine And.intro ?_ ?_; omega) | (refine And.intro (shr_bd ?_ ?_) ?_; omega; omega) | refine sl_list rfl ?_ | refine sd_list rfl ?_ | refine sl_str ?_ | refine sd_str ?_))
            exact ⟨(j + 1, S', td'), step S' td' hsp htk (fun _ h => h) (fun _ => hgx), by simp only; omega, weak_of (fun i => i) (fun i => i) rfl ⟨by simp <;> omega, by simp <;> omega, by simp <;> omega, by simp <;> omega, by simp <;> omega⟩ (by simp <;> omega)⟩
          | false =>
            (repeat' (first | simp -implicitDefEqProofs only [ej, ha, hgx', hxl', map_set', go_sem] | (refine And.intro ?_ ?_; omega) | (refine And.intro (shr_bd ?_ ?_) ?_; omega; omega) | refine sl_list rfl ?_ | refine sd_list rfl ?_ | refine sl_str ?_ | refine sd_str ?_))
            exact ⟨(j + 1, _, _), step _ _ (spr_add hb hsub hsp hmem hm (bk := false) ha hgx) (by rw [List.getElem?_append_left hkl', htk]) (fun q h => (set_true hxl').2 (.inr h)) (fun _ => (set_true hxl').2 (.inl rfl)), by simp only; omega, weak_of (fun i => i) (fun i => if i = 37 then 83 else i) rfl ⟨by simp <;> omega, by simp <;> omega, by simp <;> omega, by simp <;> omega, by simp <;> omega⟩ (by simp <;> omega)⟩
        · (repeat' (first | simp -implicitDefEqProofs only [ha, go_sem] | (refine And.intro ?_ ?_; omega) | (refine And.intro (shr_bd ?_ ?_) ?_; omega; omega) | refine sl_list rfl ?_ | refine sd_list rfl ?_ | refine sl_str ?_ | refine sd_str ?_))
          exact ⟨(j + 1, S', td'), step S' td' hsp htk (fun _ h => h) (fun h => absurd h ha), by simp only; omega, weak_of (fun i => i) (fun i => i) rfl ⟨by simp <;> omega, by simp <;> omega, by simp <;> omega, by simp <;> omega, by simp <;> omega⟩ (by simp <;> omega)⟩
      | true =>
        subst hbk
        (repeat' (first | simp -implicitDefEqProofs only [go_sem] | (refine And.intro ?_ ?_; omega) | (refine And.intro (shr_bd ?_ ?_) ?_; omega; omega) | refine sl_list rfl ?_ | refine sd_list rfl ?_ | refine sl_str ?_ | refine sd_str ?_))
        refine draw_step Try.pl_follows (by kernel_rfl) ?_
        (repeat' (first | simp -implicitDefEqProofs only [hgk', hkl', go_sem] | (refine And.intro ?_ ?_; omega) | (refine And.intro (shr_bd ?_ ?_) ?_; omega; omega) | refine sl_list rfl ?_ | refine sd_list rfl ?_ | refine sl_str ?_ | refine sd_str ?_))
        refine callD (undoFrom_c (td[k] : Int) (linesOf b)[j] (by omega) (by omega) hln) rfl rfl rfl ?_
        by_cases ha : canU (td[k] : Int) (linesOf b)[j] = true
        · have hx := spr_bd hb hsub hsp hmem hm (bk := true) ha
          obtain ⟨hxl, x, hgx⟩ := hx
          have hgx' := bool_get hgx
          have hxl' : td[k] ^^^ bitsL (linesOf b)[j] < S'.length := by rw [hsp.len]; exact hxl
          have ej : undoI (td[k] : Int) (linesOf b)[j] = ((td[k] ^^^ bitsL (linesOf b)[j] : Nat) : Int) := by
            rw [undoI, if_pos ha, und_flip (by omega) hln hne1 hne2 ha, Int.toNat_natCast]
          cases x with
          | true =>
            (repeat' (first | simp -implicitDefEqProofs only [ej, ha, hgx', hxl', go_sem] | (refine And.intro ?_ ?_; omega) | (refine And.intro (shr_bd ?_ ?_) ?_; omega; omega) | refine sl_list rfl ?_ | refine sd_list rfl ?_ | refine sl_str ?_ | refine sd_str ?_))
            exact ⟨(j + 1, S', td'), step S' td' hsp htk (fun _ h => h) (fun _ => hgx), by simp only; omega, weak_of (fun i => i) (fun i => i) rfl ⟨by simp <;> omega, by simp <;> omega, by simp <;> omega, by simp <;> omega, by simp <;> omega⟩ (by simp <;> omega)⟩
          | false =>
            (repeat' (first | simp -implicitDefEqProofs only [ej, ha, hgx', hxl', map_set', go_sem] | (refine And.intro ?_ ?_; omega) | (refine And.intro (shr_bd ?_ ?_) ?_; omega; omega) | refine sl_list rfl ?_ | refine sd_list rfl ?_ | refine sl_str ?_ | refine sd_str ?_))
            exact ⟨(j + 1, _, _), step _ _ (spr_add hb hsub hsp hmem hm (bk := true) ha hgx) (by rw [List.getElem?_append_left hkl', htk]) (fun q h => (set_true hxl').2 (.inr h)) (fun _ => (set_true hxl').2 (.inl rfl)), by simp only; omega, weak_of (fun i => i) (fun i => if i = 37 then 83 else i) rfl ⟨by simp <;> omega, by simp <;> omega, by simp <;> omega, by simp <;> omega, by simp <;> omega⟩ (by simp <;> omega)⟩
        · (repeat' (first | simp -implicitDefEqProofs only [ha, go_sem] | (refine And.intro ?_ ?_; omega) | (refine And.intro (shr_bd ?_ ?_) ?_; omega; omega) | refine sl_list rfl ?_ | refine sd_list rfl ?_ | refine sl_str ?_ | refine sd_str ?_))
          exact ⟨(j + 1, S', td'), step S' td' hsp htk (fun _ h => h) (fun h => absurd h ha), by simp only; omega, weak_of (fun i => i) (fun i => i) rfl ⟨by simp <;> omega, by simp <;> omega, by simp <;> omega, by simp <;> omega, by simp <;> omega⟩ (by simp <;> omega)⟩
    · have e : j = (linesOf b).length := by omega
      subst e
      simp -implicitDefEqProofs only [go_sem]
      have hlie : td'[k] = td[k] := by
        rw [List.getElem?_eq_getElem hkl'] at htk
        exact Option.some.inj htk
      refine ⟨by omega, (k + 1, S', td'), spr_next hsp hkl' (fun l hl ha => ?_), by simp only; omega, weak_of (fun i => i) (fun i => i) rfl ⟨by simp <;> omega, by simp <;> omega, by simp <;> omega, by simp <;> omega, by simp <;> omega⟩ (by simp <;> omega)⟩
      obtain ⟨j, hj, rfl⟩ := List.mem_iff_getElem.1 hl
      rw [hlie] at ha ⊢
      exact hdn j hj hj ha
  · have e : k = td.length := by omega
    subst e
    have he := spr_end hx
    simp -implicitDefEqProofs only [go_sem]
    exact fin_of (fun i => i) (fun i => 32) ⟨by simp [he, espr] <;> omega, by simp [he, espr] <;> omega, by simp [he, espr] <;> omega, by simp [he, espr] <;> omega, by simp [he, espr] <;> omega⟩ (by simp [he, espr] <;> omega) (by first | rfl | (simp [renPV, renV1, renC, he, espr]))
/-- is the position marked -/
def hasS (S : List Bool) (p : Int) : Bool := decide (0 ≤ p) && ((S[p.toNat]?).getD false)
theorem has_c (S : List Bool) (p : Int) : PC Try.prog 18 [] [.c (.l 1 (S.map Value.bool)), .c (.v (.int .i64 p))] (vB (hasS S p)) ⟨[], []⟩ := by
  refine pc_of Try.func18 rfl (by kernel_rfl) _ Try.ntmps18 (by simp) ?_
  simp -implicitDefEqProofs only [go_sem]
  refine grd_splitP (fun h0 => ?_) (fun h0 => ?_)
  · by_cases hl : p < S.length
    · have hlt : p.toNat < S.length := by omega
      have hg : (S.map Value.bool)[p.toNat]? = some (.bool S[p.toNat]) := by simp [hlt]
      have e : hasS S p = S[p.toNat] := by simp [hasS, h0, hlt]
      (repeat' (first | simp -implicitDefEqProofs only [h0, hl, hg, go_sem] | (refine And.intro ?_ ?_; omega) | (refine And.intro (shr_bd ?_ ?_) ?_; omega; omega) | refine sl_list rfl ?_ | refine sd_list rfl ?_ | refine sl_str ?_ | refine sd_str ?_))
      exact fin_scal rfl (by rw [e])
    · have e : hasS S p = false := by
        have : S[p.toNat]? = none := List.getElem?_eq_none (by omega)
        simp [hasS, this]
      (repeat' (first | simp -implicitDefEqProofs only [h0, hl, go_sem] | (refine And.intro ?_ ?_; omega) | (refine And.intro (shr_bd ?_ ?_) ?_; omega; omega) | refine sl_list rfl ?_ | refine sd_list rfl ?_ | refine sl_str ?_ | refine sd_str ?_))
      exact fin_scal rfl (by rw [e])
  · have e : hasS S p = false := by simp [hasS, h0]
    (repeat' (first | simp -implicitDefEqProofs only [h0, go_sem] | (refine And.intro ?_ ?_; omega) | (refine And.intro (shr_bd ?_ ?_) ?_; omega; omega) | refine sl_list rfl ?_ | refine sd_list rfl ?_ | refine sl_str ?_ | refine sd_str ?_))
    exact fin_scal rfl (by rw [e])
def markedS (S : List Bool) (q : Nat) : Bool := (S[q]?).getD false
/-- the marked positions -/
def listN (S : List Bool) (i : Nat) : List Nat := (List.range i).filter (markedS S)
def listS (S : List Bool) : List Nat := listN S S.length
theorem listN_zero {S : List Bool} : listN S 0 = [] := rfl
theorem listN_hit {S : List Bool} {i : Nat} (h : markedS S i = true) : listN S (i + 1) = listN S i ++ [i] := by simp [listN, List.range_succ, List.filter_append, h]
theorem listN_miss {S : List Bool} {i : Nat} (h : markedS S i = false) : listN S (i + 1) = listN S i := by simp [listN, List.range_succ, List.filter_append, h]
theorem listN_len {S : List Bool} {i : Nat} : (listN S i).length ≤ i := by
  have := List.length_filter_le (markedS S) (List.range i)
  unfold listN; simpa using this
end Go.Proofs.Ytahnbliabllflaa
namespace Go.Proofs.Ytahnbliabllflaa
open Go.PL
set_option linter.unusedSimpArgs false
theorem xor_xor (a c : Nat) : (a ^^^ c) ^^^ c = a := by rw [Nat.xor_assoc, Nat.xor_self, Nat.xor_zero]
theorem able_turn {b : Brd} {q : Nat} {l : Ln} (hl : l ∈ linesOf b) (bk : Bool) (h : able bk q l = true) : able (!bk) (q ^^^ bitsL l) l = true := by
  obtain ⟨f0, f1, o0, o1, t0, t1⟩ := lnIn hl
  cases bk with
  | false =>
    simp only [able_f, canJ, bitAt_int f0, bitAt_int o0, bitAt_int t0, Bool.and_eq_true, Bool.not_eq_true'] at h
    simp only [Bool.not_false, able_t, canU, bitAt_int f0, bitAt_int o0, bitAt_int t0, Nat.testBit_xor, bitsL, Nat.testBit_or, Nat.testBit_two_pow]
    simp [h.1, h.2.1, h.2.2]
  | true =>
    simp only [able_t, canU, bitAt_int f0, bitAt_int o0, bitAt_int t0, Bool.and_eq_true, Bool.not_eq_true'] at h
    simp only [Bool.not_true, able_f, canJ, bitAt_int f0, bitAt_int o0, bitAt_int t0, Nat.testBit_xor, bitsL, Nat.testBit_or, Nat.testBit_two_pow]
    simp [h.1, h.2.1, h.2.2]
theorem rch_front {b : Brd} {bk : Bool} {a x : Nat} {l : Ln} (hl : l ∈ linesOf b) (ha : able bk a l = true) (h : Rch b bk (a ^^^ bitsL l) x) : Rch b bk a x := by
  induction h with
  | refl => exact .step a l .refl hl ha
  | step q l' _ hl' ha' ih => exact .step q l' ih hl' ha'
theorem rch_turn {b : Brd} {bk : Bool} {a x : Nat} (h : Rch b bk a x) : Rch b (!bk) x a := by
  induction h with
  | refl => exact .refl
  | step q l _ hl ha ih =>
    have h1 := able_turn hl bk ha
    refine rch_front hl h1 ?_
    rw [xor_xor]
    exact ih
theorem rch_both {b : Brd} {a x : Nat} : Rch b false a x ↔ Rch b true x a := ⟨rch_turn (bk := false), rch_turn (bk := true)⟩
theorem has_spread {b : Brd} {bk : Bool} {g p : Int} : hasS (spreadL b bk g) p = true ↔ isSmall b = true ∧ positionOk b g = true ∧ positionOk b p = true ∧ Rch b bk g.toNat p.toNat := by
  unfold hasS spreadL
  constructor
  · intro h
    simp only [Bool.and_eq_true, decide_eq_true_eq] at h
    obtain ⟨p0, h⟩ := h
    split at h
    · rename_i hh
      have hg : (seenL b bk g.toNat)[p.toNat]? = some true := by
        cases hx : (seenL b bk g.toNat)[p.toNat]? with
        | none => rw [hx] at h; cases h
        | some x => rw [hx] at h; simp at h; rw [h]
      obtain ⟨h1, h2⟩ := seenL_get.1 hg
      obtain ⟨hb, g0, hsub⟩ := pos_sub hh.2
      have := sub_pos hb (rch_sub hsub h2)
      rw [Int.toNat_of_nonneg p0] at this
      exact ⟨hh.1, hh.2, this, h2⟩
    · simp at h
  · rintro ⟨hs, hg, hp, hr⟩
    obtain ⟨hb, p0, hsub⟩ := pos_sub hp
    rw [if_pos ⟨hs, hg⟩, (seenL_get (b := b) (bk := bk) (p := g.toNat) (q := p.toNat)).2 ⟨sub_lt hb hsub, hr⟩]
    simp [p0]
noncomputable def canReach (b : Brd) (p g : Int) : Bool := hasS (spreadL b false p) g
theorem canReach_back {b : Brd} {p g : Int} : canReach b p g = hasS (spreadL b true g) p := by
  rw [Bool.eq_iff_iff]
  unfold canReach
  rw [has_spread, has_spread, rch_both]
  constructor
  · rintro ⟨a, c, d, e⟩; exact ⟨a, d, c, e⟩
  · rintro ⟨a, c, d, e⟩; exact ⟨a, d, c, e⟩
theorem CanReach_c (b : Brd) (p g : Int) (hp2 : p ≤ 9223372036854775807) (hg2 : g ≤ 9223372036854775807) : PC Try.prog 22 [] [.a (brdC b), .c (.v (.int .i64 p)), .c (.v (.int .i64 g))] (vB (canReach b p g)) ⟨[], []⟩ := by
  refine pc_of Try.func22 rfl (by kernel_rfl) _ Try.ntmps22 (by simp) ?_
  simp -implicitDefEqProofs only [go_sem]
  refine callS (IsSmall_c b) rfl rfl rfl ?_
  have no : (isSmall b = true → positionOk b p = true → positionOk b g = true → False) → canReach b p g = false := fun h => by
    cases hc : canReach b p g with
    | false => rfl
    | true => have := has_spread.1 (show hasS _ _ = true from hc); exact (h this.1 this.2.1 this.2.2.1).elim
  by_cases hs : isSmall b = true
  · simp -implicitDefEqProofs only [hs, go_sem]
    refine callS (PositionOk_c b p hp2) rfl rfl rfl ?_
    by_cases hp : positionOk b p = true
    · simp -implicitDefEqProofs only [hs, hp, go_sem]
      refine callS (PositionOk_c b g hg2) rfl rfl rfl ?_
      by_cases hg : positionOk b g = true
      · simp -implicitDefEqProofs only [hs, hp, hg, go_sem]
        refine callL (l14Seen_c 22 b p false hs hp) rfl rfl rfl ?_
        obtain ⟨hb, g0, hsub⟩ := pos_sub hg
        have hlt := sub_lt hb hsub
        have hsl : (seenL b false p.toNat).length = boardN b := seenL_len
        have hgl : g.toNat < (seenL b false p.toNat).length := by rw [hsl]; exact hlt
        have hgg : ((seenL b false p.toNat).map Value.bool)[g.toNat]? = some (.bool (seenL b false p.toNat)[g.toNat]) := by simp [hgl]
        have e : canReach b p g = (seenL b false p.toNat)[g.toNat] := by simp [canReach, spreadL, hs, hp, hasS, g0, hgl]
        (repeat' (first | simp -implicitDefEqProofs only [hs, hp, hg, hgg, hgl, go_sem] | (refine And.intro ?_ ?_; omega) | (refine And.intro (shr_bd ?_ ?_) ?_; omega; omega) | refine sl_list rfl ?_ | refine sd_list rfl ?_ | refine sl_str ?_ | refine sd_str ?_))
        exact fin_scal rfl (by rw [e])
      · simp -implicitDefEqProofs only [hs, hp, hg, go_sem]
        exact fin_scal rfl (by rw [no fun _ _ h => hg h])
    · simp -implicitDefEqProofs only [hs, hp, go_sem]
      exact fin_scal rfl (by rw [no fun _ h _ => hp h])
  · simp -implicitDefEqProofs only [hs, go_sem]
    exact fin_scal rfl (by rw [no fun h _ _ => hs h])
theorem l15Back_c (d : Nat) (b : Brd) (g : Int) (hs : isSmall b = true) (hg : positionOk b g = true) : PC Try.prog 23 [] [.a (brdC b), .c (.v (.int .i64 g))] (.s (.c (.o d))) ⟨[], [(d, ⟨4, 1, (spreadL b true g).map Value.bool, false, true⟩)]⟩ := by
  refine pc_of Try.func23 rfl (by kernel_rfl) _ Try.ntmps23 (by simp) ?_
  have e : spreadL b true g = seenL b true g.toNat := by simp [spreadL, hs, hg]
  simp -implicitDefEqProofs only [go_sem]
  refine callL (l14Seen_c 7 b g true hs hg) rfl rfl rfl ?_
  simp -implicitDefEqProofs only [go_sem]
  exact fin_of (fun i => i) (fun i => 7) ⟨by simp [e] <;> omega, by simp [e] <;> omega, by simp [e] <;> omega, by simp [e] <;> omega, by simp [e] <;> omega⟩ (by simp [e] <;> omega) (by first | rfl | (simp [renPV, renV1, renC, e]))
/-! ### spared pegs -/
def spAt (S : List Bool) (p k : Int) : Bool := bitAt p k && hasS S ((ndiff p.toNat (2 ^ k.toNat) : Nat) : Int)
def spares (b : Brd) (S : List Bool) (p : Int) : List Int := (holesOf b).filter (spAt S p)
theorem spares_len {b : Brd} {S : List Bool} {p : Int} : (spares b S p).length ≤ 49 := by
  have h1 := List.length_filter_le (spAt S p) (holesOf b)
  have h2 := holes_len (b := b)
  unfold spares; omega
theorem add_or : ∀ (n a b : Nat), a < 2 ^ n → a &&& b = 0 → a + b = a ||| b
  | 0, a, b, h, _ => by
    have : a = 0 := by simpa using h
    subst this; simp
  | n + 1, a, b, h, hab => by
    have h2 : a / 2 &&& b / 2 = 0 := by rw [← Nat.and_div_two, hab]
    have ih := add_or n (a / 2) (b / 2) (by rw [Nat.pow_succ] at h; omega) h2
    rw [← Nat.or_div_two] at ih
    have h3 : ¬ (a % 2 = 1 ∧ b % 2 = 1) := by rw [← Nat.and_mod_two_eq_one, hab]; simp
    have h4 := Nat.or_mod_two_eq_one (a := a) (b := b)
    have h5 : (a ||| b) % 2 = 0 ∨ (a ||| b) % 2 = 1 := by omega
    by_cases h6 : (a ||| b) % 2 = 1
    · have := h4.1 h6; omega
    · have h7 : ¬ (a % 2 = 1 ∨ b % 2 = 1) := fun h => h6 (h4.2 h)
      omega
theorem ndiff_sub {p k : Nat} (h : p.testBit k = true) : ndiff p (2 ^ k) = p - 2 ^ k := by
  have e : p &&& 2 ^ k = 2 ^ k := by
    apply Nat.eq_of_testBit_eq
    intro j
    rw [Nat.testBit_and, Nat.testBit_two_pow]
    by_cases hj : k = j
    · subst hj; simp [h]
    · simp [hj]
  have h1 : ndiff p (2 ^ k) &&& 2 ^ k = 0 := by
    apply Nat.eq_of_testBit_eq
    intro j
    rw [Nat.testBit_and, tb_ndiff, Nat.zero_testBit]
    cases p.testBit j <;> cases (2 ^ k).testBit j <;> rfl
  have h2 : ndiff p (2 ^ k) ||| 2 ^ k = p := by
    apply Nat.eq_of_testBit_eq
    intro j
    rw [Nat.testBit_or, tb_ndiff, Nat.testBit_two_pow]
    by_cases hj : k = j
    · subst hj; simp [h]
    · simp [hj]
  have h3 : ndiff p (2 ^ k) + 2 ^ k = p := by
    rw [add_or (ndiff p (2 ^ k)) _ _ Nat.lt_two_pow_self h1, h2]
  omega
end Go.Proofs.Ytahnbliabllflaa
namespace Go.Proofs.Ytahnbliabllflaa
open Go.PL
set_option linter.unusedSimpArgs false
theorem bitsN_sub {b : Brd} {p : Nat} (hb : boardOk b = true) (h : Sub b p) : bitsN (p : Int) 49 = (holesOf b).filter (bitAt (p : Int)) := by
  have n1 := (bok hb).n1
  rw [← holes_49 hb]
  unfold bitsN
  rw [List.filter_map, List.filter_filter]
  congr 1
  apply List.filter_congr
  intro k _
  simp only [Function.comp]
  cases hk : bitAt (p : Int) (k : Int) with
  | false => rfl
  | true =>
    rw [bitAt_nat] at hk
    have := h k hk
    have e : bitAt b.n (k : Int) = b.n.toNat.testBit k := by
      have := bitAt_toNat (p := b.n) (k := (k : Int)) (by omega) (by omega)
      rw [Int.toNat_natCast] at this
      exact this
    rw [e, this]; rfl
theorem spares_eq {b : Brd} {S : List Bool} {p : Nat} (hb : boardOk b = true) (h : Sub b p) : spares b S (p : Int) = (bitsN (p : Int) 49).filter fun k => hasS S ((p : Int) - 2 ^ k.toNat) := by
  rw [bitsN_sub hb h, List.filter_filter]
  unfold spares
  apply List.filter_congr
  intro k hk
  obtain ⟨_, _, k0, _⟩ := mem_holes hk
  simp only [spAt]
  cases hb : bitAt (p : Int) k with
  | false => simp
  | true =>
    rw [bitAt_int k0] at hb
    have e := ndiff_sub hb
    have hle : 2 ^ k.toNat ≤ p := Nat.ge_two_pow_of_testBit hb
    have e2 : ((ndiff p (2 ^ k.toNat) : Nat) : Int) = (p : Int) - 2 ^ k.toNat := by
      rw [e, Int.ofNat_sub hle]; simp
    rw [Int.toNat_natCast, e2]
    simp
noncomputable def isTight (b : Brd) (p g : Int) : Bool := hasS (spreadL b true g) p && decide ((spares b (spreadL b true g) p).length = 0)
theorem len0_cast {n : Nat} : decide ((n : Int) = 0) = decide (n = 0) := by simp
theorem spread_at {b : Brd} {bk : Bool} {g p : Int} (h : hasS (spreadL b bk g) p = true) : isSmall b = true ∧ positionOk b g = true ∧ positionOk b p = true ∧ boardOk b = true ∧ 0 ≤ p ∧ Sub b p.toNat ∧ p.toNat < (spreadL b bk g).length ∧ p ≤ 65536 := by
  obtain ⟨h1, h2, h3, h4⟩ := has_spread.1 h
  obtain ⟨hb, p0, hsub⟩ := pos_sub h3
  have hlt := sub_lt hb hsub
  have hN := board_le h1
  refine ⟨h1, h2, h3, hb, p0, hsub, ?_, by omega⟩
  simp only [spreadL, h1, h2, and_self, if_true, seenL_len]
  exact hlt
noncomputable def sparePegs (b : Brd) (p g : Int) : List Int := if canReach b p g = true then spares b (spreadL b true g) p else []
end Go.Proofs.Ytahnbliabllflaa
namespace Go.Proofs.Ytahnbliabllflaa
open Go.PL
set_option linter.unusedSimpArgs false
/-- spared pegs are taken away, the first one first -/
def tight (b : Brd) (S : List Bool) (p : Nat) : Nat :=
  match spares b S (p : Int) with
  | [] => p
  | k :: _ => if h : p - 2 ^ k.toNat < p then tight b S (p - 2 ^ k.toNat) else p
  termination_by p
theorem tight_nil {b : Brd} {S : List Bool} {p : Nat} (h : spares b S (p : Int) = []) : tight b S p = p := by
  rw [tight, h]
theorem tight_cons {b : Brd} {S : List Bool} {p : Nat} {k : Int} {r : List Int} (h : spares b S (p : Int) = k :: r) (hlt : p - 2 ^ k.toNat < p) : tight b S p = tight b S (p - 2 ^ k.toNat) := by
  conv => lhs; rw [tight, h]
  simp only [hlt, dite_true]
theorem spare_at {b : Brd} {S : List Bool} {p : Nat} {k : Int} (h : k ∈ spares b S (p : Int)) : 0 ≤ k ∧ k ≤ 48 ∧ p.testBit k.toNat = true ∧ 2 ^ k.toNat ≤ p ∧ p - 2 ^ k.toNat < p ∧ ndiff p (2 ^ k.toNat) = p - 2 ^ k.toNat ∧ hasS S ((p - 2 ^ k.toNat : Nat) : Int) = true := by
  unfold spares at h
  obtain ⟨h1, h2⟩ := List.mem_filter.1 h
  obtain ⟨_, _, k0, k1⟩ := mem_holes h1
  simp only [spAt, Bool.and_eq_true] at h2
  obtain ⟨h3, h4⟩ := h2
  rw [bitAt_int k0] at h3
  have e := ndiff_sub h3
  have hle : 2 ^ k.toNat ≤ p := Nat.ge_two_pow_of_testBit h3
  have hpos : 0 < 2 ^ k.toNat := Nat.pow_pos (by omega)
  rw [Int.toNat_natCast, e] at h4
  exact ⟨k0, k1, h3, hle, by omega, e, h4⟩
noncomputable def tightI (b : Brd) (p g : Int) : Int := if canReach b p g = true then (tight b (spreadL b true g) p.toNat : Nat) else p
end Go.Proofs.Ytahnbliabllflaa
namespace Go.Proofs.Ytahnbliabllflaa
open Go.PL
set_option linter.unusedSimpArgs false
def pop1 (x : Nat) : Nat := (x / 2 ^ 1 &&& 6148914691236517205) + (x &&& 6148914691236517205)
def pop2 (x : Nat) : Nat := (x / 2 ^ 2 &&& 3689348814741910323) + (x &&& 3689348814741910323)
def pop3 (x : Nat) : Nat := (x / 2 ^ 4 + x) &&& 1085102592571150095
def pop4 (x : Nat) : Nat := x + x / 2 ^ 8
def pop5 (x : Nat) : Nat := x + x / 2 ^ 16
def pop6 (x : Nat) : Nat := x + x / 2 ^ 32
def popN (x : Nat) : Nat := pop6 (pop5 (pop4 (pop3 (pop2 (pop1 x))))) &&& 127
def popAll : Bool := (List.range 256).all fun a => (List.range 256).all fun c => popN (256 * a + c) == cardN 8 a + cardN 8 c
set_option maxRecDepth 100000 in
theorem popAll_true : popAll = true := by decide +kernel
theorem cardN_split : ∀ (m a c : Nat), c < 256 → cardN (8 + m) (256 * a + c) = cardN m a + cardN 8 c
  | 0, a, c, hc => by
    have e : ∀ j, j ≤ 8 → cardN j (256 * a + c) = cardN j c := by
      intro j
      induction j with
      | zero => intro _; rfl
      | succ j ih =>
        intro hj
        have : (256 * a + c).testBit j = c.testBit j := by
          have h := Nat.testBit_two_pow_mul_add (i := 8) a (b := c) (by simpa using hc) j
          rw [show (2 : Nat) ^ 8 = 256 from rfl] at h
          rw [h, if_pos (by omega)]
        simp only [cardN, ih (by omega), this]
    rw [Nat.add_zero, e 8 (by omega)]
    simp [cardN]
  | m + 1, a, c, hc => by
    have ih := cardN_split m a c hc
    have : (256 * a + c).testBit (8 + m) = a.testBit m := by
      have h := Nat.testBit_two_pow_mul_add (i := 8) a (b := c) (by simpa using hc) (8 + m)
      rw [show (2 : Nat) ^ 8 = 256 from rfl] at h
      rw [h, if_neg (by omega)]
      congr 1
      omega
    rw [← Nat.add_assoc, show cardN (8 + m + 1) (256 * a + c) = cardN (8 + m) (256 * a + c) + (if (256 * a + c).testBit (8 + m) = true then 1 else 0) from rfl,
      show cardN (m + 1) a = cardN m a + (if a.testBit m = true then 1 else 0) from rfl, this, ih]
    omega
theorem popN_card {x : Nat} (hx : x < 65536) : popN x = cardN 16 x := by
  have h := popAll_true
  unfold popAll at h
  have h1 := List.all_eq_true.1 h (x / 256) (List.mem_range.2 (by omega))
  have h2 := List.all_eq_true.1 h1 (x % 256) (List.mem_range.2 (by omega))
  have e : 256 * (x / 256) + x % 256 = x := by omega
  rw [e] at h2
  have h3 := cardN_split 8 (x / 256) (x % 256) (by omega)
  rw [e] at h3
  rw [h3]
  simpa using h2
theorem shr_nat {x n : Nat} : (x : Int) / 2 ^ n = ((x / 2 ^ n : Nat) : Int) := by simp
theorem add_nat {a c : Nat} : (a : Int) + (c : Int) = ((a + c : Nat) : Int) := by simp
theorem bitsN_card {x : Nat} : ∀ {m : Nat}, (bitsN (x : Int) m).length = cardN m x
  | 0 => rfl
  | m + 1 => by
    have ih := bitsN_card (x := x) (m := m)
    cases h : bitAt (x : Int) (m : Int) with
    | true =>
      rw [bitsN_hit h, List.length_append, ih]
      rw [bitAt_nat] at h
      simp [cardN, h]
    | false =>
      rw [bitsN_miss h, ih]
      rw [bitAt_nat] at h
      simp [cardN, h]
theorem cardN_more {x m : Nat} (h : x < 2 ^ m) : ∀ d, cardN (m + d) x = cardN m x
  | 0 => rfl
  | d + 1 => by
    rw [← Nat.add_assoc]
    have : x.testBit (m + d) = false := Nat.testBit_lt_two_pow (Nat.lt_of_lt_of_le h (Nat.pow_le_pow_right (by omega) (by omega)))
    simp only [cardN, this, cardN_more h d]
    simp
theorem small_n {b : Brd} (hs : isSmall b = true) : b.n.toNat < 65536 ∧ (b.n.toNat : Int) = b.n ∧ boardOk b = true := by
  have hb : boardOk b = true := by simp only [isSmall, Bool.and_eq_true] at hs; exact hs.1
  have n1 := (bok hb).n1
  have n2 := (bok hb).n2
  simp only [isSmall, Bool.and_eq_true, decide_eq_true_eq] at hs
  have h1 : (2 : Nat) ^ (b.w * b.h).toNat ≤ 2 ^ 16 := Nat.pow_le_pow_right (by omega) (by omega)
  have e : ((2 ^ (b.w * b.h).toNat : Nat) : Int) = (2 : Int) ^ (b.w * b.h).toNat := by simp
  exact ⟨by omega, by omega, hb⟩
theorem holes_card {b : Brd} (hs : isSmall b = true) : (holesOf b).length = cardN 16 b.n.toNat := by
  obtain ⟨h1, h2, h3⟩ := small_n hs
  rw [← holes_49 h3]
  conv => lhs; rw [← h2]
  rw [bitsN_card]
  exact cardN_more (m := 16) (by simpa using h1) 33
theorem CountHoles_c (b : Brd) : PC Try.prog 30 [] [.a (brdC b)] (vN ((holesOf b).length)) ⟨[], []⟩ := by
  refine pc_of Try.func30 rfl (by kernel_rfl) _ Try.ntmps30 (by simp) ?_
  simp -implicitDefEqProofs only [go_sem]
  refine callL (HolesOf_c 4 b) rfl rfl rfl ?_
  simp -implicitDefEqProofs only [go_sem]
  exact fin_scal rfl rfl
def pegs (x : Nat) : Nat := cardN 49 x
theorem pegs_16 {x : Nat} (h : x < 65536) : pegs x = cardN 16 x := cardN_more (m := 16) (by simpa using h) 33
end Go.Proofs.Ytahnbliabllflaa
namespace Go.Proofs.Ytahnbliabllflaa
open Go.PL
set_option linter.unusedSimpArgs false
noncomputable def backOf (b : Brd) (g : Int) : List Nat := listS (spreadL b true g)
theorem mem_listS {S : List Bool} {q : Nat} (h : q ∈ listS S) : hasS S (q : Int) = true := by
  unfold listS listN at h
  obtain ⟨h1, h2⟩ := List.mem_filter.1 h
  simp only [markedS] at h2
  simp [hasS, h2]
theorem listS_len {S : List Bool} (h : S.length ≤ 65536) : (listS S).length ≤ 65536 := by
  have := listN_len (S := S) (i := S.length)
  unfold listS; omega
theorem mem_back {b : Brd} {g : Int} {q : Nat} (h : q ∈ backOf b g) : positionOk b (q : Int) = true ∧ q < 65536 := by
  obtain ⟨h1, h2, h3, hb, _, hsub, hlt, _⟩ := spread_at (mem_listS h)
  have := spreadL_len (b := b) (bk := true) (p := g)
  rw [Int.toNat_natCast] at hlt
  exact ⟨h3, by omega⟩
def leastF (g acc : Int) (q : Nat) : Int := if (q : Int) ≠ g ∧ (acc < 0 ∨ (pegs q : Int) < acc) then pegs q else acc
def leastN (g : Int) (l : List Nat) (i : Nat) : Int := (l.take i).foldl (leastF g) (-1)
theorem leastN_step {g : Int} {l : List Nat} {i : Nat} (h : i < l.length) : leastN g l (i + 1) = leastF g (leastN g l i) l[i] := by
  unfold leastN
  rw [List.take_succ_eq_append_getElem h, List.foldl_append]
  rfl
theorem leastN_bd {g : Int} {l : List Nat} : ∀ {i : Nat}, -1 ≤ leastN g l i ∧ leastN g l i ≤ 49
  | 0 => by simp [leastN]
  | i + 1 => by
    by_cases h : i < l.length
    · have ih := leastN_bd (g := g) (l := l) (i := i)
      rw [leastN_step h]
      have := cardN_le (n := 49) (s := l[i])
      unfold leastF
      split
      · unfold pegs; omega
      · exact ih
    · have ih := leastN_bd (g := g) (l := l) (i := i)
      have e : leastN g l (i + 1) = leastN g l i := by
        simp only [leastN]
        rw [List.take_of_length_le (by omega), List.take_of_length_le (by omega)]
      rw [e]; exact ih
noncomputable def leastStart (b : Brd) (g : Int) : Int := leastN g (backOf b g) (backOf b g).length
/-! ### tight positions -/
def noSpare (b : Brd) (S : List Bool) (q : Nat) : Bool := decide ((spares b S (q : Int)).length = 0)
noncomputable def countTight (b : Brd) (g : Int) : Int :=
  if isSmall b = true ∧ positionOk b g = true ∧ (holesOf b).length ≤ 9 then ((backOf b g).filter (noSpare b (spreadL b true g))).length else -1
end Go.Proofs.Ytahnbliabllflaa
