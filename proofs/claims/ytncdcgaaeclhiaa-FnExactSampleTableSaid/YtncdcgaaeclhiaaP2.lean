/-
  What the functions compute that make a jump and undo one.
-/
import Derived.Test.YtncdcgaaeclhiaaP1
import Derived.Test.YtncdcgaaeclhiaaL8
namespace Go.Proofs.Ytncdcgaaeclhiaa
open Go.PL
set_option linter.unusedSimpArgs false
structure LnIn (l : Ln) : Prop where
  f0 : 0 ≤ l.f
  f1 : l.f ≤ 48
  o0 : 0 ≤ l.o
  o1 : l.o ≤ 48
  t0 : 0 ≤ l.t
  t1 : l.t ≤ 48
theorem lnIn {b : Brd} {l : Ln} (h : l ∈ linesOf b) : LnIn l := by
  obtain ⟨_, h1, h2, h3⟩ := mem_lines h
  have a := hole_bd h1
  have c := hole_bd h2
  have d := hole_bd h3
  exact ⟨a.2.1, a.2.2, c.2.1, c.2.2, d.2.1, d.2.2⟩
def canJ (p : Int) (l : Ln) : Bool := bitAt p l.f && (bitAt p l.o && !bitAt p l.t)
def canU (p : Int) (l : Ln) : Bool := !bitAt p l.f && (!bitAt p l.o && bitAt p l.t)
/-- the three holes of a line, as a set -/
def bitsL (l : Ln) : Nat := 2 ^ l.f.toNat ||| 2 ^ l.o.toNat ||| 2 ^ l.t.toNat
def flip (p : Int) (l : Ln) : Int := ((p.toNat ^^^ bitsL l : Nat) : Int)
def jmp (p : Int) (l : Ln) : Nat := ndiff (ndiff p.toNat (2 ^ l.f.toNat)) (2 ^ l.o.toNat) ||| 2 ^ l.t.toNat
def und (p : Int) (l : Ln) : Nat := ndiff p.toNat (2 ^ l.t.toNat) ||| 2 ^ l.f.toNat ||| 2 ^ l.o.toNat
theorem tb_ndiff {a b j : Nat} : (ndiff a b).testBit j = (a.testBit j && !b.testBit j) := by
  unfold ndiff
  rw [Nat.testBit_xor, Nat.testBit_and]
  cases a.testBit j <;> cases b.testBit j <;> rfl
theorem bitAt_toNat {p k : Int} (hp : 0 ≤ p) (hk : 0 ≤ k) : bitAt p k = p.toNat.testBit k.toNat := by
  conv => lhs; rw [← Int.toNat_of_nonneg hp]
  exact bitAt_int hk
theorem toNat_inj {a b : Int} (ha : 0 ≤ a) (hb : 0 ≤ b) (h : a.toNat = b.toNat) : a = b := by omega
theorem can_and {p : Int} {l : Ln} (hp : 0 ≤ p) (hl : LnIn l) (h1 : l.o ≠ l.t) (h2 : l.f ≠ l.t) : (p.toNat &&& bitsL l = 2 ^ l.f.toNat ||| 2 ^ l.o.toNat) ↔ canJ p l = true := by
  obtain ⟨f0, f1, o0, o1, t0, t1⟩ := hl
  have n1 : l.o.toNat ≠ l.t.toNat := fun e => h1 (toNat_inj o0 t0 e)
  have n2 : l.f.toNat ≠ l.t.toNat := fun e => h2 (toNat_inj f0 t0 e)
  simp only [canJ, bitAt_toNat hp f0, bitAt_toNat hp o0, bitAt_toNat hp t0, Bool.and_eq_true, Bool.not_eq_true']
  constructor
  · intro h
    have hj : ∀ j, (p.toNat &&& bitsL l).testBit j = (2 ^ l.f.toNat ||| 2 ^ l.o.toNat).testBit j := fun j => by rw [h]
    have a := hj l.f.toNat
    have c := hj l.o.toNat
    have d := hj l.t.toNat
    simp only [bitsL, Nat.testBit_and, Nat.testBit_or, Nat.testBit_two_pow] at a c d
    simp [n1, n2] at a c d
    exact ⟨a, c, d⟩
  · rintro ⟨a, c, d⟩
    apply Nat.eq_of_testBit_eq
    intro j
    simp only [bitsL, Nat.testBit_and, Nat.testBit_or, Nat.testBit_two_pow]
    by_cases e1 : l.f.toNat = j
    · subst e1; simp [a]
    · by_cases e2 : l.o.toNat = j
      · subst e2; simp [c]
      · by_cases e3 : l.t.toNat = j
        · subst e3; simp [d, n1, n2]
        · simp [e1, e2, e3]
theorem canU_and {p : Int} {l : Ln} (hp : 0 ≤ p) (hl : LnIn l) (h1 : l.o ≠ l.t) (h2 : l.f ≠ l.t) : (p.toNat &&& bitsL l = 2 ^ l.t.toNat) ↔ canU p l = true := by
  obtain ⟨f0, f1, o0, o1, t0, t1⟩ := hl
  have n1 : ¬ l.t.toNat = l.o.toNat := fun e => h1 (toNat_inj o0 t0 e.symm)
  have n2 : ¬ l.t.toNat = l.f.toNat := fun e => h2 (toNat_inj f0 t0 e.symm)
  simp only [canU, bitAt_toNat hp f0, bitAt_toNat hp o0, bitAt_toNat hp t0, Bool.and_eq_true, Bool.not_eq_true']
  constructor
  · intro h
    have hj : ∀ j, (p.toNat &&& bitsL l).testBit j = (2 ^ l.t.toNat).testBit j := fun j => by rw [h]
    have a := hj l.f.toNat
    have c := hj l.o.toNat
    have d := hj l.t.toNat
    simp only [bitsL, Nat.testBit_and, Nat.testBit_or, Nat.testBit_two_pow] at a c d
    simp [n1, n2] at a c d
    exact ⟨a, c, d⟩
  · rintro ⟨a, c, d⟩
    apply Nat.eq_of_testBit_eq
    intro j
    simp only [bitsL, Nat.testBit_and, Nat.testBit_or, Nat.testBit_two_pow]
    by_cases e1 : l.f.toNat = j
    · subst e1; simp [a, n2]
    · by_cases e2 : l.o.toNat = j
      · subst e2; simp [c, n1]
      · by_cases e3 : l.t.toNat = j
        · subst e3; simp [d]
        · simp [e1, e2, e3]
theorem jmp_flip {p : Int} {l : Ln} (hp : 0 ≤ p) (hl : LnIn l) (h1 : l.o ≠ l.t) (h2 : l.f ≠ l.t) (hc : canJ p l = true) : jmp p l = p.toNat ^^^ bitsL l := by
  obtain ⟨f0, f1, o0, o1, t0, t1⟩ := hl
  have n1 : ¬ l.o.toNat = l.t.toNat := fun e => h1 (toNat_inj o0 t0 e)
  have n2 : ¬ l.f.toNat = l.t.toNat := fun e => h2 (toNat_inj f0 t0 e)
  simp only [canJ, bitAt_toNat hp f0, bitAt_toNat hp o0, bitAt_toNat hp t0, Bool.and_eq_true, Bool.not_eq_true'] at hc
  obtain ⟨a, c, d⟩ := hc
  apply Nat.eq_of_testBit_eq
  intro j
  simp only [jmp, bitsL, tb_ndiff, Nat.testBit_xor, Nat.testBit_or, Nat.testBit_two_pow]
  by_cases e1 : l.f.toNat = j
  · subst e1; simp [a, Ne.symm n2]
  · by_cases e2 : l.o.toNat = j
    · subst e2; simp [c, Ne.symm n1]
    · by_cases e3 : l.t.toNat = j
      · subst e3; simp [d]
      · simp [e1, e2, e3]
theorem und_flip {p : Int} {l : Ln} (hp : 0 ≤ p) (hl : LnIn l) (h1 : l.o ≠ l.t) (h2 : l.f ≠ l.t) (hc : canU p l = true) : und p l = p.toNat ^^^ bitsL l := by
  obtain ⟨f0, f1, o0, o1, t0, t1⟩ := hl
  have n1 : ¬ l.o.toNat = l.t.toNat := fun e => h1 (toNat_inj o0 t0 e)
  have n2 : ¬ l.f.toNat = l.t.toNat := fun e => h2 (toNat_inj f0 t0 e)
  simp only [canU, bitAt_toNat hp f0, bitAt_toNat hp o0, bitAt_toNat hp t0, Bool.and_eq_true, Bool.not_eq_true'] at hc
  obtain ⟨a, c, d⟩ := hc
  apply Nat.eq_of_testBit_eq
  intro j
  simp only [und, bitsL, tb_ndiff, Nat.testBit_xor, Nat.testBit_or, Nat.testBit_two_pow]
  by_cases e1 : l.f.toNat = j
  · subst e1; simp [a]
  · by_cases e2 : l.o.toNat = j
    · subst e2; simp [c]
    · by_cases e3 : l.t.toNat = j
      · subst e3; simp [d, n1, n2]
      · simp [e1, e2, e3]
theorem pow48 {k : Int} (h0 : 0 ≤ k) (h1 : k ≤ 48) : 1 ≤ (2 : Nat) ^ k.toNat ∧ (2 : Nat) ^ k.toNat ≤ 281474976710656 := by
  have h1 : (2 : Nat) ^ k.toNat ≤ 2 ^ 48 := Nat.pow_le_pow_right (by omega) (by omega)
  have h2 : 0 < (2 : Nat) ^ k.toNat := Nat.pow_pos (by omega)
  omega
theorem or63 {a c : Nat} (h1 : a ≤ 9223372036854775807) (h2 : c ≤ 9223372036854775807) : a ||| c ≤ 9223372036854775807 := by
  have := Nat.or_lt_two_pow (n := 63) (x := a) (y := c) (by omega) (by omega)
  omega
theorem xor63 {a c : Nat} (h1 : a ≤ 9223372036854775807) (h2 : c ≤ 9223372036854775807) : a ^^^ c ≤ 9223372036854775807 := by
  have := Nat.xor_lt_two_pow (n := 63) (x := a) (y := c) (by omega) (by omega)
  omega
@[go_sem] theorem powI {n : Nat} : (1 : Int) * 2 ^ n = ((2 ^ n : Nat) : Int) := by simp
theorem bitsL_le {l : Ln} (hl : LnIn l) : bitsL l ≤ 562949953421311 := by
  obtain ⟨f0, f1, o0, o1, t0, t1⟩ := hl
  have h : bitsL l < 2 ^ 49 := Nat.or_lt_two_pow (Nat.or_lt_two_pow (Nat.pow_lt_pow_right (by omega) (by omega)) (Nat.pow_lt_pow_right (by omega) (by omega))) (Nat.pow_lt_pow_right (by omega) (by omega))
  omega
theorem l05Bits_c (l : Ln) (hl : LnIn l) : PC Try.prog 124 [] [.a (lineC l)] (vN (bitsL l : Nat)) ⟨[], []⟩ := by
  refine pc_of Try.func124 rfl (by kernel_rfl) _ Try.ntmps124 (by simp) ?_
  obtain ⟨f0, f1, o0, o1, t0, t1⟩ := hl
  have p1 := pow48 f0 f1
  have p2 := pow48 o0 o1
  have p3 := pow48 t0 t1
  have q1 := or63 (a := 2 ^ l.f.toNat) (c := 2 ^ l.o.toNat) (by omega) (by omega)
  have q2 := or63 (a := 2 ^ l.f.toNat ||| 2 ^ l.o.toNat) (c := 2 ^ l.t.toNat) q1 (by omega)
  simp -implicitDefEqProofs only [go_sem, Nat.reduceLT, Nat.reduceLeDiff, Nat.reduceEqDiff, Nat.reduceAdd, Nat.reduceSub, Nat.reduceMul, Int.reduceEq, Int.reduceLT, Int.reduceLE, Int.reduceNeg, Int.reduceAdd, Int.reduceSub, Int.reduceMul, Int.reduceToNat, reduceIte, reduceCtorEq, List.map_cons, List.map_nil]
  refine draw_step Try.pl_follows (by kernel_rfl) ?_
  (repeat' (first | simp -implicitDefEqProofs only [go_sem, Nat.reduceLT, Nat.reduceLeDiff, Nat.reduceEqDiff, Nat.reduceAdd, Nat.reduceSub, Nat.reduceMul, Int.reduceEq, Int.reduceLT, Int.reduceLE, Int.reduceNeg, Int.reduceAdd, Int.reduceSub, Int.reduceMul, Int.reduceToNat, reduceIte, reduceCtorEq, List.map_cons, List.map_nil] | (refine And.intro ?_ ?_; omega) | (refine And.intro (shr_bd ?_ ?_) ?_; omega; omega) | refine sl_list rfl ?_ | refine sd_list rfl ?_ | refine sl_str ?_ | refine sd_str ?_))
  exact fin_scal rfl rfl
def jumpI (p : Int) (l : Ln) : Int := if canJ p l = true then (jmp p l : Nat) else p
def undoI (p : Int) (l : Ln) : Int := if canU p l = true then (und p l : Nat) else p
theorem jumpFrom_c (p : Int) (l : Ln) (h0 : 0 ≤ p) (h1 : p ≤ 9223372036854775807) (hl : LnIn l) : PC Try.prog 127 [] [.c (.v (.int .i64 p)), .a (lineC l)] (.t [.c (.v (.int .i64 (jumpI p l))), .c (.v (.bool (canJ p l)))]) ⟨[], []⟩ := by
  refine pc_of Try.func127 rfl (by kernel_rfl) _ Try.ntmps127 (by simp) ?_
  obtain ⟨f0, f1, o0, o1, t0, t1⟩ := hl
  have p1 := pow48 f0 f1
  have p2 := pow48 o0 o1
  have p3 := pow48 t0 t1
  have n1 := ndiff_le p.toNat (2 ^ l.f.toNat)
  have n2 := ndiff_le (ndiff p.toNat (2 ^ l.f.toNat)) (2 ^ l.o.toNat)
  have q1 := or63 (a := ndiff (ndiff p.toNat (2 ^ l.f.toNat)) (2 ^ l.o.toNat)) (c := 2 ^ l.t.toNat) (by omega) (by omega)
  (repeat' (first | simp -implicitDefEqProofs only [go_sem, Nat.reduceLT, Nat.reduceLeDiff, Nat.reduceEqDiff, Nat.reduceAdd, Nat.reduceSub, Nat.reduceMul, Int.reduceEq, Int.reduceLT, Int.reduceLE, Int.reduceNeg, Int.reduceAdd, Int.reduceSub, Int.reduceMul, Int.reduceToNat, reduceIte, reduceCtorEq, List.map_cons, List.map_nil] | (refine And.intro ?_ ?_; omega) | (refine And.intro (shr_bd ?_ ?_) ?_; omega; omega) | refine sl_list rfl ?_ | refine sd_list rfl ?_ | refine sl_str ?_ | refine sd_str ?_))
  refine callS (hasBit_c p l.f h0 h1 f0 (by omega)) rfl rfl rfl ?_
  by_cases a : bitAt p l.f = true
  · (repeat' (first | simp -implicitDefEqProofs only [a, go_sem, Nat.reduceLT, Nat.reduceLeDiff, Nat.reduceEqDiff, Nat.reduceAdd, Nat.reduceSub, Nat.reduceMul, Int.reduceEq, Int.reduceLT, Int.reduceLE, Int.reduceNeg, Int.reduceAdd, Int.reduceSub, Int.reduceMul, Int.reduceToNat, reduceIte, reduceCtorEq, List.map_cons, List.map_nil] | (refine And.intro ?_ ?_; omega) | (refine And.intro (shr_bd ?_ ?_) ?_; omega; omega) | refine sl_list rfl ?_ | refine sd_list rfl ?_ | refine sl_str ?_ | refine sd_str ?_))
    refine callS (hasBit_c p l.o h0 h1 o0 (by omega)) rfl rfl rfl ?_
    by_cases c : bitAt p l.o = true
    · (repeat' (first | simp -implicitDefEqProofs only [a, c, go_sem, Nat.reduceLT, Nat.reduceLeDiff, Nat.reduceEqDiff, Nat.reduceAdd, Nat.reduceSub, Nat.reduceMul, Int.reduceEq, Int.reduceLT, Int.reduceLE, Int.reduceNeg, Int.reduceAdd, Int.reduceSub, Int.reduceMul, Int.reduceToNat, reduceIte, reduceCtorEq, List.map_cons, List.map_nil] | (refine And.intro ?_ ?_; omega) | (refine And.intro (shr_bd ?_ ?_) ?_; omega; omega) | refine sl_list rfl ?_ | refine sd_list rfl ?_ | refine sl_str ?_ | refine sd_str ?_))
      refine callS (hasBit_c p l.t h0 h1 t0 (by omega)) rfl rfl rfl ?_
      by_cases d : bitAt p l.t = true
      · have e : canJ p l = false := by simp [canJ, d]
        simp -implicitDefEqProofs only [a, c, d, go_sem, Nat.reduceLT, Nat.reduceLeDiff, Nat.reduceEqDiff, Nat.reduceAdd, Nat.reduceSub, Nat.reduceMul, Int.reduceEq, Int.reduceLT, Int.reduceLE, Int.reduceNeg, Int.reduceAdd, Int.reduceSub, Int.reduceMul, Int.reduceToNat, reduceIte, reduceCtorEq, List.map_cons, List.map_nil]
        exact fin_scal rfl (by simp [jumpI, e])
      · have e : canJ p l = true := by simp [canJ, a, c, d]
        simp -implicitDefEqProofs only [a, c, d, go_sem, Nat.reduceLT, Nat.reduceLeDiff, Nat.reduceEqDiff, Nat.reduceAdd, Nat.reduceSub, Nat.reduceMul, Int.reduceEq, Int.reduceLT, Int.reduceLE, Int.reduceNeg, Int.reduceAdd, Int.reduceSub, Int.reduceMul, Int.reduceToNat, reduceIte, reduceCtorEq, List.map_cons, List.map_nil]
        refine draw_step Try.pl_follows (by kernel_rfl) ?_
        (repeat' (first | simp -implicitDefEqProofs only [go_sem, Nat.reduceLT, Nat.reduceLeDiff, Nat.reduceEqDiff, Nat.reduceAdd, Nat.reduceSub, Nat.reduceMul, Int.reduceEq, Int.reduceLT, Int.reduceLE, Int.reduceNeg, Int.reduceAdd, Int.reduceSub, Int.reduceMul, Int.reduceToNat, reduceIte, reduceCtorEq, List.map_cons, List.map_nil] | (refine And.intro ?_ ?_; omega) | (refine And.intro (shr_bd ?_ ?_) ?_; omega; omega) | refine sl_list rfl ?_ | refine sd_list rfl ?_ | refine sl_str ?_ | refine sd_str ?_))
        exact fin_scal rfl (by simp [jumpI, e, jmp])
    · have e : canJ p l = false := by simp [canJ, c]
      simp -implicitDefEqProofs only [a, c, go_sem, Nat.reduceLT, Nat.reduceLeDiff, Nat.reduceEqDiff, Nat.reduceAdd, Nat.reduceSub, Nat.reduceMul, Int.reduceEq, Int.reduceLT, Int.reduceLE, Int.reduceNeg, Int.reduceAdd, Int.reduceSub, Int.reduceMul, Int.reduceToNat, reduceIte, reduceCtorEq, List.map_cons, List.map_nil]
      exact fin_scal rfl (by simp [jumpI, e])
  · have e : canJ p l = false := by simp [canJ, a]
    simp -implicitDefEqProofs only [a, go_sem, Nat.reduceLT, Nat.reduceLeDiff, Nat.reduceEqDiff, Nat.reduceAdd, Nat.reduceSub, Nat.reduceMul, Int.reduceEq, Int.reduceLT, Int.reduceLE, Int.reduceNeg, Int.reduceAdd, Int.reduceSub, Int.reduceMul, Int.reduceToNat, reduceIte, reduceCtorEq, List.map_cons, List.map_nil]
    exact fin_scal rfl (by simp [jumpI, e])
theorem undoFrom_c (p : Int) (l : Ln) (h0 : 0 ≤ p) (h1 : p ≤ 9223372036854775807) (hl : LnIn l) : PC Try.prog 133 [] [.c (.v (.int .i64 p)), .a (lineC l)] (.t [.c (.v (.int .i64 (undoI p l))), .c (.v (.bool (canU p l)))]) ⟨[], []⟩ := by
  refine pc_of Try.func133 rfl (by kernel_rfl) _ Try.ntmps133 (by simp) ?_
  obtain ⟨f0, f1, o0, o1, t0, t1⟩ := hl
  have p1 := pow48 f0 f1
  have p2 := pow48 o0 o1
  have p3 := pow48 t0 t1
  have n1 := ndiff_le p.toNat (2 ^ l.t.toNat)
  have q1 := or63 (a := ndiff p.toNat (2 ^ l.t.toNat)) (c := 2 ^ l.f.toNat) (by omega) (by omega)
  have q2 := or63 (a := ndiff p.toNat (2 ^ l.t.toNat) ||| 2 ^ l.f.toNat) (c := 2 ^ l.o.toNat) q1 (by omega)
  (repeat' (first | simp -implicitDefEqProofs only [go_sem, Nat.reduceLT, Nat.reduceLeDiff, Nat.reduceEqDiff, Nat.reduceAdd, Nat.reduceSub, Nat.reduceMul, Int.reduceEq, Int.reduceLT, Int.reduceLE, Int.reduceNeg, Int.reduceAdd, Int.reduceSub, Int.reduceMul, Int.reduceToNat, reduceIte, reduceCtorEq, List.map_cons, List.map_nil] | (refine And.intro ?_ ?_; omega) | (refine And.intro (shr_bd ?_ ?_) ?_; omega; omega) | refine sl_list rfl ?_ | refine sd_list rfl ?_ | refine sl_str ?_ | refine sd_str ?_))
  refine callS (hasBit_c p l.f h0 h1 f0 (by omega)) rfl rfl rfl ?_
  by_cases a : bitAt p l.f = true
  · have e : canU p l = false := by simp [canU, a]
    simp -implicitDefEqProofs only [a, go_sem, Nat.reduceLT, Nat.reduceLeDiff, Nat.reduceEqDiff, Nat.reduceAdd, Nat.reduceSub, Nat.reduceMul, Int.reduceEq, Int.reduceLT, Int.reduceLE, Int.reduceNeg, Int.reduceAdd, Int.reduceSub, Int.reduceMul, Int.reduceToNat, reduceIte, reduceCtorEq, List.map_cons, List.map_nil]
    exact fin_scal rfl (by simp [undoI, e])
  · (repeat' (first | simp -implicitDefEqProofs only [a, go_sem, Nat.reduceLT, Nat.reduceLeDiff, Nat.reduceEqDiff, Nat.reduceAdd, Nat.reduceSub, Nat.reduceMul, Int.reduceEq, Int.reduceLT, Int.reduceLE, Int.reduceNeg, Int.reduceAdd, Int.reduceSub, Int.reduceMul, Int.reduceToNat, reduceIte, reduceCtorEq, List.map_cons, List.map_nil] | (refine And.intro ?_ ?_; omega) | (refine And.intro (shr_bd ?_ ?_) ?_; omega; omega) | refine sl_list rfl ?_ | refine sd_list rfl ?_ | refine sl_str ?_ | refine sd_str ?_))
    refine callS (hasBit_c p l.o h0 h1 o0 (by omega)) rfl rfl rfl ?_
    by_cases c : bitAt p l.o = true
    · have e : canU p l = false := by simp [canU, c]
      simp -implicitDefEqProofs only [a, c, go_sem, Nat.reduceLT, Nat.reduceLeDiff, Nat.reduceEqDiff, Nat.reduceAdd, Nat.reduceSub, Nat.reduceMul, Int.reduceEq, Int.reduceLT, Int.reduceLE, Int.reduceNeg, Int.reduceAdd, Int.reduceSub, Int.reduceMul, Int.reduceToNat, reduceIte, reduceCtorEq, List.map_cons, List.map_nil]
      exact fin_scal rfl (by simp [undoI, e])
    · (repeat' (first | simp -implicitDefEqProofs only [a, c, go_sem, Nat.reduceLT, Nat.reduceLeDiff, Nat.reduceEqDiff, Nat.reduceAdd, Nat.reduceSub, Nat.reduceMul, Int.reduceEq, Int.reduceLT, Int.reduceLE, Int.reduceNeg, Int.reduceAdd, Int.reduceSub, Int.reduceMul, Int.reduceToNat, reduceIte, reduceCtorEq, List.map_cons, List.map_nil] | (refine And.intro ?_ ?_; omega) | (refine And.intro (shr_bd ?_ ?_) ?_; omega; omega) | refine sl_list rfl ?_ | refine sd_list rfl ?_ | refine sl_str ?_ | refine sd_str ?_))
      refine callS (hasBit_c p l.t h0 h1 t0 (by omega)) rfl rfl rfl ?_
      by_cases d : bitAt p l.t = true
      · have e : canU p l = true := by simp [canU, a, c, d]
        simp -implicitDefEqProofs only [a, c, d, go_sem, Nat.reduceLT, Nat.reduceLeDiff, Nat.reduceEqDiff, Nat.reduceAdd, Nat.reduceSub, Nat.reduceMul, Int.reduceEq, Int.reduceLT, Int.reduceLE, Int.reduceNeg, Int.reduceAdd, Int.reduceSub, Int.reduceMul, Int.reduceToNat, reduceIte, reduceCtorEq, List.map_cons, List.map_nil]
        refine draw_step Try.pl_follows (by kernel_rfl) ?_
        (repeat' (first | simp -implicitDefEqProofs only [go_sem, Nat.reduceLT, Nat.reduceLeDiff, Nat.reduceEqDiff, Nat.reduceAdd, Nat.reduceSub, Nat.reduceMul, Int.reduceEq, Int.reduceLT, Int.reduceLE, Int.reduceNeg, Int.reduceAdd, Int.reduceSub, Int.reduceMul, Int.reduceToNat, reduceIte, reduceCtorEq, List.map_cons, List.map_nil] | (refine And.intro ?_ ?_; omega) | (refine And.intro (shr_bd ?_ ?_) ?_; omega; omega) | refine sl_list rfl ?_ | refine sd_list rfl ?_ | refine sl_str ?_ | refine sd_str ?_))
        exact fin_scal rfl (by simp [undoI, e, und])
      · have e : canU p l = false := by simp [canU, d]
        simp -implicitDefEqProofs only [a, c, d, go_sem, Nat.reduceLT, Nat.reduceLeDiff, Nat.reduceEqDiff, Nat.reduceAdd, Nat.reduceSub, Nat.reduceMul, Int.reduceEq, Int.reduceLT, Int.reduceLE, Int.reduceNeg, Int.reduceAdd, Int.reduceSub, Int.reduceMul, Int.reduceToNat, reduceIte, reduceCtorEq, List.map_cons, List.map_nil]
        exact fin_scal rfl (by simp [undoI, e])
end Go.Proofs.Ytncdcgaaeclhiaa
