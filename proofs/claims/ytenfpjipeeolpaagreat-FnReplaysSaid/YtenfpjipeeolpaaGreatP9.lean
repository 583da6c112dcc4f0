/-
  What the functions compute that count the bits of a number.
-/
import Derived.Test.YtenfpjipeeolpaaGreatP2
import Derived.Test.YtenfpjipeeolpaaGreatN1
import Derived.Test.YtenfpjipeeolpaaGreatGa
namespace Go.Proofs.YtenfpjipeeolpaaGreat
open Go.PL
set_option linter.unusedSimpArgs false
def pop1 (x : Nat) : Nat := (x / 2 ^ 1 &&& 6148914691236517205) + (x &&& 6148914691236517205)
def pop2 (x : Nat) : Nat := (x / 2 ^ 2 &&& 3689348814741910323) + (x &&& 3689348814741910323)
def pop3 (x : Nat) : Nat := (x / 2 ^ 4 + x) &&& 1085102592571150095
def pop4 (x : Nat) : Nat := x + x / 2 ^ 8
def pop5 (x : Nat) : Nat := x + x / 2 ^ 16
def pop6 (x : Nat) : Nat := x + x / 2 ^ 32
def popN (x : Nat) : Nat := pop6 (pop5 (pop4 (pop3 (pop2 (pop1 x))))) &&& 127
def popAll : Bool := (List.range 256).all fun a => (List.range 256).all fun c => popN (256 * a + c) == cardN 8 a + cardN 8 c
set_option maxRecDepth 100000 in
theorem popAll_true : popAll = true := by decide +kernel
theorem cardN_split : ∀ (m a c : Nat), c < 256 → cardN (8 + m) (256 * a + c) = cardN m a + cardN 8 c
  | 0, a, c, hc => by
    have e : ∀ j, j ≤ 8 → cardN j (256 * a + c) = cardN j c := by
      intro j
      induction j with
      | zero => intro _; rfl
      | succ j ih =>
        intro hj
        have : (256 * a + c).testBit j = c.testBit j := by
          have h := Nat.testBit_two_pow_mul_add (i := 8) a (b := c) (by simpa using hc) j
          rw [show (2 : Nat) ^ 8 = 256 from rfl] at h
          rw [h, if_pos (by omega)]
        simp only [cardN, ih (by omega), this]
    rw [Nat.add_zero, e 8 (by omega)]
    simp [cardN]
  | m + 1, a, c, hc => by
    have ih := cardN_split m a c hc
    have : (256 * a + c).testBit (8 + m) = a.testBit m := by
      have h := Nat.testBit_two_pow_mul_add (i := 8) a (b := c) (by simpa using hc) (8 + m)
      rw [show (2 : Nat) ^ 8 = 256 from rfl] at h
      rw [h, if_neg (by omega)]
      congr 1
      omega
    rw [← Nat.add_assoc, show cardN (8 + m + 1) (256 * a + c) = cardN (8 + m) (256 * a + c) + (if (256 * a + c).testBit (8 + m) = true then 1 else 0) from rfl,
      show cardN (m + 1) a = cardN m a + (if a.testBit m = true then 1 else 0) from rfl, this, ih]
    omega
theorem popN_card {x : Nat} (hx : x < 65536) : popN x = cardN 16 x := by
  have h := popAll_true
  unfold popAll at h
  have h1 := List.all_eq_true.1 h (x / 256) (List.mem_range.2 (by omega))
  have h2 := List.all_eq_true.1 h1 (x % 256) (List.mem_range.2 (by omega))
  have e : 256 * (x / 256) + x % 256 = x := by omega
  rw [e] at h2
  have h3 := cardN_split 8 (x / 256) (x % 256) (by omega)
  rw [e] at h3
  rw [h3]
  simpa using h2
theorem shr_nat {x n : Nat} : (x : Int) / 2 ^ n = ((x / 2 ^ n : Nat) : Int) := by simp
theorem add_nat {a c : Nat} : (a : Int) + (c : Int) = ((a + c : Nat) : Int) := by simp
theorem bitsN_card {x : Nat} : ∀ {m : Nat}, (bitsN (x : Int) m).length = cardN m x
  | 0 => rfl
  | m + 1 => by
    have ih := bitsN_card (x := x) (m := m)
    cases h : bitAt (x : Int) (m : Int) with
    | true =>
      rw [bitsN_hit h, List.length_append, ih]
      rw [bitAt_nat] at h
      simp [cardN, h]
    | false =>
      rw [bitsN_miss h, ih]
      rw [bitAt_nat] at h
      simp [cardN, h]
theorem cardN_more {x m : Nat} (h : x < 2 ^ m) : ∀ d, cardN (m + d) x = cardN m x
  | 0 => rfl
  | d + 1 => by
    rw [← Nat.add_assoc]
    have : x.testBit (m + d) = false := Nat.testBit_lt_two_pow (Nat.lt_of_lt_of_le h (Nat.pow_le_pow_right (by omega) (by omega)))
    simp only [cardN, this, cardN_more h d]
    simp
theorem small_n {b : Brd} (hs : isSmall b = true) : b.n.toNat < 65536 ∧ (b.n.toNat : Int) = b.n ∧ boardOk b = true := by
  have hb : boardOk b = true := by simp only [isSmall, Bool.and_eq_true] at hs; exact hs.1
  have n1 := (bok hb).n1
  have n2 := (bok hb).n2
  simp only [isSmall, Bool.and_eq_true, decide_eq_true_eq] at hs
  have h1 : (2 : Nat) ^ (b.w * b.h).toNat ≤ 2 ^ 16 := Nat.pow_le_pow_right (by omega) (by omega)
  have e : ((2 ^ (b.w * b.h).toNat : Nat) : Int) = (2 : Int) ^ (b.w * b.h).toNat := by simp
  exact ⟨by omega, by omega, hb⟩
theorem holes_card {b : Brd} (hs : isSmall b = true) : (holesOf b).length = cardN 16 b.n.toNat := by
  obtain ⟨h1, h2, h3⟩ := small_n hs
  rw [← holes_49 h3]
  conv => lhs; rw [← h2]
  rw [bitsN_card]
  exact cardN_more (m := 16) (by simpa using h1) 33
theorem CountHoles_c (b : Brd) : PC Tryz.prog 116 [] [.a (brdC b)] (vN ((holesOf b).length)) ⟨[], []⟩ := by
  refine pc_of Tryz.func116 rfl (by kernel_rfl) _ Tryz.ntmps116 (by simp) ?_
  simp -implicitDefEqProofs only [go_sem]
  refine callL (HolesOf_c 4 b) rfl rfl rfl ?_
  simp -implicitDefEqProofs only [go_sem]
  exact fin_scal rfl rfl
def pegs (x : Nat) : Nat := cardN 49 x
theorem pegs_16 {x : Nat} (h : x < 65536) : pegs x = cardN 16 x := cardN_more (m := 16) (by simpa using h) 33
end Go.Proofs.YtenfpjipeeolpaaGreat
