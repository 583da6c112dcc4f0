/-
  What the functions on boards compute: valid boards, holes.
  What the functions on boards compute: the list of holes, a step, the lines.
-/
import Derived.Test.YtlplopaahflcpaaDoorL1
import Derived.Test.YtlplopaahflcpaaDoorGa
import Derived.Test.YtlplopaahflcpaaDoorEg
namespace Go.Proofs.YtlplopaahflcpaaDoor
open Go.PL
set_option linter.unusedSimpArgs false
structure Brd where
  w : Int
  h : Int
  n : Int
abbrev brdC (b : Brd) : List C := [.v (.int .i64 b.w), .v (.int .i64 b.h), .v (.int .i64 b.n)]
def bitAt (n k : Int) : Bool := decide ((((n / 2 ^ k.toNat).toNat &&& 1 : Nat) : Int) = 1)
@[go_sem] theorem bit1_fold {n k : Int} : decide ((((n / 2 ^ k.toNat).toNat &&& 1 : Nat) : Int) = 1) = bitAt n k := rfl
@[go_sem] theorem bit0_fold {n k : Int} : decide ((((n / 2 ^ k.toNat).toNat &&& 1 : Nat) : Int) = 0) = !bitAt n k := by
  unfold bitAt
  have : ((n / 2 ^ k.toNat).toNat &&& 1) = (n / 2 ^ k.toNat).toNat % 2 := Nat.and_one_is_mod _
  rw [this]
  have h2 := Nat.mod_lt (n / 2 ^ k.toNat).toNat (show 2 > 0 by omega)
  by_cases h : (n / 2 ^ k.toNat).toNat % 2 = 1
  · simp [h]
  · have : (n / 2 ^ k.toNat).toNat % 2 = 0 := by omega
    simp [this]
theorem within_iff {a b c : Int} : within a b c = true ↔ b ≤ a ∧ a ≤ c := by simp [within]
theorem within_not {a b c : Int} : within a b c = false ↔ ¬ (b ≤ a ∧ a ≤ c) := by rw [← within_iff]; simp
theorem mul_bd {w h : Int} (h1 : 1 ≤ w) (h2 : w ≤ 7) (h3 : 1 ≤ h) (h4 : h ≤ 7) : 1 ≤ w * h ∧ w * h ≤ 49 := by
  have a : w = 1 ∨ w = 2 ∨ w = 3 ∨ w = 4 ∨ w = 5 ∨ w = 6 ∨ w = 7 := by omega
  rcases a with rfl | rfl | rfl | rfl | rfl | rfl | rfl <;> omega
theorem pow_bd {m : Int} (h0 : 0 ≤ m) (h : m ≤ 49) : 1 ≤ (2 : Int) ^ m.toNat ∧ (2 : Int) ^ m.toNat ≤ 562949953421312 := by
  have h1 : (2 : Nat) ^ m.toNat ≤ 2 ^ 49 := Nat.pow_le_pow_right (by omega) (by omega)
  have h2 : 0 < (2 : Nat) ^ m.toNat := Nat.pow_pos (by omega)
  have e : ((2 ^ m.toNat : Nat) : Int) = (2 : Int) ^ m.toNat := by simp
  rw [← e]
  omega
def sideOk (b : Brd) : Bool := within b.w 1 7 && within b.h 1 7
def boardOk (b : Brd) : Bool := sideOk b && within b.n 1 (2 ^ (b.w * b.h).toNat - 1)
structure BOk (b : Brd) : Prop where
  w1 : 1 ≤ b.w
  w2 : b.w ≤ 7
  h1 : 1 ≤ b.h
  h2 : b.h ≤ 7
  m1 : 1 ≤ b.w * b.h
  m2 : b.w * b.h ≤ 49
  n1 : 1 ≤ b.n
  n2 : b.n ≤ 2 ^ (b.w * b.h).toNat - 1
  n3 : b.n ≤ 562949953421311
theorem bok {b : Brd} (h : boardOk b = true) : BOk b := by
  simp only [boardOk, sideOk, Bool.and_eq_true, within_iff] at h
  obtain ⟨⟨⟨h1, h2⟩, h3, h4⟩, h5, h6⟩ := h
  have hm := mul_bd h1 h2 h3 h4
  have hp := pow_bd (by omega) hm.2
  exact ⟨h1, h2, h3, h4, hm.1, hm.2, h5, h6, by omega⟩
def hasHole (b : Brd) (k : Int) : Bool := boardOk b && within k 0 (b.w * b.h - 1) && bitAt b.n k
attribute [irreducible] bitAt
end Go.Proofs.YtlplopaahflcpaaDoor
namespace Go.Proofs.YtlplopaahflcpaaDoor
open Go.PL
set_option linter.unusedSimpArgs false
abbrev iV (n : Int) : Value := .int .i64 n
def bitsN (n : Int) (m : Nat) : List Int := ((List.range m).filter (fun (k : Nat) => bitAt n (k : Int))).map (fun (k : Nat) => (k : Int))
@[go_sem] theorem bit1_foldN {n : Int} {i : Nat} : decide ((((n / 2 ^ i).toNat &&& 1 : Nat) : Int) = 1) = bitAt n (i : Int) := by simp [bitAt]
theorem bitsN_zero {n : Int} : bitsN n 0 = [] := rfl
theorem bitsN_hit {n : Int} {m : Nat} (h : bitAt n (m : Int) = true) : bitsN n (m + 1) = bitsN n m ++ [(m : Int)] := by simp [bitsN, List.range_succ, List.filter_append, h]
theorem bitsN_miss {n : Int} {m : Nat} (h : bitAt n (m : Int) = false) : bitsN n (m + 1) = bitsN n m := by simp [bitsN, List.range_succ, List.filter_append, h]
theorem bitsN_len {n : Int} {m : Nat} : (bitsN n m).length ≤ m := by
  have := List.length_filter_le (fun k : Nat => bitAt n (k : Int)) (List.range m)
  simp [bitsN] at this ⊢
  omega
theorem bitsN_more {n : Int} {m : Nat} (h0 : 0 ≤ n) (h : n < 2 ^ m) : ∀ d, bitsN n (m + d) = bitsN n m
  | 0 => rfl
  | d + 1 => by
    rw [← Nat.add_assoc, bitsN_miss, bitsN_more h0 h d]
    unfold bitAt
    have e1 : ((m + d : Nat) : Int).toNat = m + d := Int.toNat_natCast _
    have e2 : n < 2 ^ (m + d) := by
      have : (2 : Int) ^ m ≤ 2 ^ (m + d) := by
        have h2 : (2 : Nat) ^ m ≤ 2 ^ (m + d) := Nat.pow_le_pow_right (by omega) (by omega)
        have e : ((2 ^ m : Nat) : Int) ≤ ((2 ^ (m + d) : Nat) : Int) := by omega
        simpa using e
      omega
    rw [e1, Int.ediv_eq_zero_of_lt h0 e2]
    rfl
theorem mem_bitsN {n k : Int} {m : Nat} (h : k ∈ bitsN n m) : 0 ≤ k ∧ k < m ∧ bitAt n k = true := by
  simp only [bitsN, List.mem_map, List.mem_filter, List.mem_range] at h
  obtain ⟨j, ⟨h1, h2⟩, rfl⟩ := h
  exact ⟨by omega, by omega, h2⟩
def holesOf (b : Brd) : List Int := if boardOk b = true then bitsN b.n (b.w * b.h).toNat else []
theorem holes_49 {b : Brd} (h : boardOk b = true) : bitsN b.n 49 = holesOf b := by
  have k := bok h
  have m2 := k.m2
  have m1 := k.m1
  have n2 := k.n2
  have n1 := k.n1
  have e : 49 = (b.w * b.h).toNat + (49 - (b.w * b.h).toNat) := by omega
  rw [holesOf, if_pos h]
  conv => lhs; rw [e]
  exact bitsN_more (by omega) (by omega) _
theorem mem_holes {b : Brd} {k : Int} (h : k ∈ holesOf b) : boardOk b = true ∧ hasHole b k = true ∧ 0 ≤ k ∧ k ≤ 48 := by
  unfold holesOf at h
  split at h
  · rename_i hb
    have hk := bok hb
    have m2 := hk.m2
    have m1 := hk.m1
    obtain ⟨h1, h2, h3⟩ := mem_bitsN h
    refine ⟨hb, ?_, h1, by omega⟩
    simp only [hasHole, hb, h3, Bool.true_and, Bool.and_true, within_iff]
    omega
  · cases h
theorem holes_len {b : Brd} : (holesOf b).length ≤ 49 := by
  unfold holesOf
  split
  · rename_i hb
    have m2 := (bok hb).m2
    have := bitsN_len (n := b.n) (m := (b.w * b.h).toNat)
    omega
  · simp
def dx (way : Int) : Int := if way = 0 then 1 else if way = 2 then -1 else 0
def dy (way : Int) : Int := if way = 1 then 1 else if way = 3 then -1 else 0
def cellAt (b : Brd) (x y : Int) : Int := if (within x 0 (b.w - 1) && within y 0 (b.h - 1) && bitAt b.n (y * b.w + x)) = true then y * b.w + x else -1
def stepTo (b : Brd) (k way : Int) : Int := cellAt b (k % b.w + dx way) (k / b.w + dy way)
theorem cell_bd {b : Brd} (hb : boardOk b = true) {x y : Int} (hx : within x 0 (b.w - 1) = true) (hy : within y 0 (b.h - 1) = true) : (0 ≤ x ∧ x ≤ 6) ∧ 0 ≤ y * b.w ∧ y * b.w + x ≤ b.w * b.h - 1 ∧ y * b.w ≤ 48 := by
  have k := bok hb
  have w1 := k.w1
  have w2 := k.w2
  have m2 := k.m2
  rw [within_iff] at hx hy
  have h1 : 0 ≤ y * b.w := Int.mul_nonneg hy.1 (by omega)
  have h2 : y * b.w ≤ (b.h - 1) * b.w := Int.mul_le_mul_of_nonneg_right hy.2 (by omega)
  have h3 : (b.h - 1) * b.w = b.w * b.h - b.w := by rw [Int.sub_mul, Int.one_mul, Int.mul_comm]
  omega
theorem shr_bd {n : Int} {j : Nat} (h0 : 0 ≤ n) (h1 : n ≤ 9223372036854775807) : 0 ≤ n / 2 ^ j ∧ n / 2 ^ j ≤ 9223372036854775807 :=
  ⟨Int.ediv_nonneg h0 (Int.pow_nonneg (by omega)), Int.le_trans (Int.ediv_le_self _ h0) h1⟩
theorem step_hole {b : Brd} (hb : boardOk b = true) {k way : Int} (h : 0 ≤ stepTo b k way) : hasHole b (stepTo b k way) = true ∧ stepTo b k way ≤ 48 := by
  unfold stepTo cellAt at h ⊢
  split at h
  · rename_i hc
    rw [if_pos hc]
    simp only [Bool.and_eq_true] at hc
    obtain ⟨⟨hx, hy⟩, hbit⟩ := hc
    have hbd := cell_bd hb hx hy
    have k := bok hb
    have m2 := k.m2
    refine ⟨?_, by omega⟩
    simp only [hasHole, hb, hbit, Bool.true_and, Bool.and_true, within_iff]
    omega
  · omega
def sideTo (b : Brd) (k way : Int) : Int := if hasHole b k = true then stepTo b k way else -1
theorem hole_bd {b : Brd} {k : Int} (h : hasHole b k = true) : boardOk b = true ∧ 0 ≤ k ∧ k ≤ 48 := by
  simp only [hasHole, Bool.and_eq_true, within_iff] at h
  have m2 := (bok h.1.1).m2
  exact ⟨h.1.1, h.1.2.1, by omega⟩
end Go.Proofs.YtlplopaahflcpaaDoor
