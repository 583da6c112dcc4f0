/-
  Numerals: what the functions compute that print numbers and times.
-/
import Derived.Test.YtnbopnipfegboaaGreatDoorSx
import Derived.Test.YtnbopnipfegboaaGreatDoorGa
import Derived.Test.YtnbopnipfegboaaGreatDoorL4
import Derived.Lib.ItoaLen
namespace Go.Proofs.YtnbopnipfegboaaGreatDoor
open Go.PL
set_option linter.unusedSimpArgs false
abbrev itoa (n : Int) : List UInt8 := Lib.itoa n
theorem itoa_len {n : Int} (h0 : -9223372036854775808 ≤ n) (h1 : n ≤ 9223372036854775807) : (itoa n).length ≤ 21 := Lib.itoa_length_le n h0 h1
/-- the digits that are laid already, and those that are still to come -/
def DigOk (n m : Nat) (s : List UInt8) : Prop := m ≤ n ∧ s.length ≤ 21 ∧ (if m = 0 then s = Lib.decDigits n else Lib.decDigits m ++ s = Lib.decDigits n)
/-! ### times -/
def timeT (s : Int) : List UInt8 := if within s 0 100000 = true then itoa (s / 60) ++ ([58] ++ (itoa (s % 60 / 10) ++ itoa (s % 10))) else []
/-! ### lists of bytes -/
def u8V (b : UInt8) : Value := .int .u8 (b.toNat : Int)
theorem bytes_u8 (l : List UInt8) : bytesL (l.map u8V) = some (l.map fun b => (b.toNat : Int)) := by
  have := bytesL_ns (ns := l.map fun b => (b.toNat : Int))
  rw [List.map_map] at this
  exact this
theorem u8_back (l : List UInt8) : ((l.map fun b => (b.toNat : Int)).map fun n : Int => UInt8.ofNat n.toNat) = l := by
  rw [List.map_map]
  have : ((fun n : Int => UInt8.ofNat n.toNat) ∘ fun b : UInt8 => (b.toNat : Int)) = id := by
    funext b
    simp
  rw [this, List.map_id]
end Go.Proofs.YtnbopnipfegboaaGreatDoor
