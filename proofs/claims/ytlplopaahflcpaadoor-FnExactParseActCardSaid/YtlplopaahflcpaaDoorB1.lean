/-
  Numerals: what the functions compute that print numbers and times.
-/
import Derived.Test.YtlplopaahflcpaaDoorSx
import Derived.Test.YtlplopaahflcpaaDoorGa
import Derived.Test.YtlplopaahflcpaaDoorL4
import Derived.Lib.ItoaLen
namespace Go.Proofs.YtlplopaahflcpaaDoor
open Go.PL
set_option linter.unusedSimpArgs false
abbrev itoa (n : Int) : List UInt8 := Lib.itoa n
theorem itoa_nat (n : Nat) : itoa (n : Int) = Lib.decDigits n := by
  unfold itoa Lib.itoa
  rw [if_neg (by omega), Int.toNat_natCast]
theorem dec_small {u : Nat} (h : u < 10) : Lib.decDigits u = [UInt8.ofNat (48 + u)] := by rw [Lib.decDigits, dif_pos h]
theorem dec_big {u : Nat} (h : ¬ u < 10) : Lib.decDigits u = Lib.decDigits (u / 10) ++ [UInt8.ofNat (48 + u % 10)] := by rw [Lib.decDigits, dif_neg h]
theorem dec_len {u : Nat} (h : u ≤ 9223372036854775807) : (Lib.decDigits u).length ≤ 21 := by
  rw [← itoa_nat]
  exact Lib.itoa_length_le _ (by omega) (by omega)
theorem itoa_len {n : Int} (h0 : -9223372036854775808 ≤ n) (h1 : n ≤ 9223372036854775807) : (itoa n).length ≤ 21 := Lib.itoa_length_le n h0 h1
/-- the digits that are laid already, and those that are still to come -/
def DigOk (n m : Nat) (s : List UInt8) : Prop := m ≤ n ∧ s.length ≤ 21 ∧ (if m = 0 then s = Lib.decDigits n else Lib.decDigits m ++ s = Lib.decDigits n)
theorem dig_start {n : Nat} (h : n ≠ 0) : DigOk n n [] := ⟨Nat.le_refl _, by simp, by rw [if_neg h, List.append_nil]⟩
theorem dig_step {n m : Nat} {s : List UInt8} (hn : n ≤ 9223372036854775807) (h : DigOk n m s) (hm : m ≠ 0) : DigOk n (m / 10) (UInt8.ofNat (48 + m % 10) :: s) := by
  obtain ⟨h1, h2, h3⟩ := h
  rw [if_neg hm] at h3
  have hl := dec_len hn
  have key : (if m / 10 = 0 then UInt8.ofNat (48 + m % 10) :: s = Lib.decDigits n else Lib.decDigits (m / 10) ++ UInt8.ofNat (48 + m % 10) :: s = Lib.decDigits n) := by
    by_cases h10 : m < 10
    · rw [if_pos (by omega), ← h3, dec_small h10]
      have : m % 10 = m := Nat.mod_eq_of_lt h10
      rw [this]; rfl
    · rw [if_neg (by omega), ← h3, dec_big h10]
      simp
  refine ⟨by omega, ?_, key⟩
  split at key
  · rw [key]; exact hl
  · have := congrArg List.length key
    simp only [List.length_append, List.length_cons] at this ⊢
    omega
theorem dig_end {n : Nat} {s : List UInt8} (h : DigOk n 0 s) : s = Lib.decDigits n := by
  have := h.2.2
  rwa [if_pos rfl] at this
theorem l01Figure_c (d : Nat) (h : d < 10) : PC Tryd.prog 22 [] [.c (.v (.int .i64 (d : Int)))] (.s (.c (.v (.int .u8 (48 + (d : Int)))))) ⟨[], []⟩ := by
  have e0 : ((d : Int) < 10) = True := eq_true (by omega)
  refine pc_of Tryd.func22 rfl (by kernel_rfl) _ Tryd.ntmps22 (by simp) ?_
  (repeat' (first | simp -implicitDefEqProofs only [e0, go_sem] | (refine And.intro ?_ ?_; omega) | (refine And.intro (shr_bd ?_ ?_) ?_; omega; omega) | refine sl_list rfl ?_ | refine sd_list rfl ?_ | refine sl_str ?_ | refine sd_str ?_))
  exact fin_scal rfl rfl
theorem byte_one (d : Nat) : ((48 : Int) + (d : Int)).toNat = 48 + d := by omega
theorem FormatInt_c (n : Nat) (hn : n ≤ 9223372036854775807) : PC Tryd.prog 18 [] [.c (.v (.int .i64 (n : Int)))] (vS (itoa n)) ⟨[], []⟩ := by
  rw [itoa_nat]
  by_cases h0 : n = 0
  · have e0 : ((n : Int) = 0) = True := eq_true (by omega)
    subst h0
    refine pc_of Tryd.func18 rfl (by kernel_rfl) _ Tryd.ntmps18 (by simp) ?_
    (repeat' (first | simp -implicitDefEqProofs only [e0, go_sem] | (refine And.intro ?_ ?_; omega) | (refine And.intro (shr_bd ?_ ?_) ?_; omega; omega) | refine sl_list rfl ?_ | refine sd_list rfl ?_ | refine sl_str ?_ | refine sd_str ?_))
    exact fin_scal rfl (by rw [dec_small (by omega)]; rfl)
  · have e0 : ((n : Int) = 0) = False := eq_false (by omega)
    have e1 : ((n : Int) < 0) = False := eq_false (by omega)
    have z : sB [] = ByteArray.empty := rfl
    refine pc_of Tryd.func18 rfl (by kernel_rfl) _ Tryd.ntmps18 (by simp) ?_
    (repeat' (first | simp -implicitDefEqProofs only [e0, e1, go_sem] | (refine And.intro ?_ ?_; omega) | (refine And.intro (shr_bd ?_ ?_) ?_; omega; omega) | refine sl_list rfl ?_ | refine sd_list rfl ?_ | refine sl_str ?_ | refine sd_str ?_))
    refine loop_step (X := Nat × List UInt8) (fun x => ⟨30, [(0, vN x.1), (3, vB false), (4, vS x.2)], ⟨[], []⟩⟩)
      (fun x => DigOk n x.1 x.2) (fun x => x.1) (n, []) (dig_start h0) (weak_of (fun i => i) (fun i => i) rfl ⟨by simp [boxesR, listsR, csR, renC, keyC, optK, fnd, envR, St.get, keyPV, keyV1, renPV, renV1, hasKey, made_zero] <;> omega, by simp [boxesR, listsR, csR, renC, keyC, optK, fnd, envR, St.get, keyPV, keyV1, renPV, renV1, hasKey, made_zero] <;> omega, by simp [boxesR, listsR, csR, renC, keyC, optK, fnd, envR, St.get, keyPV, keyV1, renPV, renV1, hasKey, made_zero] <;> omega, by simp [boxesR, listsR, csR, renC, keyC, optK, fnd, envR, St.get, keyPV, keyV1, renPV, renV1, hasKey, made_zero] <;> omega, by simp [boxesR, listsR, csR, renC, keyC, optK, fnd, envR, St.get, keyPV, keyV1, renPV, renV1, hasKey, made_zero] <;> omega⟩ (by simp [boxesR, listsR, csR, renC, keyC, optK, fnd, envR, St.get, keyPV, keyV1, renPV, renV1, hasKey, made_zero] <;> omega)) (fun x hx => ?_)
    obtain ⟨m, s⟩ := x
    simp only at hx
    have hm := hx.1
    have hs := hx.2.1
    by_cases hz : m = 0
    · have f0 : ((m : Int) = 0) = True := eq_true (by omega)
      have he := dig_end (by rw [← hz]; exact hx)
      (repeat' (first | simp -implicitDefEqProofs only [f0, go_sem] | (refine And.intro ?_ ?_; omega) | (refine And.intro (shr_bd ?_ ?_) ?_; omega; omega) | refine sl_list rfl ?_ | refine sd_list rfl ?_ | refine sl_str ?_ | refine sd_str ?_))
      exact fin_scal rfl (by rw [he])
    · have f0 : ((m : Int) = 0) = False := eq_false (by omega)
      have f1 : (((m % 10 : Nat) : Int) < 0) = False := eq_false (by omega)
      have f2 : (m : Int) % 10 = ((m % 10 : Nat) : Int) := by omega
      have f3 : (m : Int) / 10 = ((m / 10 : Nat) : Int) := by omega
      have hd : m % 10 < 10 := Nat.mod_lt _ (by omega)
      repeat' first
        | (first | simp -implicitDefEqProofs only [f0, f1, f2, f3, byte_one, List.reverse_singleton, List.length_cons, List.length_nil, List.cons_append, List.nil_append, go_sem] | (refine And.intro ?_ ?_; omega) | (refine And.intro (shr_bd ?_ ?_) ?_; omega; omega) | refine sl_list rfl ?_ | refine sd_list rfl ?_ | refine sl_str ?_ | refine sd_str ?_)
        | refine callS (l01Figure_c (m % 10) hd) rfl rfl rfl ?_
      exact ⟨(m / 10, UInt8.ofNat (48 + m % 10) :: s), dig_step hn hx hz, by simp only; omega, weak_of (fun i => i) (fun i => i) rfl ⟨by simp [boxesR, listsR, csR, renC, keyC, optK, fnd, envR, St.get, keyPV, keyV1, renPV, renV1, hasKey, made_zero] <;> omega, by simp [boxesR, listsR, csR, renC, keyC, optK, fnd, envR, St.get, keyPV, keyV1, renPV, renV1, hasKey, made_zero] <;> omega, by simp [boxesR, listsR, csR, renC, keyC, optK, fnd, envR, St.get, keyPV, keyV1, renPV, renV1, hasKey, made_zero] <;> omega, by simp [boxesR, listsR, csR, renC, keyC, optK, fnd, envR, St.get, keyPV, keyV1, renPV, renV1, hasKey, made_zero] <;> omega, by simp [boxesR, listsR, csR, renC, keyC, optK, fnd, envR, St.get, keyPV, keyV1, renPV, renV1, hasKey, made_zero] <;> omega⟩ (by simp [boxesR, listsR, csR, renC, keyC, optK, fnd, envR, St.get, keyPV, keyV1, renPV, renV1, hasKey, made_zero] <;> omega)⟩
/-! ### times -/
def timeT (s : Int) : List UInt8 := if within s 0 100000 = true then itoa (s / 60) ++ ([58] ++ (itoa (s % 60 / 10) ++ itoa (s % 10))) else []
theorem two_digits {r : Nat} (h : r < 60) : (if (itoa (r : Int)).length = 1 then 48 :: itoa (r : Int) else itoa (r : Int)) = itoa ((r / 10 : Nat) : Int) ++ itoa ((r % 10 : Nat) : Int) := by
  rw [itoa_nat, itoa_nat, itoa_nat]
  by_cases h1 : r < 10
  · have h2 : r / 10 = 0 := by omega
    have h3 : r % 10 = r := by omega
    rw [h2, h3, dec_small h1, dec_small (u := 0) (by omega)]
    rfl
  · rw [dec_big h1, dec_small (u := r / 10) (by omega), dec_small (u := r % 10) (by omega)]
    rfl
/-! ### lists of bytes -/
def u8V (b : UInt8) : Value := .int .u8 (b.toNat : Int)
theorem bytes_u8 (l : List UInt8) : bytesL (l.map u8V) = some (l.map fun b => (b.toNat : Int)) := by
  have := bytesL_ns (ns := l.map fun b => (b.toNat : Int))
  rw [List.map_map] at this
  exact this
theorem u8_back (l : List UInt8) : ((l.map fun b => (b.toNat : Int)).map fun n : Int => UInt8.ofNat n.toNat) = l := by
  rw [List.map_map]
  have : ((fun n : Int => UInt8.ofNat n.toNat) ∘ fun b : UInt8 => (b.toNat : Int)) = id := by
    funext b
    simp
  rw [this, List.map_id]
theorem strCells_u8 (l : List UInt8) : Lib.strCells (sB l) = l.map u8V := by
  unfold Lib.strCells
  rw [sB_data]; rfl
end Go.Proofs.YtlplopaahflcpaaDoor
