/-
  Numerals: what the functions compute that print numbers and times.
  What the functions compute that print acts and scripts of acts.
  The laws on printed acts and scripts; what ScriptText computes.
  Scripts of acts: what ScriptText computes, and its law.
-/
import Derived.Test.YtahnbliabllflaaGreatDoorSx
import Derived.Test.YtahnbliabllflaaGreatDoorGa
import Derived.Test.YtahnbliabllflaaGreatDoorL1
import Derived.Lib.ItoaLen
import Derived.Test.YtahnbliabllflaaGreatDoorTAe
namespace Go.Proofs.YtahnbliabllflaaGreatDoor
open Go.PL
set_option linter.unusedSimpArgs false
abbrev itoa (n : Int) : List UInt8 := Lib.itoa n
theorem itoa_nat (n : Nat) : itoa (n : Int) = Lib.decDigits n := by
  unfold itoa Lib.itoa
  rw [if_neg (by omega), Int.toNat_natCast]
theorem dec_small {u : Nat} (h : u < 10) : Lib.decDigits u = [UInt8.ofNat (48 + u)] := by rw [Lib.decDigits, dif_pos h]
theorem dec_big {u : Nat} (h : ¬ u < 10) : Lib.decDigits u = Lib.decDigits (u / 10) ++ [UInt8.ofNat (48 + u % 10)] := by rw [Lib.decDigits, dif_neg h]
theorem dec_len {u : Nat} (h : u ≤ 9223372036854775807) : (Lib.decDigits u).length ≤ 21 := by
  rw [← itoa_nat]
  exact Lib.itoa_length_le _ (by omega) (by omega)
theorem itoa_len {n : Int} (h0 : -9223372036854775808 ≤ n) (h1 : n ≤ 9223372036854775807) : (itoa n).length ≤ 21 := Lib.itoa_length_le n h0 h1
def DigOk (n m : Nat) (s : List UInt8) : Prop := m ≤ n ∧ s.length ≤ 21 ∧ (if m = 0 then s = Lib.decDigits n else Lib.decDigits m ++ s = Lib.decDigits n)
theorem dig_start {n : Nat} (h : n ≠ 0) : DigOk n n [] := ⟨Nat.le_refl _, by simp, by rw [if_neg h, List.append_nil]⟩
theorem dig_step {n m : Nat} {s : List UInt8} (hn : n ≤ 9223372036854775807) (h : DigOk n m s) (hm : m ≠ 0) : DigOk n (m / 10) (UInt8.ofNat (48 + m % 10) :: s) := by
  obtain ⟨h1, h2, h3⟩ := h
  rw [if_neg hm] at h3
  have hl := dec_len hn
  have key : (if m / 10 = 0 then UInt8.ofNat (48 + m % 10) :: s = Lib.decDigits n else Lib.decDigits (m / 10) ++ UInt8.ofNat (48 + m % 10) :: s = Lib.decDigits n) := by
    by_cases h10 : m < 10
    · rw [if_pos (by omega), ← h3, dec_small h10]
      have : m % 10 = m := Nat.mod_eq_of_lt h10
      rw [this]; rfl
    · rw [if_neg (by omega), ← h3, dec_big h10]
      simp
  refine ⟨by omega, ?_, key⟩
  split at key
  · rw [key]; exact hl
  · have := congrArg List.length key
    simp only [List.length_append, List.length_cons] at this ⊢
    omega
theorem dig_end {n : Nat} {s : List UInt8} (h : DigOk n 0 s) : s = Lib.decDigits n := by
  have := h.2.2
  rwa [if_pos rfl] at this
theorem l01Figure_c (d : Nat) (h : d < 10) : PC Tryz.prog 102 [] [.c (.v (.int .i64 (d : Int)))] (.s (.c (.v (.int .u8 (48 + (d : Int)))))) ⟨[], []⟩ := by
  have e0 : ((d : Int) < 10) = True := eq_true (by omega)
  refine pc_of Tryz.func102 rfl (by kernel_rfl) _ Tryz.ntmps102 (by simp) ?_
  (repeat' (first | simp -implicitDefEqProofs only [e0, go_sem] | (refine And.intro ?_ ?_; omega) | (refine And.intro (shr_bd ?_ ?_) ?_; omega; omega) | refine sl_list rfl ?_ | refine sd_list rfl ?_ | refine sl_str ?_ | refine sd_str ?_))
  exact fin_scal rfl rfl
theorem byte_one (d : Nat) : ((48 : Int) + (d : Int)).toNat = 48 + d := by omega
theorem FormatInt_c (n : Nat) (hn : n ≤ 9223372036854775807) : PC Tryz.prog 47 [] [.c (.v (.int .i64 (n : Int)))] (vS (itoa n)) ⟨[], []⟩ := by
  rw [itoa_nat]
  by_cases h0 : n = 0
  · have e0 : ((n : Int) = 0) = True := eq_true (by omega)
    subst h0
    refine pc_of Tryz.func47 rfl (by kernel_rfl) _ Tryz.ntmps47 (by simp) ?_
    (repeat' (first | simp -implicitDefEqProofs only [e0, go_sem] | (refine And.intro ?_ ?_; omega) | (refine And.intro (shr_bd ?_ ?_) ?_; omega; omega) | refine sl_list rfl ?_ | refine sd_list rfl ?_ | refine sl_str ?_ | refine sd_str ?_))
    exact fin_scal rfl (by rw [dec_small (by omega)]; rfl)
  · have e0 : ((n : Int) = 0) = False := eq_false (by omega)
    have e1 : ((n : Int) < 0) = False := eq_false (by omega)
    have z : sB [] = ByteArray.empty := rfl
    refine pc_of Tryz.func47 rfl (by kernel_rfl) _ Tryz.ntmps47 (by simp) ?_
    (repeat' (first | simp -implicitDefEqProofs only [e0, e1, go_sem] | (refine And.intro ?_ ?_; omega) | (refine And.intro (shr_bd ?_ ?_) ?_; omega; omega) | refine sl_list rfl ?_ | refine sd_list rfl ?_ | refine sl_str ?_ | refine sd_str ?_))
    refine loop_step (X := Nat × List UInt8) (fun x => ⟨30, [(0, vN x.1), (3, vB false), (4, vS x.2)], ⟨[], []⟩⟩)
      (fun x => DigOk n x.1 x.2) (fun x => x.1) (n, []) (dig_start h0) (weak_of (fun i => i) (fun i => i) rfl ⟨by simp <;> omega, by simp <;> omega, by simp <;> omega, by simp <;> omega, by simp <;> omega⟩ (by simp <;> omega)) (fun x hx => ?_)
    obtain ⟨m, s⟩ := x
    simp only at hx
    have hm := hx.1
    have hs := hx.2.1
    by_cases hz : m = 0
    · have f0 : ((m : Int) = 0) = True := eq_true (by omega)
      have he := dig_end (by rw [← hz]; exact hx)
      (repeat' (first | simp -implicitDefEqProofs only [f0, go_sem] | (refine And.intro ?_ ?_; omega) | (refine And.intro (shr_bd ?_ ?_) ?_; omega; omega) | refine sl_list rfl ?_ | refine sd_list rfl ?_ | refine sl_str ?_ | refine sd_str ?_))
      exact fin_scal rfl (by rw [he])
    · have f0 : ((m : Int) = 0) = False := eq_false (by omega)
      have f1 : (((m % 10 : Nat) : Int) < 0) = False := eq_false (by omega)
      have f2 : (m : Int) % 10 = ((m % 10 : Nat) : Int) := by omega
      have f3 : (m : Int) / 10 = ((m / 10 : Nat) : Int) := by omega
      have hd : m % 10 < 10 := Nat.mod_lt _ (by omega)
      repeat' first
        | (first | simp -implicitDefEqProofs only [f0, f1, f2, f3, byte_one, List.reverse_singleton, List.length_cons, List.length_nil, List.cons_append, List.nil_append, go_sem] | (refine And.intro ?_ ?_; omega) | (refine And.intro (shr_bd ?_ ?_) ?_; omega; omega) | refine sl_list rfl ?_ | refine sd_list rfl ?_ | refine sl_str ?_ | refine sd_str ?_)
        | refine callS (l01Figure_c (m % 10) hd) rfl rfl rfl ?_
      exact ⟨(m / 10, UInt8.ofNat (48 + m % 10) :: s), dig_step hn hx hz, by simp only; omega, weak_of (fun i => i) (fun i => i) rfl ⟨by simp <;> omega, by simp <;> omega, by simp <;> omega, by simp <;> omega, by simp <;> omega⟩ (by simp <;> omega)⟩
def timeT (s : Int) : List UInt8 := if within s 0 100000 = true then itoa (s / 60) ++ ([58] ++ (itoa (s % 60 / 10) ++ itoa (s % 10))) else []
theorem two_digits {r : Nat} (h : r < 60) : (if (itoa (r : Int)).length = 1 then 48 :: itoa (r : Int) else itoa (r : Int)) = itoa ((r / 10 : Nat) : Int) ++ itoa ((r % 10 : Nat) : Int) := by
  rw [itoa_nat, itoa_nat, itoa_nat]
  by_cases h1 : r < 10
  · have h2 : r / 10 = 0 := by omega
    have h3 : r % 10 = r := by omega
    rw [h2, h3, dec_small h1, dec_small (u := 0) (by omega)]
    rfl
  · rw [dec_big h1, dec_small (u := r / 10) (by omega), dec_small (u := r % 10) (by omega)]
    rfl
def u8V (b : UInt8) : Value := .int .u8 (b.toNat : Int)
theorem bytes_u8 (l : List UInt8) : bytesL (l.map u8V) = some (l.map fun b => (b.toNat : Int)) := by
  have := bytesL_ns (ns := l.map fun b => (b.toNat : Int))
  rw [List.map_map] at this
  exact this
theorem u8_back (l : List UInt8) : ((l.map fun b => (b.toNat : Int)).map fun n : Int => UInt8.ofNat n.toNat) = l := by
  rw [List.map_map]
  have : ((fun n : Int => UInt8.ofNat n.toNat) ∘ fun b : UInt8 => (b.toNat : Int)) = id := by
    funext b
    simp
  rw [this, List.map_id]
end Go.Proofs.YtahnbliabllflaaGreatDoor
namespace Go.Proofs.YtahnbliabllflaaGreatDoor
open Go.PL
set_option linter.unusedSimpArgs false
def wordT (k : Int) : List UInt8 := if k = 1 then [106, 117, 109, 112] else if k = 2 then [104, 105, 110, 116] else if k = 3 then [98, 97, 99, 107] else if k = 4 then [99, 108, 97, 105, 109] else [115, 116, 97, 116, 101]
def numsN (k : Int) : Nat := if k = 1 ∨ k = 4 then 2 else if k = 2 then 1 else 0
def numT (a b : Int) : Nat → List UInt8
  | 0 => []
  | 1 => 32 :: itoa a
  | _ => 32 :: (itoa a ++ 32 :: itoa b)
def actT (a : Ac) : List UInt8 := if actOk a.k a.a a.b = true then wordT a.k ++ numT a.a a.b (numsN a.k) else []
theorem act_cases {k a b : Int} (h : actOk k a b = true) : (k = 1 ∨ k = 2 ∨ k = 3 ∨ k = 4 ∨ k = 5) ∧ (0 ≤ a ∧ a ≤ 999) ∧ 0 ≤ b ∧ b ≤ 9999 := by
  unfold actOk at h
  repeat' split at h
  all_goals
    first
    | (simp only [Bool.and_eq_true, within_iff, decide_eq_true_eq] at h; omega)
    | cases h
theorem word_len {k : Int} : (wordT k).length ≤ 5 := by
  unfold wordT
  repeat' split
  all_goals decide
theorem numT_len {a b : Int} (ha : 0 ≤ a ∧ a ≤ 9999) (hb : 0 ≤ b ∧ b ≤ 9999) : ∀ i, (numT a b i).length ≤ 44
  | 0 => by simp [numT]
  | 1 => by
    have := itoa_len (n := a) (by omega) (by omega)
    simp only [numT, List.length_cons]; omega
  | i + 2 => by
    have h1 := itoa_len (n := a) (by omega) (by omega)
    have h2 := itoa_len (n := b) (by omega) (by omega)
    simp only [numT, List.length_cons, List.length_append]; omega
theorem actT_len {a : Ac} : (actT a).length ≤ 49 := by
  unfold actT
  split
  · rename_i h
    obtain ⟨_, h1, h2⟩ := act_cases h
    have := word_len (k := a.k)
    have := numT_len (a := a.a) (b := a.b) (by omega) h2 (numsN a.k)
    rw [List.length_append]; omega
  · simp
theorem actWord_c (k : Int) : PC Tryz.prog 38 [] [.c (.v (.int .i64 k))] (vS (wordT k)) ⟨[], []⟩ := by
  by_cases h1 : k = 1
  · refine pc_of Tryz.func38 rfl (by kernel_rfl) _ Tryz.ntmps38 (by simp) ?_
    (repeat' (first | simp -implicitDefEqProofs only [h1, go_sem] | (refine And.intro ?_ ?_; omega) | (refine And.intro (shr_bd ?_ ?_) ?_; omega; omega) | refine sl_list rfl ?_ | refine sd_list rfl ?_ | refine sl_str ?_ | refine sd_str ?_))
    exact fin_scal rfl (by simp [wordT, h1])
  by_cases h2 : k = 2
  · refine pc_of Tryz.func38 rfl (by kernel_rfl) _ Tryz.ntmps38 (by simp) ?_
    (repeat' (first | simp -implicitDefEqProofs only [h1, h2, go_sem] | (refine And.intro ?_ ?_; omega) | (refine And.intro (shr_bd ?_ ?_) ?_; omega; omega) | refine sl_list rfl ?_ | refine sd_list rfl ?_ | refine sl_str ?_ | refine sd_str ?_))
    exact fin_scal rfl (by simp [wordT, h2])
  by_cases h3 : k = 3
  · refine pc_of Tryz.func38 rfl (by kernel_rfl) _ Tryz.ntmps38 (by simp) ?_
    (repeat' (first | simp -implicitDefEqProofs only [h1, h2, h3, go_sem] | (refine And.intro ?_ ?_; omega) | (refine And.intro (shr_bd ?_ ?_) ?_; omega; omega) | refine sl_list rfl ?_ | refine sd_list rfl ?_ | refine sl_str ?_ | refine sd_str ?_))
    exact fin_scal rfl (by simp [wordT, h3])
  by_cases h4 : k = 4
  · refine pc_of Tryz.func38 rfl (by kernel_rfl) _ Tryz.ntmps38 (by simp) ?_
    (repeat' (first | simp -implicitDefEqProofs only [h1, h2, h3, h4, go_sem] | (refine And.intro ?_ ?_; omega) | (refine And.intro (shr_bd ?_ ?_) ?_; omega; omega) | refine sl_list rfl ?_ | refine sd_list rfl ?_ | refine sl_str ?_ | refine sd_str ?_))
    exact fin_scal rfl (by simp [wordT, h4])
  · refine pc_of Tryz.func38 rfl (by kernel_rfl) _ Tryz.ntmps38 (by simp) ?_
    (repeat' (first | simp -implicitDefEqProofs only [h1, h2, h3, h4, go_sem] | (refine And.intro ?_ ?_; omega) | (refine And.intro (shr_bd ?_ ?_) ?_; omega; omega) | refine sl_list rfl ?_ | refine sd_list rfl ?_ | refine sl_str ?_ | refine sd_str ?_))
    exact fin_scal rfl (by simp [wordT, h1, h2, h3, h4])
theorem actNumbers_c (k : Int) : PC Tryz.prog 40 [] [.c (.v (.int .i64 k))] (vN (numsN k)) ⟨[], []⟩ := by
  by_cases h1 : k = 1
  · refine pc_of Tryz.func40 rfl (by kernel_rfl) _ Tryz.ntmps40 (by simp) ?_
    (repeat' (first | simp -implicitDefEqProofs only [h1, go_sem] | (refine And.intro ?_ ?_; omega) | (refine And.intro (shr_bd ?_ ?_) ?_; omega; omega) | refine sl_list rfl ?_ | refine sd_list rfl ?_ | refine sl_str ?_ | refine sd_str ?_))
    exact fin_scal rfl (by simp [numsN, h1])
  by_cases h4 : k = 4
  · refine pc_of Tryz.func40 rfl (by kernel_rfl) _ Tryz.ntmps40 (by simp) ?_
    (repeat' (first | simp -implicitDefEqProofs only [h1, h4, go_sem] | (refine And.intro ?_ ?_; omega) | (refine And.intro (shr_bd ?_ ?_) ?_; omega; omega) | refine sl_list rfl ?_ | refine sd_list rfl ?_ | refine sl_str ?_ | refine sd_str ?_))
    exact fin_scal rfl (by simp [numsN, h4])
  by_cases h2 : k = 2
  · refine pc_of Tryz.func40 rfl (by kernel_rfl) _ Tryz.ntmps40 (by simp) ?_
    (repeat' (first | simp -implicitDefEqProofs only [h1, h4, h2, go_sem] | (refine And.intro ?_ ?_; omega) | (refine And.intro (shr_bd ?_ ?_) ?_; omega; omega) | refine sl_list rfl ?_ | refine sd_list rfl ?_ | refine sl_str ?_ | refine sd_str ?_))
    exact fin_scal rfl (by simp [numsN, h2])
  · refine pc_of Tryz.func40 rfl (by kernel_rfl) _ Tryz.ntmps40 (by simp) ?_
    (repeat' (first | simp -implicitDefEqProofs only [h1, h4, h2, go_sem] | (refine And.intro ?_ ?_; omega) | (refine And.intro (shr_bd ?_ ?_) ?_; omega; omega) | refine sl_list rfl ?_ | refine sd_list rfl ?_ | refine sl_str ?_ | refine sd_str ?_))
    exact fin_scal rfl (by simp [numsN, h1, h4, h2])
theorem FormatAct_1 (a b : Nat) (h : actOk 1 (a : Int) (b : Int) = true) (ha : a ≤ 999) (hb : b ≤ 9999) : PC Tryz.prog 99 [] [.a (actC ⟨1, (a : Int), (b : Int)⟩)] (.t [.c (.v (.string (sB ([106, 117, 109, 112] ++ numT a b 2)))), .c (.v (.bool true))]) ⟨[], []⟩ := by
  have l1 := itoa_len (n := (a : Int)) (by omega) (by omega)
  have l2 := itoa_len (n := (b : Int)) (by omega) (by omega)
  refine pc_of Tryz.func99 rfl (by kernel_rfl) _ Tryz.ntmps99 (by simp) ?_
  repeat' first
    | (first | simp -implicitDefEqProofs only [h, go_sem] | (refine And.intro ?_ ?_; omega) | (refine And.intro (shr_bd ?_ ?_) ?_; omega; omega) | refine sl_list rfl ?_ | refine sd_list rfl ?_ | refine sl_str ?_ | refine sd_str ?_)
    | refine callS (ActOk_c 1 (a : Int) (b : Int)) rfl rfl rfl ?_
  refine loop_step (X := Nat) (fun i => ⟨40, [(4, vS ([106, 117, 109, 112] ++ numT a b i)), (5, vN 2), (6, vO 25), (7, vN i)], ⟨[], [(25, ⟨3, 1, [iV a, iV b], false, true⟩)]⟩⟩)
    (fun i => i ≤ 2) (fun i => 2 - i) 0 (by omega) (weak_of (fun i => i) (fun i => i) rfl ⟨by simp [numT] <;> omega, by simp [numT] <;> omega, by simp [numT] <;> omega, by simp [numT] <;> omega, by simp [numT] <;> omega⟩ (by simp [numT] <;> omega)) (fun i hi => ?_)
  have nl := numT_len (a := (a : Int)) (b := (b : Int)) (by omega) (by omega) i
  by_cases i0 : i = 0
  · have e0 : ((i : Int) < 2) = True := eq_true (by omega)
    have g1 : ([iV a, iV b] : List Value)[i]? = some (iV a) := by subst i0; rfl
    have n1 : numT (a : Int) (b : Int) (i + 1) = numT (a : Int) (b : Int) i ++ (32 :: itoa (a : Int)) := by subst i0; simp [numT]
    have hi2 : i < 2 := by omega
    repeat' first
      | (first | simp -implicitDefEqProofs only [e0, g1, hi2, List.append_assoc, List.length_append, List.length_cons, List.length_nil, List.cons_append, List.nil_append, go_sem] | (refine And.intro ?_ ?_; omega) | (refine And.intro (shr_bd ?_ ?_) ?_; omega; omega) | refine sl_list rfl ?_ | refine sd_list rfl ?_ | refine sl_str ?_ | refine sd_str ?_)
      | refine callS (FormatInt_c a (by omega)) rfl rfl rfl ?_
    exact ⟨i + 1, by omega, by omega, weak_of (fun i => i) (fun i => i) rfl ⟨by simp [n1] <;> omega, by simp [n1] <;> omega, by simp [n1] <;> omega, by simp [n1] <;> omega, by simp [n1] <;> omega⟩ (by simp [n1] <;> omega)⟩
  by_cases i1 : i = 1
  · have e0 : ((i : Int) < 2) = True := eq_true (by omega)
    have g1 : ([iV a, iV b] : List Value)[i]? = some (iV b) := by subst i1; rfl
    have n1 : numT (a : Int) (b : Int) (i + 1) = numT (a : Int) (b : Int) i ++ (32 :: itoa (b : Int)) := by subst i1; simp [numT]
    have hi2 : i < 2 := by omega
    repeat' first
      | (first | simp -implicitDefEqProofs only [e0, g1, hi2, List.append_assoc, List.length_append, List.length_cons, List.length_nil, List.cons_append, List.nil_append, go_sem] | (refine And.intro ?_ ?_; omega) | (refine And.intro (shr_bd ?_ ?_) ?_; omega; omega) | refine sl_list rfl ?_ | refine sd_list rfl ?_ | refine sl_str ?_ | refine sd_str ?_)
      | refine callS (FormatInt_c b (by omega)) rfl rfl rfl ?_
    exact ⟨i + 1, by omega, by omega, weak_of (fun i => i) (fun i => i) rfl ⟨by simp [n1] <;> omega, by simp [n1] <;> omega, by simp [n1] <;> omega, by simp [n1] <;> omega, by simp [n1] <;> omega⟩ (by simp [n1] <;> omega)⟩
  have e0 : ((i : Int) < 2) = False := eq_false (by omega)
  have e1 : numT (a : Int) (b : Int) i = numT (a : Int) (b : Int) 2 := by rw [show i = 2 by omega]
  (repeat' (first | simp -implicitDefEqProofs only [e0, go_sem] | (refine And.intro ?_ ?_; omega) | (refine And.intro (shr_bd ?_ ?_) ?_; omega; omega) | refine sl_list rfl ?_ | refine sd_list rfl ?_ | refine sl_str ?_ | refine sd_str ?_))
  exact fin_scal rfl (by rw [e1])
theorem FormatAct_2 (a b : Nat) (h : actOk 2 (a : Int) (b : Int) = true) (ha : a ≤ 999) (hb : b ≤ 9999) : PC Tryz.prog 99 [] [.a (actC ⟨2, (a : Int), (b : Int)⟩)] (.t [.c (.v (.string (sB ([104, 105, 110, 116] ++ numT a b 1)))), .c (.v (.bool true))]) ⟨[], []⟩ := by
  have l1 := itoa_len (n := (a : Int)) (by omega) (by omega)
  have l2 := itoa_len (n := (b : Int)) (by omega) (by omega)
  refine pc_of Tryz.func99 rfl (by kernel_rfl) _ Tryz.ntmps99 (by simp) ?_
  repeat' first
    | (first | simp -implicitDefEqProofs only [h, go_sem] | (refine And.intro ?_ ?_; omega) | (refine And.intro (shr_bd ?_ ?_) ?_; omega; omega) | refine sl_list rfl ?_ | refine sd_list rfl ?_ | refine sl_str ?_ | refine sd_str ?_)
    | refine callS (ActOk_c 2 (a : Int) (b : Int)) rfl rfl rfl ?_
  refine loop_step (X := Nat) (fun i => ⟨40, [(4, vS ([104, 105, 110, 116] ++ numT a b i)), (5, vN 1), (6, vO 25), (7, vN i)], ⟨[], [(25, ⟨3, 1, [iV a, iV b], false, true⟩)]⟩⟩)
    (fun i => i ≤ 1) (fun i => 1 - i) 0 (by omega) (weak_of (fun i => i) (fun i => i) rfl ⟨by simp [numT] <;> omega, by simp [numT] <;> omega, by simp [numT] <;> omega, by simp [numT] <;> omega, by simp [numT] <;> omega⟩ (by simp [numT] <;> omega)) (fun i hi => ?_)
  have nl := numT_len (a := (a : Int)) (b := (b : Int)) (by omega) (by omega) i
  by_cases i0 : i = 0
  · have e0 : ((i : Int) < 1) = True := eq_true (by omega)
    have g1 : ([iV a, iV b] : List Value)[i]? = some (iV a) := by subst i0; rfl
    have n1 : numT (a : Int) (b : Int) (i + 1) = numT (a : Int) (b : Int) i ++ (32 :: itoa (a : Int)) := by subst i0; simp [numT]
    have hi2 : i < 2 := by omega
    repeat' first
      | (first | simp -implicitDefEqProofs only [e0, g1, hi2, List.append_assoc, List.length_append, List.length_cons, List.length_nil, List.cons_append, List.nil_append, go_sem] | (refine And.intro ?_ ?_; omega) | (refine And.intro (shr_bd ?_ ?_) ?_; omega; omega) | refine sl_list rfl ?_ | refine sd_list rfl ?_ | refine sl_str ?_ | refine sd_str ?_)
      | refine callS (FormatInt_c a (by omega)) rfl rfl rfl ?_
    exact ⟨i + 1, by omega, by omega, weak_of (fun i => i) (fun i => i) rfl ⟨by simp [n1] <;> omega, by simp [n1] <;> omega, by simp [n1] <;> omega, by simp [n1] <;> omega, by simp [n1] <;> omega⟩ (by simp [n1] <;> omega)⟩
  have e0 : ((i : Int) < 1) = False := eq_false (by omega)
  have e1 : numT (a : Int) (b : Int) i = numT (a : Int) (b : Int) 1 := by rw [show i = 1 by omega]
  (repeat' (first | simp -implicitDefEqProofs only [e0, go_sem] | (refine And.intro ?_ ?_; omega) | (refine And.intro (shr_bd ?_ ?_) ?_; omega; omega) | refine sl_list rfl ?_ | refine sd_list rfl ?_ | refine sl_str ?_ | refine sd_str ?_))
  exact fin_scal rfl (by rw [e1])
theorem FormatAct_3 (a b : Nat) (h : actOk 3 (a : Int) (b : Int) = true) (ha : a ≤ 999) (hb : b ≤ 9999) : PC Tryz.prog 99 [] [.a (actC ⟨3, (a : Int), (b : Int)⟩)] (.t [.c (.v (.string (sB ([98, 97, 99, 107] ++ numT a b 0)))), .c (.v (.bool true))]) ⟨[], []⟩ := by
  have l1 := itoa_len (n := (a : Int)) (by omega) (by omega)
  have l2 := itoa_len (n := (b : Int)) (by omega) (by omega)
  refine pc_of Tryz.func99 rfl (by kernel_rfl) _ Tryz.ntmps99 (by simp) ?_
  repeat' first
    | (first | simp -implicitDefEqProofs only [h, go_sem] | (refine And.intro ?_ ?_; omega) | (refine And.intro (shr_bd ?_ ?_) ?_; omega; omega) | refine sl_list rfl ?_ | refine sd_list rfl ?_ | refine sl_str ?_ | refine sd_str ?_)
    | refine callS (ActOk_c 3 (a : Int) (b : Int)) rfl rfl rfl ?_
  refine loop_step (X := Nat) (fun i => ⟨40, [(4, vS ([98, 97, 99, 107] ++ numT a b i)), (5, vN 0), (6, vO 25), (7, vN i)], ⟨[], [(25, ⟨3, 1, [iV a, iV b], false, true⟩)]⟩⟩)
    (fun i => i ≤ 0) (fun i => 0 - i) 0 (by omega) (weak_of (fun i => i) (fun i => i) rfl ⟨by simp [numT] <;> omega, by simp [numT] <;> omega, by simp [numT] <;> omega, by simp [numT] <;> omega, by simp [numT] <;> omega⟩ (by simp [numT] <;> omega)) (fun i hi => ?_)
  have nl := numT_len (a := (a : Int)) (b := (b : Int)) (by omega) (by omega) i
  have e0 : ((i : Int) < 0) = False := eq_false (by omega)
  have e1 : numT (a : Int) (b : Int) i = numT (a : Int) (b : Int) 0 := by rw [show i = 0 by omega]
  (repeat' (first | simp -implicitDefEqProofs only [e0, go_sem] | (refine And.intro ?_ ?_; omega) | (refine And.intro (shr_bd ?_ ?_) ?_; omega; omega) | refine sl_list rfl ?_ | refine sd_list rfl ?_ | refine sl_str ?_ | refine sd_str ?_))
  exact fin_scal rfl (by rw [e1])
theorem FormatAct_4 (a b : Nat) (h : actOk 4 (a : Int) (b : Int) = true) (ha : a ≤ 999) (hb : b ≤ 9999) : PC Tryz.prog 99 [] [.a (actC ⟨4, (a : Int), (b : Int)⟩)] (.t [.c (.v (.string (sB ([99, 108, 97, 105, 109] ++ numT a b 2)))), .c (.v (.bool true))]) ⟨[], []⟩ := by
  have l1 := itoa_len (n := (a : Int)) (by omega) (by omega)
  have l2 := itoa_len (n := (b : Int)) (by omega) (by omega)
  refine pc_of Tryz.func99 rfl (by kernel_rfl) _ Tryz.ntmps99 (by simp) ?_
  repeat' first
    | (first | simp -implicitDefEqProofs only [h, go_sem] | (refine And.intro ?_ ?_; omega) | (refine And.intro (shr_bd ?_ ?_) ?_; omega; omega) | refine sl_list rfl ?_ | refine sd_list rfl ?_ | refine sl_str ?_ | refine sd_str ?_)
    | refine callS (ActOk_c 4 (a : Int) (b : Int)) rfl rfl rfl ?_
  refine loop_step (X := Nat) (fun i => ⟨40, [(4, vS ([99, 108, 97, 105, 109] ++ numT a b i)), (5, vN 2), (6, vO 25), (7, vN i)], ⟨[], [(25, ⟨3, 1, [iV a, iV b], false, true⟩)]⟩⟩)
    (fun i => i ≤ 2) (fun i => 2 - i) 0 (by omega) (weak_of (fun i => i) (fun i => i) rfl ⟨by simp [numT] <;> omega, by simp [numT] <;> omega, by simp [numT] <;> omega, by simp [numT] <;> omega, by simp [numT] <;> omega⟩ (by simp [numT] <;> omega)) (fun i hi => ?_)
  have nl := numT_len (a := (a : Int)) (b := (b : Int)) (by omega) (by omega) i
  by_cases i0 : i = 0
  · have e0 : ((i : Int) < 2) = True := eq_true (by omega)
    have g1 : ([iV a, iV b] : List Value)[i]? = some (iV a) := by subst i0; rfl
    have n1 : numT (a : Int) (b : Int) (i + 1) = numT (a : Int) (b : Int) i ++ (32 :: itoa (a : Int)) := by subst i0; simp [numT]
    have hi2 : i < 2 := by omega
    repeat' first
      | (first | simp -implicitDefEqProofs only [e0, g1, hi2, List.append_assoc, List.length_append, List.length_cons, List.length_nil, List.cons_append, List.nil_append, go_sem] | (refine And.intro ?_ ?_; omega) | (refine And.intro (shr_bd ?_ ?_) ?_; omega; omega) | refine sl_list rfl ?_ | refine sd_list rfl ?_ | refine sl_str ?_ | refine sd_str ?_)
      | refine callS (FormatInt_c a (by omega)) rfl rfl rfl ?_
    exact ⟨i + 1, by omega, by omega, weak_of (fun i => i) (fun i => i) rfl ⟨by simp [n1] <;> omega, by simp [n1] <;> omega, by simp [n1] <;> omega, by simp [n1] <;> omega, by simp [n1] <;> omega⟩ (by simp [n1] <;> omega)⟩
  by_cases i1 : i = 1
  · have e0 : ((i : Int) < 2) = True := eq_true (by omega)
    have g1 : ([iV a, iV b] : List Value)[i]? = some (iV b) := by subst i1; rfl
    have n1 : numT (a : Int) (b : Int) (i + 1) = numT (a : Int) (b : Int) i ++ (32 :: itoa (b : Int)) := by subst i1; simp [numT]
    have hi2 : i < 2 := by omega
    repeat' first
      | (first | simp -implicitDefEqProofs only [e0, g1, hi2, List.append_assoc, List.length_append, List.length_cons, List.length_nil, List.cons_append, List.nil_append, go_sem] | (refine And.intro ?_ ?_; omega) | (refine And.intro (shr_bd ?_ ?_) ?_; omega; omega) | refine sl_list rfl ?_ | refine sd_list rfl ?_ | refine sl_str ?_ | refine sd_str ?_)
      | refine callS (FormatInt_c b (by omega)) rfl rfl rfl ?_
    exact ⟨i + 1, by omega, by omega, weak_of (fun i => i) (fun i => i) rfl ⟨by simp [n1] <;> omega, by simp [n1] <;> omega, by simp [n1] <;> omega, by simp [n1] <;> omega, by simp [n1] <;> omega⟩ (by simp [n1] <;> omega)⟩
  have e0 : ((i : Int) < 2) = False := eq_false (by omega)
  have e1 : numT (a : Int) (b : Int) i = numT (a : Int) (b : Int) 2 := by rw [show i = 2 by omega]
  (repeat' (first | simp -implicitDefEqProofs only [e0, go_sem] | (refine And.intro ?_ ?_; omega) | (refine And.intro (shr_bd ?_ ?_) ?_; omega; omega) | refine sl_list rfl ?_ | refine sd_list rfl ?_ | refine sl_str ?_ | refine sd_str ?_))
  exact fin_scal rfl (by rw [e1])
theorem FormatAct_5 (a b : Nat) (h : actOk 5 (a : Int) (b : Int) = true) (ha : a ≤ 999) (hb : b ≤ 9999) : PC Tryz.prog 99 [] [.a (actC ⟨5, (a : Int), (b : Int)⟩)] (.t [.c (.v (.string (sB ([115, 116, 97, 116, 101] ++ numT a b 0)))), .c (.v (.bool true))]) ⟨[], []⟩ := by
  have l1 := itoa_len (n := (a : Int)) (by omega) (by omega)
  have l2 := itoa_len (n := (b : Int)) (by omega) (by omega)
  refine pc_of Tryz.func99 rfl (by kernel_rfl) _ Tryz.ntmps99 (by simp) ?_
  repeat' first
    | (first | simp -implicitDefEqProofs only [h, go_sem] | (refine And.intro ?_ ?_; omega) | (refine And.intro (shr_bd ?_ ?_) ?_; omega; omega) | refine sl_list rfl ?_ | refine sd_list rfl ?_ | refine sl_str ?_ | refine sd_str ?_)
    | refine callS (ActOk_c 5 (a : Int) (b : Int)) rfl rfl rfl ?_
  refine loop_step (X := Nat) (fun i => ⟨40, [(4, vS ([115, 116, 97, 116, 101] ++ numT a b i)), (5, vN 0), (6, vO 25), (7, vN i)], ⟨[], [(25, ⟨3, 1, [iV a, iV b], false, true⟩)]⟩⟩)
    (fun i => i ≤ 0) (fun i => 0 - i) 0 (by omega) (weak_of (fun i => i) (fun i => i) rfl ⟨by simp [numT] <;> omega, by simp [numT] <;> omega, by simp [numT] <;> omega, by simp [numT] <;> omega, by simp [numT] <;> omega⟩ (by simp [numT] <;> omega)) (fun i hi => ?_)
  have nl := numT_len (a := (a : Int)) (b := (b : Int)) (by omega) (by omega) i
  have e0 : ((i : Int) < 0) = False := eq_false (by omega)
  have e1 : numT (a : Int) (b : Int) i = numT (a : Int) (b : Int) 0 := by rw [show i = 0 by omega]
  (repeat' (first | simp -implicitDefEqProofs only [e0, go_sem] | (refine And.intro ?_ ?_; omega) | (refine And.intro (shr_bd ?_ ?_) ?_; omega; omega) | refine sl_list rfl ?_ | refine sd_list rfl ?_ | refine sl_str ?_ | refine sd_str ?_))
  exact fin_scal rfl (by rw [e1])
theorem FormatAct_c (x : Ac) : PC Tryz.prog 99 [] [.a (actC x)] (.t [.c (.v (.string (sB (actT x)))), .c (.v (.bool (actOk x.k x.a x.b)))]) ⟨[], []⟩ := by
  obtain ⟨k, a', b'⟩ := x
  cases h : actOk k a' b' with
  | true =>
    obtain ⟨hk, ha, hb⟩ := act_cases h
    obtain ⟨a, rfl⟩ : ∃ a : Nat, a' = a := ⟨a'.toNat, by omega⟩
    obtain ⟨b, rfl⟩ : ∃ b : Nat, b' = b := ⟨b'.toNat, by omega⟩
    rcases hk with rfl | rfl | rfl | rfl | rfl
    · have e : actT ⟨1, (a : Int), (b : Int)⟩ = [106, 117, 109, 112] ++ numT a b 2 := by simp [actT, h, wordT, numsN]
      rw [e]
      exact FormatAct_1 a b h (by omega) (by omega)
    · have e : actT ⟨2, (a : Int), (b : Int)⟩ = [104, 105, 110, 116] ++ numT a b 1 := by simp [actT, h, wordT, numsN]
      rw [e]
      exact FormatAct_2 a b h (by omega) (by omega)
    · have e : actT ⟨3, (a : Int), (b : Int)⟩ = [98, 97, 99, 107] ++ numT a b 0 := by simp [actT, h, wordT, numsN]
      rw [e]
      exact FormatAct_3 a b h (by omega) (by omega)
    · have e : actT ⟨4, (a : Int), (b : Int)⟩ = [99, 108, 97, 105, 109] ++ numT a b 2 := by simp [actT, h, wordT, numsN]
      rw [e]
      exact FormatAct_4 a b h (by omega) (by omega)
    · have e : actT ⟨5, (a : Int), (b : Int)⟩ = [115, 116, 97, 116, 101] ++ numT a b 0 := by simp [actT, h, wordT, numsN]
      rw [e]
      exact FormatAct_5 a b h (by omega) (by omega)
  | false =>
    have e : actT ⟨k, a', b'⟩ = [] := by simp [actT, h]
    simp only [e]
    refine pc_of Tryz.func99 rfl (by kernel_rfl) _ Tryz.ntmps99 (by simp) ?_
    repeat' first
      | (first | simp -implicitDefEqProofs only [h, go_sem] | (refine And.intro ?_ ?_; omega) | (refine And.intro (shr_bd ?_ ?_) ?_; omega; omega) | refine sl_list rfl ?_ | refine sd_list rfl ?_ | refine sl_str ?_ | refine sd_str ?_)
      | refine callS (ActOk_c k a' b') rfl rfl rfl ?_
    exact fin_scal rfl rfl
theorem iFormatAct_1 (a b : Nat) (h : actOk 1 (a : Int) (b : Int) = true) (ha : a ≤ 999) (hb : b ≤ 9999) : PC Tryz.prog 9 [] [.a (actC ⟨1, (a : Int), (b : Int)⟩)] (.t [.c (.v (.string (sB ([106, 117, 109, 112] ++ numT a b 2)))), .c (.v (.bool true))]) ⟨[], []⟩ := by
  have l1 := itoa_len (n := (a : Int)) (by omega) (by omega)
  have l2 := itoa_len (n := (b : Int)) (by omega) (by omega)
  have wk : wordT 1 = [106, 117, 109, 112] := rfl
  have nk : numsN 1 = 2 := rfl
  have ej : Lib.join [[106, 117, 109, 112], itoa (a : Int), itoa (b : Int)] [32] = [106, 117, 109, 112] ++ numT a b 2 := by simp [Lib.join, List.intercalate, numT]
  have J := libJoin_c [[106, 117, 109, 112], itoa (a : Int), itoa (b : Int)] [32] (by simp) (by rw [ej]; simp only [numT, List.length_append, List.length_cons, List.length_nil]; omega)
  rw [ej] at J
  have aw := actWord_c 1
  have an := actNumbers_c 1
  rw [wk] at aw
  rw [nk] at an
  refine pc_of Tryz.func9 rfl (by kernel_rfl) _ Tryz.ntmps9 (by simp) ?_
  repeat' first
    | (first | simp -implicitDefEqProofs only [h, Int.toNat_natCast, List.take_succ_cons, List.take_zero, go_sem] | (refine And.intro ?_ ?_; omega) | (refine And.intro (shr_bd ?_ ?_) ?_; omega; omega) | refine sl_list rfl ?_ | refine sd_list rfl ?_ | refine sl_str ?_ | refine sd_str ?_)
    | refine callS (iActOk_c 1 (a : Int) (b : Int)) rfl rfl rfl ?_
    | refine draw_stepY Tryz.pl_follows (by kernel_rfl) ?_
    | refine callS aw rfl rfl rfl ?_
    | refine callS (iFormatInt_c (a : Int) (by omega) (by omega)) rfl rfl rfl ?_
    | refine callS (iFormatInt_c (b : Int) (by omega) (by omega)) rfl rfl rfl ?_
    | refine callS an rfl rfl rfl ?_
    | refine callS J rfl rfl rfl ?_
  exact fin_scal rfl rfl
theorem iFormatAct_2 (a b : Nat) (h : actOk 2 (a : Int) (b : Int) = true) (ha : a ≤ 999) (hb : b ≤ 9999) : PC Tryz.prog 9 [] [.a (actC ⟨2, (a : Int), (b : Int)⟩)] (.t [.c (.v (.string (sB ([104, 105, 110, 116] ++ numT a b 1)))), .c (.v (.bool true))]) ⟨[], []⟩ := by
  have l1 := itoa_len (n := (a : Int)) (by omega) (by omega)
  have l2 := itoa_len (n := (b : Int)) (by omega) (by omega)
  have wk : wordT 2 = [104, 105, 110, 116] := rfl
  have nk : numsN 2 = 1 := rfl
  have ej : Lib.join [[104, 105, 110, 116], itoa (a : Int)] [32] = [104, 105, 110, 116] ++ numT a b 1 := by simp [Lib.join, List.intercalate, numT]
  have J := libJoin_c [[104, 105, 110, 116], itoa (a : Int)] [32] (by simp) (by rw [ej]; simp only [numT, List.length_append, List.length_cons, List.length_nil]; omega)
  rw [ej] at J
  have aw := actWord_c 2
  have an := actNumbers_c 2
  rw [wk] at aw
  rw [nk] at an
  refine pc_of Tryz.func9 rfl (by kernel_rfl) _ Tryz.ntmps9 (by simp) ?_
  repeat' first
    | (first | simp -implicitDefEqProofs only [h, Int.toNat_natCast, List.take_succ_cons, List.take_zero, go_sem] | (refine And.intro ?_ ?_; omega) | (refine And.intro (shr_bd ?_ ?_) ?_; omega; omega) | refine sl_list rfl ?_ | refine sd_list rfl ?_ | refine sl_str ?_ | refine sd_str ?_)
    | refine callS (iActOk_c 2 (a : Int) (b : Int)) rfl rfl rfl ?_
    | refine draw_stepY Tryz.pl_follows (by kernel_rfl) ?_
    | refine callS aw rfl rfl rfl ?_
    | refine callS (iFormatInt_c (a : Int) (by omega) (by omega)) rfl rfl rfl ?_
    | refine callS (iFormatInt_c (b : Int) (by omega) (by omega)) rfl rfl rfl ?_
    | refine callS an rfl rfl rfl ?_
    | refine callS J rfl rfl rfl ?_
  exact fin_scal rfl rfl
theorem iFormatAct_3 (a b : Nat) (h : actOk 3 (a : Int) (b : Int) = true) (ha : a ≤ 999) (hb : b ≤ 9999) : PC Tryz.prog 9 [] [.a (actC ⟨3, (a : Int), (b : Int)⟩)] (.t [.c (.v (.string (sB ([98, 97, 99, 107] ++ numT a b 0)))), .c (.v (.bool true))]) ⟨[], []⟩ := by
  have l1 := itoa_len (n := (a : Int)) (by omega) (by omega)
  have l2 := itoa_len (n := (b : Int)) (by omega) (by omega)
  have wk : wordT 3 = [98, 97, 99, 107] := rfl
  have nk : numsN 3 = 0 := rfl
  have ej : Lib.join [[98, 97, 99, 107]] [32] = [98, 97, 99, 107] ++ numT a b 0 := by simp [Lib.join, List.intercalate, numT]
  have J := libJoin_c [[98, 97, 99, 107]] [32] (by simp) (by rw [ej]; simp only [numT, List.length_append, List.length_cons, List.length_nil]; omega)
  rw [ej] at J
  have aw := actWord_c 3
  have an := actNumbers_c 3
  rw [wk] at aw
  rw [nk] at an
  refine pc_of Tryz.func9 rfl (by kernel_rfl) _ Tryz.ntmps9 (by simp) ?_
  repeat' first
    | (first | simp -implicitDefEqProofs only [h, Int.toNat_natCast, List.take_succ_cons, List.take_zero, go_sem] | (refine And.intro ?_ ?_; omega) | (refine And.intro (shr_bd ?_ ?_) ?_; omega; omega) | refine sl_list rfl ?_ | refine sd_list rfl ?_ | refine sl_str ?_ | refine sd_str ?_)
    | refine callS (iActOk_c 3 (a : Int) (b : Int)) rfl rfl rfl ?_
    | refine draw_stepY Tryz.pl_follows (by kernel_rfl) ?_
    | refine callS aw rfl rfl rfl ?_
    | refine callS (iFormatInt_c (a : Int) (by omega) (by omega)) rfl rfl rfl ?_
    | refine callS (iFormatInt_c (b : Int) (by omega) (by omega)) rfl rfl rfl ?_
    | refine callS an rfl rfl rfl ?_
    | refine callS J rfl rfl rfl ?_
  exact fin_scal rfl rfl
theorem iFormatAct_4 (a b : Nat) (h : actOk 4 (a : Int) (b : Int) = true) (ha : a ≤ 999) (hb : b ≤ 9999) : PC Tryz.prog 9 [] [.a (actC ⟨4, (a : Int), (b : Int)⟩)] (.t [.c (.v (.string (sB ([99, 108, 97, 105, 109] ++ numT a b 2)))), .c (.v (.bool true))]) ⟨[], []⟩ := by
  have l1 := itoa_len (n := (a : Int)) (by omega) (by omega)
  have l2 := itoa_len (n := (b : Int)) (by omega) (by omega)
  have wk : wordT 4 = [99, 108, 97, 105, 109] := rfl
  have nk : numsN 4 = 2 := rfl
  have ej : Lib.join [[99, 108, 97, 105, 109], itoa (a : Int), itoa (b : Int)] [32] = [99, 108, 97, 105, 109] ++ numT a b 2 := by simp [Lib.join, List.intercalate, numT]
  have J := libJoin_c [[99, 108, 97, 105, 109], itoa (a : Int), itoa (b : Int)] [32] (by simp) (by rw [ej]; simp only [numT, List.length_append, List.length_cons, List.length_nil]; omega)
  rw [ej] at J
  have aw := actWord_c 4
  have an := actNumbers_c 4
  rw [wk] at aw
  rw [nk] at an
  refine pc_of Tryz.func9 rfl (by kernel_rfl) _ Tryz.ntmps9 (by simp) ?_
  repeat' first
    | (first | simp -implicitDefEqProofs only [h, Int.toNat_natCast, List.take_succ_cons, List.take_zero, go_sem] | (refine And.intro ?_ ?_; omega) | (refine And.intro (shr_bd ?_ ?_) ?_; omega; omega) | refine sl_list rfl ?_ | refine sd_list rfl ?_ | refine sl_str ?_ | refine sd_str ?_)
    | refine callS (iActOk_c 4 (a : Int) (b : Int)) rfl rfl rfl ?_
    | refine draw_stepY Tryz.pl_follows (by kernel_rfl) ?_
    | refine callS aw rfl rfl rfl ?_
    | refine callS (iFormatInt_c (a : Int) (by omega) (by omega)) rfl rfl rfl ?_
    | refine callS (iFormatInt_c (b : Int) (by omega) (by omega)) rfl rfl rfl ?_
    | refine callS an rfl rfl rfl ?_
    | refine callS J rfl rfl rfl ?_
  exact fin_scal rfl rfl
theorem iFormatAct_5 (a b : Nat) (h : actOk 5 (a : Int) (b : Int) = true) (ha : a ≤ 999) (hb : b ≤ 9999) : PC Tryz.prog 9 [] [.a (actC ⟨5, (a : Int), (b : Int)⟩)] (.t [.c (.v (.string (sB ([115, 116, 97, 116, 101] ++ numT a b 0)))), .c (.v (.bool true))]) ⟨[], []⟩ := by
  have l1 := itoa_len (n := (a : Int)) (by omega) (by omega)
  have l2 := itoa_len (n := (b : Int)) (by omega) (by omega)
  have wk : wordT 5 = [115, 116, 97, 116, 101] := rfl
  have nk : numsN 5 = 0 := rfl
  have ej : Lib.join [[115, 116, 97, 116, 101]] [32] = [115, 116, 97, 116, 101] ++ numT a b 0 := by simp [Lib.join, List.intercalate, numT]
  have J := libJoin_c [[115, 116, 97, 116, 101]] [32] (by simp) (by rw [ej]; simp only [numT, List.length_append, List.length_cons, List.length_nil]; omega)
  rw [ej] at J
  have aw := actWord_c 5
  have an := actNumbers_c 5
  rw [wk] at aw
  rw [nk] at an
  refine pc_of Tryz.func9 rfl (by kernel_rfl) _ Tryz.ntmps9 (by simp) ?_
  repeat' first
    | (first | simp -implicitDefEqProofs only [h, Int.toNat_natCast, List.take_succ_cons, List.take_zero, go_sem] | (refine And.intro ?_ ?_; omega) | (refine And.intro (shr_bd ?_ ?_) ?_; omega; omega) | refine sl_list rfl ?_ | refine sd_list rfl ?_ | refine sl_str ?_ | refine sd_str ?_)
    | refine callS (iActOk_c 5 (a : Int) (b : Int)) rfl rfl rfl ?_
    | refine draw_stepY Tryz.pl_follows (by kernel_rfl) ?_
    | refine callS aw rfl rfl rfl ?_
    | refine callS (iFormatInt_c (a : Int) (by omega) (by omega)) rfl rfl rfl ?_
    | refine callS (iFormatInt_c (b : Int) (by omega) (by omega)) rfl rfl rfl ?_
    | refine callS an rfl rfl rfl ?_
    | refine callS J rfl rfl rfl ?_
  exact fin_scal rfl rfl
theorem iFormatAct_c (x : Ac) : PC Tryz.prog 9 [] [.a (actC x)] (.t [.c (.v (.string (sB (actT x)))), .c (.v (.bool (actOk x.k x.a x.b)))]) ⟨[], []⟩ := by
  obtain ⟨k, a', b'⟩ := x
  cases h : actOk k a' b' with
  | true =>
    obtain ⟨hk, ha, hb⟩ := act_cases h
    obtain ⟨a, rfl⟩ : ∃ a : Nat, a' = a := ⟨a'.toNat, by omega⟩
    obtain ⟨b, rfl⟩ : ∃ b : Nat, b' = b := ⟨b'.toNat, by omega⟩
    rcases hk with rfl | rfl | rfl | rfl | rfl
    · have e : actT ⟨1, (a : Int), (b : Int)⟩ = [106, 117, 109, 112] ++ numT a b 2 := by simp [actT, h, wordT, numsN]
      rw [e]
      exact iFormatAct_1 a b h (by omega) (by omega)
    · have e : actT ⟨2, (a : Int), (b : Int)⟩ = [104, 105, 110, 116] ++ numT a b 1 := by simp [actT, h, wordT, numsN]
      rw [e]
      exact iFormatAct_2 a b h (by omega) (by omega)
    · have e : actT ⟨3, (a : Int), (b : Int)⟩ = [98, 97, 99, 107] ++ numT a b 0 := by simp [actT, h, wordT, numsN]
      rw [e]
      exact iFormatAct_3 a b h (by omega) (by omega)
    · have e : actT ⟨4, (a : Int), (b : Int)⟩ = [99, 108, 97, 105, 109] ++ numT a b 2 := by simp [actT, h, wordT, numsN]
      rw [e]
      exact iFormatAct_4 a b h (by omega) (by omega)
    · have e : actT ⟨5, (a : Int), (b : Int)⟩ = [115, 116, 97, 116, 101] ++ numT a b 0 := by simp [actT, h, wordT, numsN]
      rw [e]
      exact iFormatAct_5 a b h (by omega) (by omega)
  | false =>
    have e : actT ⟨k, a', b'⟩ = [] := by simp [actT, h]
    simp only [e]
    refine pc_of Tryz.func9 rfl (by kernel_rfl) _ Tryz.ntmps9 (by simp) ?_
    repeat' first
      | (first | simp -implicitDefEqProofs only [h, go_sem] | (refine And.intro ?_ ?_; omega) | (refine And.intro (shr_bd ?_ ?_) ?_; omega; omega) | refine sl_list rfl ?_ | refine sd_list rfl ?_ | refine sl_str ?_ | refine sd_str ?_)
      | refine callS (iActOk_c k a' b') rfl rfl rfl ?_
    exact fin_scal rfl rfl
end Go.Proofs.YtahnbliabllflaaGreatDoor
namespace Go.Proofs.YtahnbliabllflaaGreatDoor
open Go.PL
set_option linter.unusedSimpArgs false
end Go.Proofs.YtahnbliabllflaaGreatDoor
namespace Go.Proofs.YtahnbliabllflaaGreatDoor
open Go.PL
set_option linter.unusedSimpArgs false
set_option linter.unusedVariables false
def scrOk (l : List Ac) : Bool := decide (l.length ≤ 40) && l.all fun a => actOk a.k a.a a.b
def scrT (l : List Ac) : List UInt8 := l.flatMap fun a => actT a ++ [10]
def scrR (l : List Ac) : List UInt8 := if scrOk l = true then scrT l else []
theorem scrT_next {l : List Ac} {i : Nat} (h : i < l.length) : scrT (l.take (i + 1)) = scrT (l.take i) ++ (actT l[i] ++ [10]) := by
  unfold scrT
  rw [List.take_succ_eq_append_getElem h, List.flatMap_append, List.flatMap_cons, List.flatMap_nil, List.append_nil]
theorem scrT_len : ∀ l : List Ac, (scrT l).length ≤ 50 * l.length
  | [] => by simp [scrT]
  | a :: l => by
    have := scrT_len l
    have h := actT_len (a := a)
    simp only [scrT, List.flatMap_cons, List.length_append, List.length_cons, List.length_nil] at this ⊢
    omega
theorem scrOk_bad {l : List Ac} {i : Nat} (h : i < l.length) (hb : actOk l[i].k l[i].a l[i].b = false) : scrOk l = false := by
  unfold scrOk
  have : (l.all fun a => actOk a.k a.a a.b) = false := by
    rw [List.all_eq_false]
    exact ⟨l[i], List.getElem_mem h, by simp [hb]⟩
  rw [this, Bool.and_false]
set_option maxHeartbeats 4000000 in
theorem iScriptText_c (l : List Ac) : PC Tryz.prog 16 [] [.c (.l 3 (l.map actV))] (.t [.c (.v (.string (sB (scrR l)))), .c (.v (.bool (scrOk l)))]) ⟨[], []⟩ := by
  by_cases h40 : 40 < l.length
  · have e : scrOk l = false := by simp [scrOk]; omega
    have e2 : scrR l = [] := by simp [scrR, e]
    have e3 : ((40 : Int) < (l.length : Int)) = True := eq_true (by omega)
    rw [e, e2]
    refine pc_of Tryz.func16 rfl (by kernel_rfl) _ Tryz.ntmps16 (by simp) ?_
    (repeat' (first | simp -implicitDefEqProofs only [e3, go_sem] | (refine And.intro ?_ ?_; omega) | (refine And.intro (shr_bd ?_ ?_) ?_; omega; omega) | refine sl_list rfl ?_ | refine sd_list rfl ?_ | refine sl_str ?_ | refine sd_str ?_))
    exact fin_scal rfl rfl
  have hl : l.length ≤ 40 := by omega
  have e3 : ((40 : Int) < (l.length : Int)) = False := eq_false (by omega)
  have hs0 : scrT (l.take 0) = [] := rfl
  have hs1 : scrT [] = [] := rfl
  refine pc_of Tryz.func16 rfl (by kernel_rfl) _ Tryz.ntmps16 (by simp) ?_
  (repeat' (first | simp -implicitDefEqProofs only [e3, go_sem] | (refine And.intro ?_ ?_; omega) | (refine And.intro (shr_bd ?_ ?_) ?_; omega; omega) | refine sl_list rfl ?_ | refine sd_list rfl ?_ | refine sl_str ?_ | refine sd_str ?_))
  refine loop_step (X := Nat) (fun i => ⟨31, [(2, vS []), (3, .s (.c (.v (.bool false)))), (4, vS (scrT (l.take i))), (12, vL 3 (l.map actV)), (13, vN l.length), (14, vN i)], ⟨[], []⟩⟩)
    (fun i => i ≤ l.length ∧ ∀ k (hk : k < l.length), k < i → actOk l[k].k l[k].a l[k].b = true) (fun i => l.length - i) 0 ⟨by omega, fun k _ h => by omega⟩ (weak_of (fun i => i) (fun i => i) rfl ⟨by simp [hs0, hs1] <;> omega, by simp [hs0, hs1] <;> omega, by simp [hs0, hs1] <;> omega, by simp [hs0, hs1] <;> omega, by simp [hs0, hs1] <;> omega⟩ (by simp [hs0, hs1] <;> omega)) (fun i hi => ?_)
  obtain ⟨hi1, hi2⟩ := hi
  by_cases hlt : i < l.length
  · have e0 : ((i : Int) < l.length) = True := eq_true (by omega)
    have g1 := map_get (f := actV) hlt
    have n1 := scrT_next hlt
    have bd := scrOk_bad hlt
    have ok1 : actOk l[i].k l[i].a l[i].b = true → ∀ k (hk : k < l.length), k < i + 1 → actOk l[k].k l[k].a l[k].b = true := fun h k hk hki => by
      by_cases hki' : k < i
      · exact hi2 k hk hki'
      · obtain rfl : k = i := by omega
        exact h
    have len1 := scrT_len (l.take i)
    have tl : (l.take i).length = i := List.length_take_of_le hi1
    have fa := iFormatAct_c l[i]
    have al := actT_len (a := l[i])
    generalize l[i] = a at g1 n1 bd fa al ok1
    cases ha : actOk a.k a.a a.b with
    | false =>
      rw [ha] at fa
      have e := bd ha
      have e2 : scrR l = [] := by simp [scrR, e]
      rw [e, e2]
      repeat' first
        | (first | simp -implicitDefEqProofs only [e0, g1, actV, hlt, go_sem] | (refine And.intro ?_ ?_; omega) | (refine And.intro (shr_bd ?_ ?_) ?_; omega; omega) | refine sl_list rfl ?_ | refine sd_list rfl ?_ | refine sl_str ?_ | refine sd_str ?_)
        | refine callS fa rfl rfl rfl ?_
      exact fin_scal rfl rfl
    | true =>
      rw [ha] at fa
      repeat' first
        | (first | simp -implicitDefEqProofs only [e0, g1, actV, hlt, go_sem] | (refine And.intro ?_ ?_; omega) | (refine And.intro (shr_bd ?_ ?_) ?_; omega; omega) | refine sl_list rfl ?_ | refine sd_list rfl ?_ | refine sl_str ?_ | refine sd_str ?_)
        | refine callS fa rfl rfl rfl ?_
      exact ⟨i + 1, ⟨by omega, ok1 ha⟩, by omega, weak_of (fun i => i) (fun i => i) rfl ⟨by simp [n1] <;> omega, by simp [n1] <;> omega, by simp [n1] <;> omega, by simp [n1] <;> omega, by simp [n1] <;> omega⟩ (by simp [n1] <;> omega)⟩
  · have e0 : ((i : Int) < l.length) = False := eq_false (by omega)
    obtain rfl : i = l.length := by omega
    have e : scrOk l = true := by
      unfold scrOk
      rw [Bool.and_eq_true, decide_eq_true_eq, List.all_eq_true]
      refine ⟨hl, fun a ha => ?_⟩
      obtain ⟨k, hk, rfl⟩ := List.mem_iff_getElem.1 ha
      exact hi2 k hk hk
    have e2 : scrR l = scrT l := by simp [scrR, e]
    have tl : l.take l.length = l := List.take_length
    rw [e, e2]
    rw [tl]
    (repeat' (first | simp -implicitDefEqProofs only [e0, go_sem] | (refine And.intro ?_ ?_; omega) | (refine And.intro (shr_bd ?_ ?_) ?_; omega; omega) | refine sl_list rfl ?_ | refine sd_list rfl ?_ | refine sl_str ?_ | refine sd_str ?_))
    exact fin_scal rfl rfl
end Go.Proofs.YtahnbliabllflaaGreatDoor
