/-
  What the functions of the law on acts compute, and that the law answers true.
  What the functions on boards compute: valid boards, holes.
  What the functions on boards compute: the list of holes, a step, the lines.
-/
import Derived.Test.YtahnbliabllflaaFa
import Derived.Test.YtahnbliabllflaaEg
import Derived.Test.YtahnbliabllflaaGa
namespace Go.Proofs.Ytahnbliabllflaa
open Go.PL
set_option linter.unusedSimpArgs false
def within (n lo hi : Int) : Bool := decide (lo ≤ n) && decide (n ≤ hi)
theorem within_c (a b c : Int) : PC Try.prog 62 [] [.c (.v (.int .i64 a)), .c (.v (.int .i64 b)), .c (.v (.int .i64 c))] (vB (within a b c)) ⟨[], []⟩ := by
  refine pc_of Try.func62 rfl (by kernel_rfl) _ Try.ntmps62 (by simp) ?_
  simp -implicitDefEqProofs only [go_sem]
  refine grd_split (fun h => ?_) (fun h => ?_) <;> simp -implicitDefEqProofs only [h, go_sem] <;> exact fin_scal rfl (by simp [within, vB, vV, h])
theorem l01In_c (a b c : Int) : PC Try.prog 49 [] [.c (.v (.int .i64 a)), .c (.v (.int .i64 b)), .c (.v (.int .i64 c))] (vB (within a b c)) ⟨[], []⟩ := by
  refine pc_of Try.func49 rfl (by kernel_rfl) _ Try.ntmps49 (by simp) ?_
  simp -implicitDefEqProofs only [go_sem]
  refine grd_split (fun h => ?_) (fun h => ?_) <;> simp -implicitDefEqProofs only [h, go_sem] <;> exact fin_scal rfl (by simp [within, vB, vV, h])
def actOk (k a b : Int) : Bool :=
  if k = 1 then within a 0 48 && within b 0 48
  else if k = 2 then within a 0 100 && decide (b = 0)
  else if k = 4 then within a 0 999 && within b 0 9999
  else if k = 3 ∨ k = 5 then decide (a = 0) && decide (b = 0)
  else false
end Go.Proofs.Ytahnbliabllflaa
namespace Go.Proofs.Ytahnbliabllflaa
open Go.PL
set_option linter.unusedSimpArgs false
structure Brd where
  w : Int
  h : Int
  n : Int
abbrev brdC (b : Brd) : List C := [.v (.int .i64 b.w), .v (.int .i64 b.h), .v (.int .i64 b.n)]
def bitAt (n k : Int) : Bool := decide ((((n / 2 ^ k.toNat).toNat &&& 1 : Nat) : Int) = 1)
@[go_sem] theorem bit1_fold {n k : Int} : decide ((((n / 2 ^ k.toNat).toNat &&& 1 : Nat) : Int) = 1) = bitAt n k := rfl
@[go_sem] theorem bit0_fold {n k : Int} : decide ((((n / 2 ^ k.toNat).toNat &&& 1 : Nat) : Int) = 0) = !bitAt n k := by
  unfold bitAt
  have : ((n / 2 ^ k.toNat).toNat &&& 1) = (n / 2 ^ k.toNat).toNat % 2 := Nat.and_one_is_mod _
  rw [this]
  have h2 := Nat.mod_lt (n / 2 ^ k.toNat).toNat (show 2 > 0 by omega)
  by_cases h : (n / 2 ^ k.toNat).toNat % 2 = 1
  · simp [h]
  · have : (n / 2 ^ k.toNat).toNat % 2 = 0 := by omega
    simp [this]
theorem within_iff {a b c : Int} : within a b c = true ↔ b ≤ a ∧ a ≤ c := by simp [within]
theorem within_not {a b c : Int} : within a b c = false ↔ ¬ (b ≤ a ∧ a ≤ c) := by rw [← within_iff]; simp
theorem mul_bd {w h : Int} (h1 : 1 ≤ w) (h2 : w ≤ 7) (h3 : 1 ≤ h) (h4 : h ≤ 7) : 1 ≤ w * h ∧ w * h ≤ 49 := by
  have a : w = 1 ∨ w = 2 ∨ w = 3 ∨ w = 4 ∨ w = 5 ∨ w = 6 ∨ w = 7 := by omega
  rcases a with rfl | rfl | rfl | rfl | rfl | rfl | rfl <;> omega
theorem pow_bd {m : Int} (h0 : 0 ≤ m) (h : m ≤ 49) : 1 ≤ (2 : Int) ^ m.toNat ∧ (2 : Int) ^ m.toNat ≤ 562949953421312 := by
  have h1 : (2 : Nat) ^ m.toNat ≤ 2 ^ 49 := Nat.pow_le_pow_right (by omega) (by omega)
  have h2 : 0 < (2 : Nat) ^ m.toNat := Nat.pow_pos (by omega)
  have e : ((2 ^ m.toNat : Nat) : Int) = (2 : Int) ^ m.toNat := by simp
  rw [← e]
  omega
def sideOk (b : Brd) : Bool := within b.w 1 7 && within b.h 1 7
def boardOk (b : Brd) : Bool := sideOk b && within b.n 1 (2 ^ (b.w * b.h).toNat - 1)
theorem BoardOk_c (b : Brd) : PC Try.prog 44 [] [.a (brdC b)] (vB (boardOk b)) ⟨[], []⟩ := by
  refine pc_of Try.func44 rfl (by kernel_rfl) _ Try.ntmps44 (by simp) ?_
  by_cases hw : within b.w 1 7 = true
  · by_cases hh : within b.h 1 7 = true
    · have hw' := within_iff.1 hw
      have hh' := within_iff.1 hh
      have hm := mul_bd hw'.1 hw'.2 hh'.1 hh'.2
      have hp := pow_bd (by omega) hm.2
      repeat' first
        | simp -implicitDefEqProofs only [hw, hh, Int.one_mul, go_sem]
        | refine if_splitP (fun h => ?_) (fun h => ?_) | refine if_splitN (fun h => ?_) (fun h => ?_) | refine if_split (fun h => ?_) (fun h => ?_) | refine grd_splitP (fun h => ?_) (fun h => ?_) | refine grd_splitN (fun h => ?_) (fun h => ?_) | refine grd_split (fun h => ?_) (fun h => ?_) | refine grdX_splitP (fun h => ?_) (fun h => ?_) | refine grdX_splitN (fun h => ?_) (fun h => ?_) | refine grdX_split (fun h => ?_) (fun h => ?_) | refine grdY_splitP (fun h => ?_) (fun h => ?_) | refine grdY_splitN (fun h => ?_) (fun h => ?_) | refine grdY_split (fun h => ?_) (fun h => ?_)
        | refine draw_step Try.pl_follows (by kernel_rfl) ?_
        | refine callS (l01In_c _ _ _) rfl rfl rfl ?_
        | refine callD (l01In_c _ _ _) rfl rfl rfl ?_
        | refine And.intro (by omega) ?_
      exact fin_scal rfl (by simp [boardOk, sideOk, hw, hh])
    · repeat' first
        | simp -implicitDefEqProofs only [hw, hh, go_sem]
        | refine callS (l01In_c _ _ _) rfl rfl rfl ?_
      exact fin_scal rfl (by simp [boardOk, sideOk, hw, hh])
  · repeat' first
      | simp -implicitDefEqProofs only [hw, go_sem]
      | refine callS (l01In_c _ _ _) rfl rfl rfl ?_
    exact fin_scal rfl (by simp [boardOk, sideOk, hw])
theorem iBoardOk_c (b : Brd) : PC Try.prog 60 [] [.a (brdC b)] (vB (boardOk b)) ⟨[], []⟩ := by
  refine pc_of Try.func60 rfl (by kernel_rfl) _ Try.ntmps60 (by simp) ?_
  simp -implicitDefEqProofs only [go_sem]
  refine draw_step Try.pl_follows (by kernel_rfl) ?_
  by_cases hw : within b.w 1 7 = true
  · by_cases hh : within b.h 1 7 = true
    · have hw' := within_iff.1 hw
      have hh' := within_iff.1 hh
      have hm := mul_bd hw'.1 hw'.2 hh'.1 hh'.2
      have hp := pow_bd (by omega) hm.2
      repeat' first
        | simp -implicitDefEqProofs only [hw, hh, Int.one_mul, go_sem]
        | refine if_splitP (fun h => ?_) (fun h => ?_) | refine if_splitN (fun h => ?_) (fun h => ?_) | refine if_split (fun h => ?_) (fun h => ?_) | refine grd_splitP (fun h => ?_) (fun h => ?_) | refine grd_splitN (fun h => ?_) (fun h => ?_) | refine grd_split (fun h => ?_) (fun h => ?_) | refine grdX_splitP (fun h => ?_) (fun h => ?_) | refine grdX_splitN (fun h => ?_) (fun h => ?_) | refine grdX_split (fun h => ?_) (fun h => ?_) | refine grdY_splitP (fun h => ?_) (fun h => ?_) | refine grdY_splitN (fun h => ?_) (fun h => ?_) | refine grdY_split (fun h => ?_) (fun h => ?_)
        | refine callD (within_c _ _ _) rfl rfl rfl ?_
        | refine And.intro (by omega) ?_
      exact fin_scal rfl (by simp [boardOk, sideOk, hw, hh])
    · repeat' first
        | simp -implicitDefEqProofs only [hw, hh, go_sem]
        | refine callD (within_c _ _ _) rfl rfl rfl ?_
      exact fin_scal rfl (by simp [boardOk, sideOk, hw, hh])
  · repeat' first
      | simp -implicitDefEqProofs only [hw, go_sem]
      | refine callD (within_c _ _ _) rfl rfl rfl ?_
    exact fin_scal rfl (by simp [boardOk, sideOk, hw])
structure BOk (b : Brd) : Prop where
  w1 : 1 ≤ b.w
  w2 : b.w ≤ 7
  h1 : 1 ≤ b.h
  h2 : b.h ≤ 7
  m1 : 1 ≤ b.w * b.h
  m2 : b.w * b.h ≤ 49
  n1 : 1 ≤ b.n
  n2 : b.n ≤ 2 ^ (b.w * b.h).toNat - 1
  n3 : b.n ≤ 562949953421311
theorem bok {b : Brd} (h : boardOk b = true) : BOk b := by
  simp only [boardOk, sideOk, Bool.and_eq_true, within_iff] at h
  obtain ⟨⟨⟨h1, h2⟩, h3, h4⟩, h5, h6⟩ := h
  have hm := mul_bd h1 h2 h3 h4
  have hp := pow_bd (by omega) hm.2
  exact ⟨h1, h2, h3, h4, hm.1, hm.2, h5, h6, by omega⟩
theorem hasBit_c (n k : Int) (hn : 0 ≤ n) (hn2 : n ≤ 9223372036854775807) (h0 : 0 ≤ k) (h1 : k ≤ 64) : PC Try.prog 39 [] [.c (.v (.int .i64 n)), .c (.v (.int .i64 k))] (vB (bitAt n k)) ⟨[], []⟩ := by
  refine pc_of Try.func39 rfl (by kernel_rfl) _ Try.ntmps39 (by simp) ?_
  have hq : 0 ≤ n / 2 ^ k.toNat := Int.ediv_nonneg hn (Int.pow_nonneg (by omega))
  have hq2 : n / 2 ^ k.toNat ≤ n := Int.ediv_le_self _ hn
  repeat' first
    | simp -implicitDefEqProofs only [go_sem]
    | refine And.intro (by omega) ?_
  exact fin_scal rfl rfl
def hasHole (b : Brd) (k : Int) : Bool := boardOk b && within k 0 (b.w * b.h - 1) && bitAt b.n k
theorem HasHole_c (b : Brd) (k : Int) : PC Try.prog 59 [] [.a (brdC b), .c (.v (.int .i64 k))] (vB (hasHole b k)) ⟨[], []⟩ := by
  refine pc_of Try.func59 rfl (by kernel_rfl) _ Try.ntmps59 (by simp) ?_
  simp -implicitDefEqProofs only [go_sem]
  refine callS (BoardOk_c b) rfl rfl rfl ?_
  simp -implicitDefEqProofs only [go_sem]
  refine grd_split (fun hb => ?_) (fun hb => ?_)
  · obtain ⟨w1, w2, h1, h2, m1, m2, n1, n2, n3⟩ := bok hb
    by_cases hk : within k 0 (b.w * b.h - 1) = true
    · have hk' := within_iff.1 hk
      have hq : 0 ≤ b.n / 2 ^ k.toNat := Int.ediv_nonneg (by omega) (Int.pow_nonneg (by omega))
      have hq2 : b.n / 2 ^ k.toNat ≤ b.n := Int.ediv_le_self _ (by omega)
      repeat' first
        | simp -implicitDefEqProofs only [hb, hk, go_sem]
        | refine callS (l01In_c _ _ _) rfl rfl rfl ?_
        | refine And.intro (by omega) ?_
      exact fin_scal rfl (by simp [hasHole, hb, hk])
    · repeat' first
        | simp -implicitDefEqProofs only [hb, hk, go_sem]
        | refine callS (l01In_c _ _ _) rfl rfl rfl ?_
        | refine And.intro (by omega) ?_
      exact fin_scal rfl (by simp [hasHole, hb, hk])
  · simp -implicitDefEqProofs only [hb, go_sem]
    exact fin_scal rfl (by simp [hasHole, hb])
theorem iHasHole_c (b : Brd) (k : Int) : PC Try.prog 61 [] [.a (brdC b), .c (.v (.int .i64 k))] (vB (hasHole b k)) ⟨[], []⟩ := by
  refine pc_of Try.func61 rfl (by kernel_rfl) _ Try.ntmps61 (by simp) ?_
  simp -implicitDefEqProofs only [go_sem]
  refine callS (iBoardOk_c b) rfl rfl rfl ?_
  simp -implicitDefEqProofs only [go_sem]
  refine grd_split (fun hb => ?_) (fun hb => ?_)
  · obtain ⟨w1, w2, h1, h2, m1, m2, n1, n2, n3⟩ := bok hb
    by_cases hk : within k 0 (b.w * b.h - 1) = true
    · have hk' := within_iff.1 hk
      repeat' first
        | simp -implicitDefEqProofs only [hb, hk, go_sem]
        | refine callS (within_c _ _ _) rfl rfl rfl ?_
        | refine callS (hasBit_c _ _ (by omega) (by omega) (by omega) (by omega)) rfl rfl rfl ?_
        | refine And.intro (by omega) ?_
      exact fin_scal rfl (by simp [hasHole, hb, hk])
    · repeat' first
        | simp -implicitDefEqProofs only [hb, hk, go_sem]
        | refine callS (within_c _ _ _) rfl rfl rfl ?_
        | refine And.intro (by omega) ?_
      exact fin_scal rfl (by simp [hasHole, hb, hk])
  · simp -implicitDefEqProofs only [hb, go_sem]
    exact fin_scal rfl (by simp [hasHole, hb])
attribute [irreducible] bitAt
end Go.Proofs.Ytahnbliabllflaa
namespace Go.Proofs.Ytahnbliabllflaa
open Go.PL
set_option linter.unusedSimpArgs false
abbrev iV (n : Int) : Value := .int .i64 n
def bitsN (n : Int) (m : Nat) : List Int := ((List.range m).filter (fun (k : Nat) => bitAt n (k : Int))).map (fun (k : Nat) => (k : Int))
@[go_sem] theorem bit1_foldN {n : Int} {i : Nat} : decide ((((n / 2 ^ i).toNat &&& 1 : Nat) : Int) = 1) = bitAt n (i : Int) := by simp [bitAt]
theorem bitsN_zero {n : Int} : bitsN n 0 = [] := rfl
theorem bitsN_hit {n : Int} {m : Nat} (h : bitAt n (m : Int) = true) : bitsN n (m + 1) = bitsN n m ++ [(m : Int)] := by simp [bitsN, List.range_succ, List.filter_append, h]
theorem bitsN_miss {n : Int} {m : Nat} (h : bitAt n (m : Int) = false) : bitsN n (m + 1) = bitsN n m := by simp [bitsN, List.range_succ, List.filter_append, h]
theorem bitsN_len {n : Int} {m : Nat} : (bitsN n m).length ≤ m := by
  have := List.length_filter_le (fun k : Nat => bitAt n (k : Int)) (List.range m)
  simp [bitsN] at this ⊢
  omega
theorem bitsN_more {n : Int} {m : Nat} (h0 : 0 ≤ n) (h : n < 2 ^ m) : ∀ d, bitsN n (m + d) = bitsN n m
  | 0 => rfl
  | d + 1 => by
    rw [← Nat.add_assoc, bitsN_miss, bitsN_more h0 h d]
    unfold bitAt
    have e1 : ((m + d : Nat) : Int).toNat = m + d := Int.toNat_natCast _
    have e2 : n < 2 ^ (m + d) := by
      have : (2 : Int) ^ m ≤ 2 ^ (m + d) := by
        have h2 : (2 : Nat) ^ m ≤ 2 ^ (m + d) := Nat.pow_le_pow_right (by omega) (by omega)
        have e : ((2 ^ m : Nat) : Int) ≤ ((2 ^ (m + d) : Nat) : Int) := by omega
        simpa using e
      omega
    rw [e1, Int.ediv_eq_zero_of_lt h0 e2]
    rfl
theorem mem_bitsN {n k : Int} {m : Nat} (h : k ∈ bitsN n m) : 0 ≤ k ∧ k < m ∧ bitAt n k = true := by
  simp only [bitsN, List.mem_map, List.mem_filter, List.mem_range] at h
  obtain ⟨j, ⟨h1, h2⟩, rfl⟩ := h
  exact ⟨by omega, by omega, h2⟩
def holesOf (b : Brd) : List Int := if boardOk b = true then bitsN b.n (b.w * b.h).toNat else []
theorem holes_49 {b : Brd} (h : boardOk b = true) : bitsN b.n 49 = holesOf b := by
  have k := bok h
  have m2 := k.m2
  have m1 := k.m1
  have n2 := k.n2
  have n1 := k.n1
  have e : 49 = (b.w * b.h).toNat + (49 - (b.w * b.h).toNat) := by omega
  rw [holesOf, if_pos h]
  conv => lhs; rw [e]
  exact bitsN_more (by omega) (by omega) _
theorem mem_holes {b : Brd} {k : Int} (h : k ∈ holesOf b) : boardOk b = true ∧ hasHole b k = true ∧ 0 ≤ k ∧ k ≤ 48 := by
  unfold holesOf at h
  split at h
  · rename_i hb
    have hk := bok hb
    have m2 := hk.m2
    have m1 := hk.m1
    obtain ⟨h1, h2, h3⟩ := mem_bitsN h
    refine ⟨hb, ?_, h1, by omega⟩
    simp only [hasHole, hb, h3, Bool.true_and, Bool.and_true, within_iff]
    omega
  · cases h
theorem holes_len {b : Brd} : (holesOf b).length ≤ 49 := by
  unfold holesOf
  split
  · rename_i hb
    have m2 := (bok hb).m2
    have := bitsN_len (n := b.n) (m := (b.w * b.h).toNat)
    omega
  · simp
theorem l02List_c (d : Nat) (n : Int) (hn : 0 ≤ n) (hn2 : n ≤ 9223372036854775807) : PC Try.prog 58 [] [.c (.v (.int .i64 n))] (.s (.c (.o d))) ⟨[], [(d, ⟨3, 1, (bitsN n 49).map iV, false, true⟩)]⟩ := by
  refine pc_of Try.func58 rfl (by kernel_rfl) _ Try.ntmps58 (by simp) ?_
  simp -implicitDefEqProofs only [go_sem]
  refine loop_step (X := Nat) (fun i => ⟨20, [(0, vN n), (3, vO 5), (4, vN i)], ⟨[], [(5, ⟨3, 1, (bitsN n i).map iV, false, true⟩)]⟩⟩)
    (fun i => i ≤ 49) (fun i => 49 - i) 0 (by omega) (weak_of (fun i => i) (fun i => i) rfl ⟨by simp [bitsN_zero] <;> omega, by simp [bitsN_zero] <;> omega, by simp [bitsN_zero] <;> omega, by simp [bitsN_zero] <;> omega, by simp [bitsN_zero] <;> omega⟩ (by simp [bitsN_zero] <;> omega)) (fun i hi => ?_)
  simp -implicitDefEqProofs only [go_sem]
  refine if_splitP (fun h => ?_) (fun h => ?_)
  · have hq : 0 ≤ n / 2 ^ i := Int.ediv_nonneg hn (Int.pow_nonneg (by omega))
    have hq2 : n / 2 ^ i ≤ n := Int.ediv_le_self _ hn
    have hl := bitsN_len (n := n) (m := i)
    repeat' first
      | simp -implicitDefEqProofs only [go_sem]
      | refine And.intro (by omega) ?_
      | refine if_splitP (fun h => ?_) (fun h => ?_) | refine if_splitN (fun h => ?_) (fun h => ?_) | refine if_split (fun h => ?_) (fun h => ?_) | refine grd_splitP (fun h => ?_) (fun h => ?_) | refine grd_splitN (fun h => ?_) (fun h => ?_) | refine grd_split (fun h => ?_) (fun h => ?_) | refine grdX_splitP (fun h => ?_) (fun h => ?_) | refine grdX_splitN (fun h => ?_) (fun h => ?_) | refine grdX_split (fun h => ?_) (fun h => ?_) | refine grdY_splitP (fun h => ?_) (fun h => ?_) | refine grdY_splitN (fun h => ?_) (fun h => ?_) | refine grdY_split (fun h => ?_) (fun h => ?_)
    · exact ⟨i + 1, by omega, by omega, weak_of (fun i => i) (fun i => if i = 5 then 18 else i) rfl ⟨by simp [bitsN_hit h] <;> omega, by simp [bitsN_hit h] <;> omega, by simp [bitsN_hit h] <;> omega, by simp [bitsN_hit h] <;> omega, by simp [bitsN_hit h] <;> omega⟩ (by simp [bitsN_hit h] <;> omega)⟩
    · exact ⟨i + 1, by omega, by omega, weak_of (fun i => i) (fun i => i) rfl ⟨by simp [bitsN_miss h] <;> omega, by simp [bitsN_miss h] <;> omega, by simp [bitsN_miss h] <;> omega, by simp [bitsN_miss h] <;> omega, by simp [bitsN_miss h] <;> omega⟩ (by simp [bitsN_miss h] <;> omega)⟩
  · have e : i = 49 := by omega
    subst e
    simp -implicitDefEqProofs only [go_sem]
    exact fin_of (fun i => i) (fun i => 5) ⟨by simp <;> omega, by simp <;> omega, by simp <;> omega, by simp <;> omega, by simp <;> omega⟩ (by simp <;> omega) rfl
theorem HolesOf_c (d : Nat) (b : Brd) : PC Try.prog 45 [] [.a (brdC b)] (.s (.c (.o d))) ⟨[], [(d, ⟨3, 1, (holesOf b).map iV, false, true⟩)]⟩ := by
  refine pc_of Try.func45 rfl (by kernel_rfl) _ Try.ntmps45 (by simp) ?_
  simp -implicitDefEqProofs only [go_sem]
  refine callS (BoardOk_c b) rfl rfl rfl ?_
  simp -implicitDefEqProofs only [go_sem]
  refine if_splitN (fun hb => ?_) (fun hb => ?_)
  · simp -implicitDefEqProofs only [go_sem]
    have e : holesOf b = [] := by simp [holesOf, hb]
    rw [e]
    exact fin_of (fun i => i) (fun i => 6) ⟨by simp <;> omega, by simp <;> omega, by simp <;> omega, by simp <;> omega, by simp <;> omega⟩ (by simp <;> omega) rfl
  · have k := bok hb
    have n1 := k.n1
    have n3 := k.n3
    simp -implicitDefEqProofs only [go_sem]
    refine callL (l02List_c 9 b.n (by omega) (by omega)) rfl rfl rfl ?_
    simp -implicitDefEqProofs only [holes_49 hb, go_sem]
    exact fin_of (fun i => i) (fun i => 9) ⟨by simp <;> omega, by simp <;> omega, by simp <;> omega, by simp <;> omega, by simp <;> omega⟩ (by simp <;> omega) rfl
theorem iHolesOf_c (d : Nat) (b : Brd) : PC Try.prog 51 [] [.a (brdC b)] (.s (.c (.o d))) ⟨[], [(d, ⟨3, 1, (holesOf b).map iV, false, true⟩)]⟩ := by
  refine pc_of Try.func51 rfl (by kernel_rfl) _ Try.ntmps51 (by simp) ?_
  simp -implicitDefEqProofs only [go_sem]
  refine loop_step (X := Nat) (fun i => ⟨28, [(1, .s (.c (.p 1 0))), (3, vO 5), (4, vN i)], ⟨[(1, brdC b)], [(5, ⟨3, 1, (bitsN b.n i).map iV, false, true⟩)]⟩⟩)
    (fun i => i ≤ 49 ∧ (boardOk b = false → i = 0) ∧ (boardOk b = true → i ≤ (b.w * b.h).toNat)) (fun i => 49 - i) 0 ⟨by omega, by simp, by simp⟩ (weak_of (fun i => i) (fun i => i) rfl ⟨by simp [bitsN_zero] <;> omega, by simp [bitsN_zero] <;> omega, by simp [bitsN_zero] <;> omega, by simp [bitsN_zero] <;> omega, by simp [bitsN_zero] <;> omega⟩ (by simp [bitsN_zero] <;> omega)) (fun i hi => ?_)
  obtain ⟨hi0, hi1, hi2⟩ := hi
  simp -implicitDefEqProofs only [go_sem]
  refine callS (iBoardOk_c b) rfl rfl rfl ?_
  simp -implicitDefEqProofs only [go_sem]
  refine grd_split (fun hb => ?_) (fun hb => ?_)
  · have k := bok hb
    have n1 := k.n1
    have n3 := k.n3
    have m1 := k.m1
    have m2 := k.m2
    have hl := bitsN_len (n := b.n) (m := i)
    have hi3 := hi2 hb
    simp -implicitDefEqProofs only [hb, go_sem]
    refine And.intro (by omega) ?_
    refine if_splitP (fun h => ?_) (fun h => ?_)
    · simp -implicitDefEqProofs only [go_sem]
      refine callS (hasBit_c b.n i (by omega) (by omega) (by omega) (by omega)) rfl rfl rfl ?_
      simp -implicitDefEqProofs only [go_sem]
      refine if_split (fun h => ?_) (fun h => ?_)
      · simp -implicitDefEqProofs only [go_sem]
        exact ⟨by omega, by omega, i + 1, ⟨by omega, by simp [hb], by omega⟩, by omega, weak_of (fun i => i) (fun i => if i = 5 then 26 else i) rfl ⟨by simp [bitsN_hit h] <;> omega, by simp [bitsN_hit h] <;> omega, by simp [bitsN_hit h] <;> omega, by simp [bitsN_hit h] <;> omega, by simp [bitsN_hit h] <;> omega⟩ (by simp [bitsN_hit h] <;> omega)⟩
      · simp -implicitDefEqProofs only [go_sem]
        exact ⟨by omega, i + 1, ⟨by omega, by simp [hb], by omega⟩, by omega, weak_of (fun i => i) (fun i => i) rfl ⟨by simp [bitsN_miss h] <;> omega, by simp [bitsN_miss h] <;> omega, by simp [bitsN_miss h] <;> omega, by simp [bitsN_miss h] <;> omega, by simp [bitsN_miss h] <;> omega⟩ (by simp [bitsN_miss h] <;> omega)⟩
    · have e : i = (b.w * b.h).toNat := by omega
      have e2 : bitsN b.n i = holesOf b := by rw [e]; simp [holesOf, hb]
      simp -implicitDefEqProofs only [e2, go_sem]
      exact fin_of (fun i => i) (fun i => 5) ⟨by simp <;> omega, by simp <;> omega, by simp <;> omega, by simp <;> omega, by simp <;> omega⟩ (by simp <;> omega) rfl
  · have e2 : bitsN b.n i = holesOf b := by rw [hi1 hb]; simp [holesOf, hb, bitsN_zero]
    simp -implicitDefEqProofs only [hb, e2, go_sem]
    exact fin_of (fun i => i) (fun i => 5) ⟨by simp <;> omega, by simp <;> omega, by simp <;> omega, by simp <;> omega, by simp <;> omega⟩ (by simp <;> omega) rfl
def dx (way : Int) : Int := if way = 0 then 1 else if way = 2 then -1 else 0
def dy (way : Int) : Int := if way = 1 then 1 else if way = 3 then -1 else 0
def cellAt (b : Brd) (x y : Int) : Int := if (within x 0 (b.w - 1) && within y 0 (b.h - 1) && bitAt b.n (y * b.w + x)) = true then y * b.w + x else -1
def stepTo (b : Brd) (k way : Int) : Int := cellAt b (k % b.w + dx way) (k / b.w + dy way)
theorem cell_bd {b : Brd} (hb : boardOk b = true) {x y : Int} (hx : within x 0 (b.w - 1) = true) (hy : within y 0 (b.h - 1) = true) : (0 ≤ x ∧ x ≤ 6) ∧ 0 ≤ y * b.w ∧ y * b.w + x ≤ b.w * b.h - 1 ∧ y * b.w ≤ 48 := by
  have k := bok hb
  have w1 := k.w1
  have w2 := k.w2
  have m2 := k.m2
  rw [within_iff] at hx hy
  have h1 : 0 ≤ y * b.w := Int.mul_nonneg hy.1 (by omega)
  have h2 : y * b.w ≤ (b.h - 1) * b.w := Int.mul_le_mul_of_nonneg_right hy.2 (by omega)
  have h3 : (b.h - 1) * b.w = b.w * b.h - b.w := by rw [Int.sub_mul, Int.one_mul, Int.mul_comm]
  omega
theorem shr_bd {n : Int} {j : Nat} (h0 : 0 ≤ n) (h1 : n ≤ 9223372036854775807) : 0 ≤ n / 2 ^ j ∧ n / 2 ^ j ≤ 9223372036854775807 :=
  ⟨Int.ediv_nonneg h0 (Int.pow_nonneg (by omega)), Int.le_trans (Int.ediv_le_self _ h0) h1⟩
theorem step_hole {b : Brd} (hb : boardOk b = true) {k way : Int} (h : 0 ≤ stepTo b k way) : hasHole b (stepTo b k way) = true ∧ stepTo b k way ≤ 48 := by
  unfold stepTo cellAt at h ⊢
  split at h
  · rename_i hc
    rw [if_pos hc]
    simp only [Bool.and_eq_true] at hc
    obtain ⟨⟨hx, hy⟩, hbit⟩ := hc
    have hbd := cell_bd hb hx hy
    have k := bok hb
    have m2 := k.m2
    refine ⟨?_, by omega⟩
    simp only [hasHole, hb, hbit, Bool.true_and, Bool.and_true, within_iff]
    omega
  · omega
set_option maxHeartbeats 2000000 in
theorem l03Step_c (b : Brd) (k way : Int) (hb : boardOk b = true) (h0 : 0 ≤ k) (h1 : k ≤ 48) (hw0 : 0 ≤ way) (hw1 : way ≤ 3) : PC Try.prog 56 [] [.a (brdC b), .c (.v (.int .i64 k)), .c (.v (.int .i64 way))] (.s (.c (.v (.int .i64 (stepTo b k way))))) ⟨[], []⟩ := by
  refine pc_of Try.func56 rfl (by kernel_rfl) _ Try.ntmps56 (by simp) ?_
  have kk := bok hb
  have w1 := kk.w1
  have w2 := kk.w2
  have g1 := kk.h1
  have g2 := kk.h2
  have m2 := kk.m2
  have n1 := kk.n1
  have n3 := kk.n3
  have r1 := Int.emod_nonneg k (show b.w ≠ 0 by omega)
  have r2 := Int.emod_lt_of_pos k (show 0 < b.w by omega)
  have q1 : 0 ≤ k / b.w := Int.ediv_nonneg h0 (by omega)
  have q2 : k / b.w ≤ k := Int.ediv_le_self _ h0
  have hway : way = 0 ∨ way = 1 ∨ way = 2 ∨ way = 3 := by omega
  unfold stepTo
  rcases hway with rfl | rfl | rfl | rfl
  all_goals
    simp only [dx, dy, if_true, reduceIte, Int.reduceEq]
    clear kk
    repeat' first
      | simp -implicitDefEqProofs only [*, go_sem]
      | refine draw_step Try.pl_follows (by kernel_rfl) ?_
      | refine callS (l01In_c _ _ _) rfl rfl rfl ?_
      | refine And.intro (by omega) ?_
      | refine And.intro (shr_bd (by omega) (by omega)) ?_
      | refine if_splitP (fun h => ?_) (fun h => ?_) | refine if_splitN (fun h => ?_) (fun h => ?_) | refine if_split (fun h => ?_) (fun h => ?_) | refine grd_splitP (fun h => ?_) (fun h => ?_) | refine grd_splitN (fun h => ?_) (fun h => ?_) | refine grd_split (fun h => ?_) (fun h => ?_) | refine grdX_splitP (fun h => ?_) (fun h => ?_) | refine grdX_splitN (fun h => ?_) (fun h => ?_) | refine grdX_split (fun h => ?_) (fun h => ?_) | refine grdY_splitP (fun h => ?_) (fun h => ?_) | refine grdY_splitN (fun h => ?_) (fun h => ?_) | refine grdY_split (fun h => ?_) (fun h => ?_)
      | (have hbd := cell_bd hb ‹within _ 0 (b.w - 1) = true› ‹within _ 0 (b.h - 1) = true›; refine And.intro (by omega) ?_)
    all_goals exact fin_scal rfl (by simp_all [cellAt])
def sideTo (b : Brd) (k way : Int) : Int := if hasHole b k = true then stepTo b k way else -1
theorem hole_bd {b : Brd} {k : Int} (h : hasHole b k = true) : boardOk b = true ∧ 0 ≤ k ∧ k ≤ 48 := by
  simp only [hasHole, Bool.and_eq_true, within_iff] at h
  have m2 := (bok h.1.1).m2
  exact ⟨h.1.1, h.1.2.1, by omega⟩
set_option maxHeartbeats 2000000 in
theorem beside_c (b : Brd) (k way : Int) (hw0 : 0 ≤ way) (hw1 : way ≤ 3) : PC Try.prog 52 [] [.a (brdC b), .c (.v (.int .i64 k)), .c (.v (.int .i64 way))] (.s (.c (.v (.int .i64 (sideTo b k way))))) ⟨[], []⟩ := by
  refine pc_of Try.func52 rfl (by kernel_rfl) _ Try.ntmps52 (by simp) ?_
  simp -implicitDefEqProofs only [go_sem]
  refine callS (iHasHole_c b k) rfl rfl rfl ?_
  simp -implicitDefEqProofs only [go_sem]
  refine if_splitN (fun hh => ?_) (fun hh => ?_)
  · simp -implicitDefEqProofs only [go_sem]
    exact fin_scal rfl (by simp [sideTo, hh])
  simp -implicitDefEqProofs only [go_sem]
  obtain ⟨hb, h0, h1⟩ := hole_bd hh
  have e : sideTo b k way = stepTo b k way := by simp [sideTo, hh]
  rw [e]
  clear e hh
  have kk := bok hb
  have w1 := kk.w1
  have w2 := kk.w2
  have g1 := kk.h1
  have g2 := kk.h2
  have m2 := kk.m2
  have n1 := kk.n1
  have n3 := kk.n3
  have r1 := Int.emod_nonneg k (show b.w ≠ 0 by omega)
  have r2 := Int.emod_lt_of_pos k (show 0 < b.w by omega)
  have q1 : 0 ≤ k / b.w := Int.ediv_nonneg h0 (by omega)
  have q2 : k / b.w ≤ k := Int.ediv_le_self _ h0
  have hway : way = 0 ∨ way = 1 ∨ way = 2 ∨ way = 3 := by omega
  unfold stepTo
  rcases hway with rfl | rfl | rfl | rfl
  all_goals
    simp only [dx, dy, if_true, reduceIte, Int.reduceEq]
    clear kk
    repeat' first
      | simp -implicitDefEqProofs only [*, go_sem]
      | refine draw_step Try.pl_follows (by kernel_rfl) ?_
      | refine callS (within_c _ _ _) rfl rfl rfl ?_
      | refine And.intro (by omega) ?_
      | refine if_splitP (fun h => ?_) (fun h => ?_) | refine if_splitN (fun h => ?_) (fun h => ?_) | refine if_split (fun h => ?_) (fun h => ?_) | refine grd_splitP (fun h => ?_) (fun h => ?_) | refine grd_splitN (fun h => ?_) (fun h => ?_) | refine grd_split (fun h => ?_) (fun h => ?_) | refine grdX_splitP (fun h => ?_) (fun h => ?_) | refine grdX_splitN (fun h => ?_) (fun h => ?_) | refine grdX_split (fun h => ?_) (fun h => ?_) | refine grdY_splitP (fun h => ?_) (fun h => ?_) | refine grdY_splitN (fun h => ?_) (fun h => ?_) | refine grdY_split (fun h => ?_) (fun h => ?_)
      | (have hbd := cell_bd hb ‹within _ 0 (b.w - 1) = true› ‹within _ 0 (b.h - 1) = true›; refine And.intro (by omega) ?_)
      | (have hbd := cell_bd hb ‹within _ 0 (b.w - 1) = true› ‹within _ 0 (b.h - 1) = true›; refine callS (hasBit_c _ _ (by omega) (by omega) (by omega) (by omega)) rfl rfl rfl ?_)
    all_goals exact fin_scal rfl (by simp_all [cellAt])
end Go.Proofs.Ytahnbliabllflaa
