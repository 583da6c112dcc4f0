/-
  What the functions on boards compute: valid boards, holes.
-/
import Derived.Test.YtncdcgaaeclhiaaL1
import Derived.Test.YtncdcgaaeclhiaaGa
import Derived.Test.YtncdcgaaeclhiaaEg
namespace Go.Proofs.Ytncdcgaaeclhiaa
open Go.PL
set_option linter.unusedSimpArgs false
structure Brd where
  w : Int
  h : Int
  n : Int
abbrev brdC (b : Brd) : List C := [.v (.int .i64 b.w), .v (.int .i64 b.h), .v (.int .i64 b.n)]
theorem toBoard_c (b : Brd) : PC Try.prog 12 [] [.a (brdC b)] (.s (.a (brdC b))) ⟨[], []⟩ := by
  refine pc_of Try.func12 rfl (by kernel_rfl) _ Try.ntmps12 (by simp) ?_
  simp -implicitDefEqProofs only [go_sem, Nat.reduceLT, Nat.reduceLeDiff, Nat.reduceEqDiff, Nat.reduceAdd, Nat.reduceSub, Nat.reduceMul, Int.reduceEq, Int.reduceLT, Int.reduceLE, Int.reduceNeg, Int.reduceAdd, Int.reduceSub, Int.reduceMul, Int.reduceToNat, reduceIte, reduceCtorEq, List.map_cons, List.map_nil]
  exact fin_scal rfl rfl
def bitAt (n k : Int) : Bool := decide ((((n / 2 ^ k.toNat).toNat &&& 1 : Nat) : Int) = 1)
@[go_sem] theorem bit1_fold {n k : Int} : decide ((((n / 2 ^ k.toNat).toNat &&& 1 : Nat) : Int) = 1) = bitAt n k := rfl
@[go_sem] theorem bit0_fold {n k : Int} : decide ((((n / 2 ^ k.toNat).toNat &&& 1 : Nat) : Int) = 0) = !bitAt n k := by
  unfold bitAt
  have : ((n / 2 ^ k.toNat).toNat &&& 1) = (n / 2 ^ k.toNat).toNat % 2 := Nat.and_one_is_mod _
  rw [this]
  have h2 := Nat.mod_lt (n / 2 ^ k.toNat).toNat (show 2 > 0 by omega)
  by_cases h : (n / 2 ^ k.toNat).toNat % 2 = 1
  · simp [h]
  · have : (n / 2 ^ k.toNat).toNat % 2 = 0 := by omega
    simp [this]
theorem within_iff {a b c : Int} : within a b c = true ↔ b ≤ a ∧ a ≤ c := by simp [within]
theorem within_not {a b c : Int} : within a b c = false ↔ ¬ (b ≤ a ∧ a ≤ c) := by rw [← within_iff]; simp
theorem mul_bd {w h : Int} (h1 : 1 ≤ w) (h2 : w ≤ 7) (h3 : 1 ≤ h) (h4 : h ≤ 7) : 1 ≤ w * h ∧ w * h ≤ 49 := by
  have a : w = 1 ∨ w = 2 ∨ w = 3 ∨ w = 4 ∨ w = 5 ∨ w = 6 ∨ w = 7 := by omega
  rcases a with rfl | rfl | rfl | rfl | rfl | rfl | rfl <;> omega
theorem pow_bd {m : Int} (h0 : 0 ≤ m) (h : m ≤ 49) : 1 ≤ (2 : Int) ^ m.toNat ∧ (2 : Int) ^ m.toNat ≤ 562949953421312 := by
  have h1 : (2 : Nat) ^ m.toNat ≤ 2 ^ 49 := Nat.pow_le_pow_right (by omega) (by omega)
  have h2 : 0 < (2 : Nat) ^ m.toNat := Nat.pow_pos (by omega)
  have e : ((2 ^ m.toNat : Nat) : Int) = (2 : Int) ^ m.toNat := by simp
  rw [← e]
  omega
def sideOk (b : Brd) : Bool := within b.w 1 7 && within b.h 1 7
def boardOk (b : Brd) : Bool := sideOk b && within b.n 1 (2 ^ (b.w * b.h).toNat - 1)
theorem BoardOk_c (b : Brd) : PC Try.prog 87 [] [.a (brdC b)] (vB (boardOk b)) ⟨[], []⟩ := by
  refine pc_of Try.func87 rfl (by kernel_rfl) _ Try.ntmps87 (by simp) ?_
  by_cases hw : within b.w 1 7 = true
  · by_cases hh : within b.h 1 7 = true
    · have hw' := within_iff.1 hw
      have hh' := within_iff.1 hh
      have hm := mul_bd hw'.1 hw'.2 hh'.1 hh'.2
      have hp := pow_bd (by omega) hm.2
      repeat' first
        | simp -implicitDefEqProofs only [hw, hh, Int.one_mul, go_sem, Nat.reduceLT, Nat.reduceLeDiff, Nat.reduceEqDiff, Nat.reduceAdd, Nat.reduceSub, Nat.reduceMul, Int.reduceEq, Int.reduceLT, Int.reduceLE, Int.reduceNeg, Int.reduceAdd, Int.reduceSub, Int.reduceMul, Int.reduceToNat, reduceIte, reduceCtorEq, List.map_cons, List.map_nil]
        | refine if_splitP (fun h => ?_) (fun h => ?_) | refine if_splitN (fun h => ?_) (fun h => ?_) | refine if_split (fun h => ?_) (fun h => ?_) | refine grd_splitP (fun h => ?_) (fun h => ?_) | refine grd_splitN (fun h => ?_) (fun h => ?_) | refine grd_split (fun h => ?_) (fun h => ?_) | refine grdX_splitP (fun h => ?_) (fun h => ?_) | refine grdX_splitN (fun h => ?_) (fun h => ?_) | refine grdX_split (fun h => ?_) (fun h => ?_) | refine grdY_splitP (fun h => ?_) (fun h => ?_) | refine grdY_splitN (fun h => ?_) (fun h => ?_) | refine grdY_split (fun h => ?_) (fun h => ?_)
        | refine draw_step Try.pl_follows (by kernel_rfl) ?_
        | refine callS (l01In_c _ _ _) rfl rfl rfl ?_
        | refine callD (l01In_c _ _ _) rfl rfl rfl ?_
        | refine And.intro (by omega) ?_
      exact fin_scal rfl (by simp [boardOk, sideOk, hw, hh])
    · repeat' first
        | simp -implicitDefEqProofs only [hw, hh, go_sem, Nat.reduceLT, Nat.reduceLeDiff, Nat.reduceEqDiff, Nat.reduceAdd, Nat.reduceSub, Nat.reduceMul, Int.reduceEq, Int.reduceLT, Int.reduceLE, Int.reduceNeg, Int.reduceAdd, Int.reduceSub, Int.reduceMul, Int.reduceToNat, reduceIte, reduceCtorEq, List.map_cons, List.map_nil]
        | refine callS (l01In_c _ _ _) rfl rfl rfl ?_
      exact fin_scal rfl (by simp [boardOk, sideOk, hw, hh])
  · repeat' first
      | simp -implicitDefEqProofs only [hw, go_sem, Nat.reduceLT, Nat.reduceLeDiff, Nat.reduceEqDiff, Nat.reduceAdd, Nat.reduceSub, Nat.reduceMul, Int.reduceEq, Int.reduceLT, Int.reduceLE, Int.reduceNeg, Int.reduceAdd, Int.reduceSub, Int.reduceMul, Int.reduceToNat, reduceIte, reduceCtorEq, List.map_cons, List.map_nil]
      | refine callS (l01In_c _ _ _) rfl rfl rfl ?_
    exact fin_scal rfl (by simp [boardOk, sideOk, hw])
theorem iBoardOk_c (b : Brd) : PC Try.prog 91 [] [.a (brdC b)] (vB (boardOk b)) ⟨[], []⟩ := by
  refine pc_of Try.func91 rfl (by kernel_rfl) _ Try.ntmps91 (by simp) ?_
  simp -implicitDefEqProofs only [go_sem, Nat.reduceLT, Nat.reduceLeDiff, Nat.reduceEqDiff, Nat.reduceAdd, Nat.reduceSub, Nat.reduceMul, Int.reduceEq, Int.reduceLT, Int.reduceLE, Int.reduceNeg, Int.reduceAdd, Int.reduceSub, Int.reduceMul, Int.reduceToNat, reduceIte, reduceCtorEq, List.map_cons, List.map_nil]
  refine draw_step Try.pl_follows (by kernel_rfl) ?_
  by_cases hw : within b.w 1 7 = true
  · by_cases hh : within b.h 1 7 = true
    · have hw' := within_iff.1 hw
      have hh' := within_iff.1 hh
      have hm := mul_bd hw'.1 hw'.2 hh'.1 hh'.2
      have hp := pow_bd (by omega) hm.2
      repeat' first
        | simp -implicitDefEqProofs only [hw, hh, Int.one_mul, go_sem, Nat.reduceLT, Nat.reduceLeDiff, Nat.reduceEqDiff, Nat.reduceAdd, Nat.reduceSub, Nat.reduceMul, Int.reduceEq, Int.reduceLT, Int.reduceLE, Int.reduceNeg, Int.reduceAdd, Int.reduceSub, Int.reduceMul, Int.reduceToNat, reduceIte, reduceCtorEq, List.map_cons, List.map_nil]
        | refine if_splitP (fun h => ?_) (fun h => ?_) | refine if_splitN (fun h => ?_) (fun h => ?_) | refine if_split (fun h => ?_) (fun h => ?_) | refine grd_splitP (fun h => ?_) (fun h => ?_) | refine grd_splitN (fun h => ?_) (fun h => ?_) | refine grd_split (fun h => ?_) (fun h => ?_) | refine grdX_splitP (fun h => ?_) (fun h => ?_) | refine grdX_splitN (fun h => ?_) (fun h => ?_) | refine grdX_split (fun h => ?_) (fun h => ?_) | refine grdY_splitP (fun h => ?_) (fun h => ?_) | refine grdY_splitN (fun h => ?_) (fun h => ?_) | refine grdY_split (fun h => ?_) (fun h => ?_)
        | refine callD (within_c _ _ _) rfl rfl rfl ?_
        | refine And.intro (by omega) ?_
      exact fin_scal rfl (by simp [boardOk, sideOk, hw, hh])
    · repeat' first
        | simp -implicitDefEqProofs only [hw, hh, go_sem, Nat.reduceLT, Nat.reduceLeDiff, Nat.reduceEqDiff, Nat.reduceAdd, Nat.reduceSub, Nat.reduceMul, Int.reduceEq, Int.reduceLT, Int.reduceLE, Int.reduceNeg, Int.reduceAdd, Int.reduceSub, Int.reduceMul, Int.reduceToNat, reduceIte, reduceCtorEq, List.map_cons, List.map_nil]
        | refine callD (within_c _ _ _) rfl rfl rfl ?_
      exact fin_scal rfl (by simp [boardOk, sideOk, hw, hh])
  · repeat' first
      | simp -implicitDefEqProofs only [hw, go_sem, Nat.reduceLT, Nat.reduceLeDiff, Nat.reduceEqDiff, Nat.reduceAdd, Nat.reduceSub, Nat.reduceMul, Int.reduceEq, Int.reduceLT, Int.reduceLE, Int.reduceNeg, Int.reduceAdd, Int.reduceSub, Int.reduceMul, Int.reduceToNat, reduceIte, reduceCtorEq, List.map_cons, List.map_nil]
      | refine callD (within_c _ _ _) rfl rfl rfl ?_
    exact fin_scal rfl (by simp [boardOk, sideOk, hw])
structure BOk (b : Brd) : Prop where
  w1 : 1 ≤ b.w
  w2 : b.w ≤ 7
  h1 : 1 ≤ b.h
  h2 : b.h ≤ 7
  m1 : 1 ≤ b.w * b.h
  m2 : b.w * b.h ≤ 49
  n1 : 1 ≤ b.n
  n2 : b.n ≤ 2 ^ (b.w * b.h).toNat - 1
  n3 : b.n ≤ 562949953421311
theorem bok {b : Brd} (h : boardOk b = true) : BOk b := by
  simp only [boardOk, sideOk, Bool.and_eq_true, within_iff] at h
  obtain ⟨⟨⟨h1, h2⟩, h3, h4⟩, h5, h6⟩ := h
  have hm := mul_bd h1 h2 h3 h4
  have hp := pow_bd (by omega) hm.2
  exact ⟨h1, h2, h3, h4, hm.1, hm.2, h5, h6, by omega⟩
theorem hasBit_c (n k : Int) (hn : 0 ≤ n) (hn2 : n ≤ 9223372036854775807) (h0 : 0 ≤ k) (h1 : k ≤ 64) : PC Try.prog 92 [] [.c (.v (.int .i64 n)), .c (.v (.int .i64 k))] (vB (bitAt n k)) ⟨[], []⟩ := by
  refine pc_of Try.func92 rfl (by kernel_rfl) _ Try.ntmps92 (by simp) ?_
  have hq : 0 ≤ n / 2 ^ k.toNat := Int.ediv_nonneg hn (Int.pow_nonneg (by omega))
  have hq2 : n / 2 ^ k.toNat ≤ n := Int.ediv_le_self _ hn
  repeat' first
    | simp -implicitDefEqProofs only [go_sem, Nat.reduceLT, Nat.reduceLeDiff, Nat.reduceEqDiff, Nat.reduceAdd, Nat.reduceSub, Nat.reduceMul, Int.reduceEq, Int.reduceLT, Int.reduceLE, Int.reduceNeg, Int.reduceAdd, Int.reduceSub, Int.reduceMul, Int.reduceToNat, reduceIte, reduceCtorEq, List.map_cons, List.map_nil]
    | refine And.intro (by omega) ?_
  exact fin_scal rfl rfl
def hasHole (b : Brd) (k : Int) : Bool := boardOk b && within k 0 (b.w * b.h - 1) && bitAt b.n k
theorem HasHole_c (b : Brd) (k : Int) : PC Try.prog 89 [] [.a (brdC b), .c (.v (.int .i64 k))] (vB (hasHole b k)) ⟨[], []⟩ := by
  refine pc_of Try.func89 rfl (by kernel_rfl) _ Try.ntmps89 (by simp) ?_
  simp -implicitDefEqProofs only [go_sem, Nat.reduceLT, Nat.reduceLeDiff, Nat.reduceEqDiff, Nat.reduceAdd, Nat.reduceSub, Nat.reduceMul, Int.reduceEq, Int.reduceLT, Int.reduceLE, Int.reduceNeg, Int.reduceAdd, Int.reduceSub, Int.reduceMul, Int.reduceToNat, reduceIte, reduceCtorEq, List.map_cons, List.map_nil]
  refine callS (BoardOk_c b) rfl rfl rfl ?_
  simp -implicitDefEqProofs only [go_sem, Nat.reduceLT, Nat.reduceLeDiff, Nat.reduceEqDiff, Nat.reduceAdd, Nat.reduceSub, Nat.reduceMul, Int.reduceEq, Int.reduceLT, Int.reduceLE, Int.reduceNeg, Int.reduceAdd, Int.reduceSub, Int.reduceMul, Int.reduceToNat, reduceIte, reduceCtorEq, List.map_cons, List.map_nil]
  refine grd_split (fun hb => ?_) (fun hb => ?_)
  · obtain ⟨w1, w2, h1, h2, m1, m2, n1, n2, n3⟩ := bok hb
    by_cases hk : within k 0 (b.w * b.h - 1) = true
    · have hk' := within_iff.1 hk
      have hq : 0 ≤ b.n / 2 ^ k.toNat := Int.ediv_nonneg (by omega) (Int.pow_nonneg (by omega))
      have hq2 : b.n / 2 ^ k.toNat ≤ b.n := Int.ediv_le_self _ (by omega)
      repeat' first
        | simp -implicitDefEqProofs only [hb, hk, go_sem, Nat.reduceLT, Nat.reduceLeDiff, Nat.reduceEqDiff, Nat.reduceAdd, Nat.reduceSub, Nat.reduceMul, Int.reduceEq, Int.reduceLT, Int.reduceLE, Int.reduceNeg, Int.reduceAdd, Int.reduceSub, Int.reduceMul, Int.reduceToNat, reduceIte, reduceCtorEq, List.map_cons, List.map_nil]
        | refine callS (l01In_c _ _ _) rfl rfl rfl ?_
        | refine And.intro (by omega) ?_
      exact fin_scal rfl (by simp [hasHole, hb, hk])
    · repeat' first
        | simp -implicitDefEqProofs only [hb, hk, go_sem, Nat.reduceLT, Nat.reduceLeDiff, Nat.reduceEqDiff, Nat.reduceAdd, Nat.reduceSub, Nat.reduceMul, Int.reduceEq, Int.reduceLT, Int.reduceLE, Int.reduceNeg, Int.reduceAdd, Int.reduceSub, Int.reduceMul, Int.reduceToNat, reduceIte, reduceCtorEq, List.map_cons, List.map_nil]
        | refine callS (l01In_c _ _ _) rfl rfl rfl ?_
        | refine And.intro (by omega) ?_
      exact fin_scal rfl (by simp [hasHole, hb, hk])
  · simp -implicitDefEqProofs only [hb, go_sem, Nat.reduceLT, Nat.reduceLeDiff, Nat.reduceEqDiff, Nat.reduceAdd, Nat.reduceSub, Nat.reduceMul, Int.reduceEq, Int.reduceLT, Int.reduceLE, Int.reduceNeg, Int.reduceAdd, Int.reduceSub, Int.reduceMul, Int.reduceToNat, reduceIte, reduceCtorEq, List.map_cons, List.map_nil]
    exact fin_scal rfl (by simp [hasHole, hb])
theorem iHasHole_c (b : Brd) (k : Int) : PC Try.prog 93 [] [.a (brdC b), .c (.v (.int .i64 k))] (vB (hasHole b k)) ⟨[], []⟩ := by
  refine pc_of Try.func93 rfl (by kernel_rfl) _ Try.ntmps93 (by simp) ?_
  simp -implicitDefEqProofs only [go_sem, Nat.reduceLT, Nat.reduceLeDiff, Nat.reduceEqDiff, Nat.reduceAdd, Nat.reduceSub, Nat.reduceMul, Int.reduceEq, Int.reduceLT, Int.reduceLE, Int.reduceNeg, Int.reduceAdd, Int.reduceSub, Int.reduceMul, Int.reduceToNat, reduceIte, reduceCtorEq, List.map_cons, List.map_nil]
  refine callS (iBoardOk_c b) rfl rfl rfl ?_
  simp -implicitDefEqProofs only [go_sem, Nat.reduceLT, Nat.reduceLeDiff, Nat.reduceEqDiff, Nat.reduceAdd, Nat.reduceSub, Nat.reduceMul, Int.reduceEq, Int.reduceLT, Int.reduceLE, Int.reduceNeg, Int.reduceAdd, Int.reduceSub, Int.reduceMul, Int.reduceToNat, reduceIte, reduceCtorEq, List.map_cons, List.map_nil]
  refine grd_split (fun hb => ?_) (fun hb => ?_)
  · obtain ⟨w1, w2, h1, h2, m1, m2, n1, n2, n3⟩ := bok hb
    by_cases hk : within k 0 (b.w * b.h - 1) = true
    · have hk' := within_iff.1 hk
      repeat' first
        | simp -implicitDefEqProofs only [hb, hk, go_sem, Nat.reduceLT, Nat.reduceLeDiff, Nat.reduceEqDiff, Nat.reduceAdd, Nat.reduceSub, Nat.reduceMul, Int.reduceEq, Int.reduceLT, Int.reduceLE, Int.reduceNeg, Int.reduceAdd, Int.reduceSub, Int.reduceMul, Int.reduceToNat, reduceIte, reduceCtorEq, List.map_cons, List.map_nil]
        | refine callS (within_c _ _ _) rfl rfl rfl ?_
        | refine callS (hasBit_c _ _ (by omega) (by omega) (by omega) (by omega)) rfl rfl rfl ?_
        | refine And.intro (by omega) ?_
      exact fin_scal rfl (by simp [hasHole, hb, hk])
    · repeat' first
        | simp -implicitDefEqProofs only [hb, hk, go_sem, Nat.reduceLT, Nat.reduceLeDiff, Nat.reduceEqDiff, Nat.reduceAdd, Nat.reduceSub, Nat.reduceMul, Int.reduceEq, Int.reduceLT, Int.reduceLE, Int.reduceNeg, Int.reduceAdd, Int.reduceSub, Int.reduceMul, Int.reduceToNat, reduceIte, reduceCtorEq, List.map_cons, List.map_nil]
        | refine callS (within_c _ _ _) rfl rfl rfl ?_
        | refine And.intro (by omega) ?_
      exact fin_scal rfl (by simp [hasHole, hb, hk])
  · simp -implicitDefEqProofs only [hb, go_sem, Nat.reduceLT, Nat.reduceLeDiff, Nat.reduceEqDiff, Nat.reduceAdd, Nat.reduceSub, Nat.reduceMul, Int.reduceEq, Int.reduceLT, Int.reduceLE, Int.reduceNeg, Int.reduceAdd, Int.reduceSub, Int.reduceMul, Int.reduceToNat, reduceIte, reduceCtorEq, List.map_cons, List.map_nil]
    exact fin_scal rfl (by simp [hasHole, hb])
attribute [irreducible] bitAt
end Go.Proofs.Ytncdcgaaeclhiaa
