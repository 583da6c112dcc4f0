/-
  Draws of positions.
-/
import Derived.Test.YtggejdgohkfmmaaGreatD3
namespace Go.Proofs.YtggejdgohkfmmaaGreat
open Go.PL
set_option linter.unusedSimpArgs false
theorem hole_tb {b : Brd} {k : Int} (h : k ∈ holesOf b) : b.n.toNat.testBit k.toNat = true ∧ 0 ≤ k ∧ k ≤ 48 := by
  obtain ⟨hb, h1, h2, h3⟩ := mem_holes h
  have n1 := (bok hb).n1
  simp only [hasHole, Bool.and_eq_true] at h1
  rw [← bitAt_toNat (by omega) h2]
  exact ⟨h1.2, h2, h3⟩
theorem sub_le {b : Brd} (hb : boardOk b = true) {q : Nat} (h : Sub b q) : q ≤ 562949953421311 := by
  have n3 := (bok hb).n3
  have h2 : q &&& b.n.toNat ≤ b.n.toNat := Nat.and_le_right
  rw [sub_and h] at h2
  omega
theorem sub_or {b : Brd} {q : Nat} (h : Sub b q) {k : Int} (hk : k ∈ holesOf b) : Sub b (q ||| 2 ^ k.toNat) := fun j hj => by
  rw [Nat.testBit_or, Bool.or_eq_true, Nat.testBit_two_pow] at hj
  rcases hj with hj | hj
  · exact h j hj
  · simp only [decide_eq_true_eq] at hj
    subst hj
    exact (hole_tb hk).1
theorem sub_drop {b : Brd} {q : Nat} (h : Sub b q) (k : Nat) : Sub b (ndiff q (2 ^ k)) := fun j hj => by
  rw [tb_ndiff, Bool.and_eq_true] at hj
  exact h j hj.1
/-- the pegs drawn over the first i holes -/
noncomputable def someS {B : Bs} (hs : List Int) (c : Cr B) : Nat → Nat × Cr B
  | 0 => (0, c)
  | i + 1 => (if 0 < belN (someS hs c i).2 3 then (someS hs c i).1 ||| 2 ^ (hs[i]?.getD 0).toNat else (someS hs c i).1, belC (someS hs c i).2 3)
theorem someS_sub {B : Bs} {b : Brd} {c : Cr B} : ∀ i, i ≤ (holesOf b).length → Sub b (someS (holesOf b) c i).1
  | 0, _ => fun j hj => by simp [someS] at hj
  | i + 1, h => by
    have ih := someS_sub (b := b) (c := c) i (by omega)
    simp only [someS]
    split
    · rw [List.getElem?_eq_getElem (by omega)]
      exact sub_or ih (List.getElem_mem _)
    · exact ih
set_option maxHeartbeats 4000000 in
theorem l04Some_ex {B : Bs} (c : Cr B) {b : Brd} (hb : boardOk b = true) : ∃ q : Nat, Sub b q ∧ Drw 127 c [.a (brdC b)] (vN q) := by
  refine ⟨(someS (holesOf b) c (holesOf b).length).1, someS_sub _ (Nat.le_refl _), (someS (holesOf b) c (holesOf b).length).2, ?_⟩
  refine pc_of Tryz.func127 rfl (by kernel_rfl) _ Tryz.ntmps127 (by simp) ?_
  repeat' first
    | (first | simp -implicitDefEqProofs only [go_sem] | (refine And.intro ?_ ?_; omega) | (refine And.intro (shr_bd ?_ ?_) ?_; omega; omega) | refine sl_list rfl ?_ | refine sd_list rfl ?_ | refine sl_str ?_ | refine sd_str ?_)
    | refine callL1 (fun d => HolesOf_c d b) rfl rfl rfl ?_
  refine loop_step (X := Nat) (fun i => ⟨27, [(0, .s (.c (.p 9000 0))), (5, vN (someS (holesOf b) c i).1), (6, vO 9), (7, vN i)], ⟨[(9000, crC (someS (holesOf b) c i).2)], [(9, ⟨3, 1, (holesOf b).map iV, true, true⟩)]⟩⟩)
    (fun i => i ≤ (holesOf b).length) (fun i => (holesOf b).length - i) 0 (by omega) (weak_pub (by simp -implicitDefEqProofs only [go_sem]; exact weak_of (fun i => i) (fun i => i) rfl ⟨by simp [boxesR, listsR, csR, renC, keyC, optK, fnd, envR, St.get, keyPV, keyV1, renPV, renV1, hasKey, made_zero, someS] <;> omega, by simp [boxesR, listsR, csR, renC, keyC, optK, fnd, envR, St.get, keyPV, keyV1, renPV, renV1, hasKey, made_zero, someS] <;> omega, by simp [boxesR, listsR, csR, renC, keyC, optK, fnd, envR, St.get, keyPV, keyV1, renPV, renV1, hasKey, made_zero, someS] <;> omega, by simp [boxesR, listsR, csR, renC, keyC, optK, fnd, envR, St.get, keyPV, keyV1, renPV, renV1, hasKey, made_zero, someS] <;> omega, by simp [boxesR, listsR, csR, renC, keyC, optK, fnd, envR, St.get, keyPV, keyV1, renPV, renV1, hasKey, made_zero, someS] <;> omega⟩ (by simp [boxesR, listsR, csR, renC, keyC, optK, fnd, envR, St.get, keyPV, keyV1, renPV, renV1, hasKey, made_zero, someS] <;> omega))) (fun i hi => ?_)
  have hsub := someS_sub (b := b) (c := c) i hi
  have hq := sub_le hb hsub
  have e := someS.eq_2 (holesOf b) c i
  have hl := holes_len (b := b)
  by_cases hlt : i < (holesOf b).length
  · have g0 : ((i : Int) < (holesOf b).length) = True := eq_true (by omega)
    have h1 := map_get (f := iV) hlt
    obtain ⟨t1, t2, t3⟩ := hole_tb (List.getElem_mem hlt)
    have ex : (holesOf b)[i]?.getD 0 = (holesOf b)[i] := by rw [List.getElem?_eq_getElem hlt]; rfl
    rw [ex] at e
    have hs' := sub_le hb (sub_or hsub (List.getElem_mem hlt))
    generalize (holesOf b)[i] = k at h1 t1 t2 t3 e hs'
    have pk := pow_bd (m := k) t2 (by omega)
    have ep : (2 : Int) ^ k.toNat = ((2 ^ k.toNat : Nat) : Int) := by simp
    rw [ep] at pk
    by_cases hj : 0 < belN (someS (holesOf b) c i).2 3
    · rw [if_pos hj] at e
      repeat' first
        | (first | simp -implicitDefEqProofs only [g0, h1, hj, Int.one_mul, ep, Int.toNat_natCast, go_sem] | (refine And.intro ?_ ?_; omega) | (refine And.intro (shr_bd ?_ ?_) ?_; omega; omega) | refine sl_list rfl ?_ | refine sd_list rfl ?_ | refine sl_str ?_ | refine sd_str ?_)
        | refine callC (bel_c (someS (holesOf b) c i).2 3) rfl rfl rfl rfl rfl ?_
      exact ⟨i + 1, by omega, by omega, weak_of (fun i => i) (fun i => i) rfl ⟨by simp [boxesR, listsR, csR, renC, keyC, optK, fnd, envR, St.get, keyPV, keyV1, renPV, renV1, hasKey, made_zero, e] <;> omega, by simp [boxesR, listsR, csR, renC, keyC, optK, fnd, envR, St.get, keyPV, keyV1, renPV, renV1, hasKey, made_zero, e] <;> omega, by simp [boxesR, listsR, csR, renC, keyC, optK, fnd, envR, St.get, keyPV, keyV1, renPV, renV1, hasKey, made_zero, e] <;> omega, by simp [boxesR, listsR, csR, renC, keyC, optK, fnd, envR, St.get, keyPV, keyV1, renPV, renV1, hasKey, made_zero, e] <;> omega, by simp [boxesR, listsR, csR, renC, keyC, optK, fnd, envR, St.get, keyPV, keyV1, renPV, renV1, hasKey, made_zero, e] <;> omega⟩ (by simp [boxesR, listsR, csR, renC, keyC, optK, fnd, envR, St.get, keyPV, keyV1, renPV, renV1, hasKey, made_zero, e] <;> omega)⟩
    · rw [if_neg hj] at e
      repeat' first
        | (first | simp -implicitDefEqProofs only [g0, h1, hj, go_sem] | (refine And.intro ?_ ?_; omega) | (refine And.intro (shr_bd ?_ ?_) ?_; omega; omega) | refine sl_list rfl ?_ | refine sd_list rfl ?_ | refine sl_str ?_ | refine sd_str ?_)
        | refine callC (bel_c (someS (holesOf b) c i).2 3) rfl rfl rfl rfl rfl ?_
      exact ⟨i + 1, by omega, by omega, weak_of (fun i => i) (fun i => i) rfl ⟨by simp [boxesR, listsR, csR, renC, keyC, optK, fnd, envR, St.get, keyPV, keyV1, renPV, renV1, hasKey, made_zero, e] <;> omega, by simp [boxesR, listsR, csR, renC, keyC, optK, fnd, envR, St.get, keyPV, keyV1, renPV, renV1, hasKey, made_zero, e] <;> omega, by simp [boxesR, listsR, csR, renC, keyC, optK, fnd, envR, St.get, keyPV, keyV1, renPV, renV1, hasKey, made_zero, e] <;> omega, by simp [boxesR, listsR, csR, renC, keyC, optK, fnd, envR, St.get, keyPV, keyV1, renPV, renV1, hasKey, made_zero, e] <;> omega, by simp [boxesR, listsR, csR, renC, keyC, optK, fnd, envR, St.get, keyPV, keyV1, renPV, renV1, hasKey, made_zero, e] <;> omega⟩ (by simp [boxesR, listsR, csR, renC, keyC, optK, fnd, envR, St.get, keyPV, keyV1, renPV, renV1, hasKey, made_zero, e] <;> omega)⟩
  · have g0 : ((i : Int) < (holesOf b).length) = False := eq_false (by omega)
    obtain rfl : i = (holesOf b).length := by omega
    (repeat' (first | simp -implicitDefEqProofs only [g0, go_sem] | (refine And.intro ?_ ?_; omega) | (refine And.intro (shr_bd ?_ ?_) ?_; omega; omega) | refine sl_list rfl ?_ | refine sd_list rfl ?_ | refine sl_str ?_ | refine sd_str ?_))
    exact fin_of (fun i => i) (fun i => i) ⟨by simp [boxesR, listsR, csR, renC, keyC, optK, fnd, envR, St.get, keyPV, keyV1, renPV, renV1, hasKey, made_zero] <;> omega, by simp [boxesR, listsR, csR, renC, keyC, optK, fnd, envR, St.get, keyPV, keyV1, renPV, renV1, hasKey, made_zero] <;> omega, by simp [boxesR, listsR, csR, renC, keyC, optK, fnd, envR, St.get, keyPV, keyV1, renPV, renV1, hasKey, made_zero] <;> omega, by simp [boxesR, listsR, csR, renC, keyC, optK, fnd, envR, St.get, keyPV, keyV1, renPV, renV1, hasKey, made_zero] <;> omega, by simp [boxesR, listsR, csR, renC, keyC, optK, fnd, envR, St.get, keyPV, keyV1, renPV, renV1, hasKey, made_zero] <;> omega⟩ (by simp [boxesR, listsR, csR, renC, keyC, optK, fnd, envR, St.get, keyPV, keyV1, renPV, renV1, hasKey, made_zero] <;> omega) rfl
set_option maxHeartbeats 4000000 in
theorem l06Start_ex {B : Bs} (c : Cr B) {b : Brd} (hb : boardOk b = true) : ∃ q : Nat, Sub b q ∧ Drw 126 c [.a (brdC b)] (vN q) := by
  have hl := holes_len (b := b)
  have n1 := (bok hb).n1
  have n3 := (bok hb).n3
  by_cases h0 : (holesOf b).length = 0
  · obtain ⟨q, hq, c1, p1⟩ := l04Some_ex c hb
    have g0 : ((holesOf b).length : Int) = 0 := by omega
    refine ⟨q, hq, c1, ?_⟩
    refine pc_of Tryz.func126 rfl (by kernel_rfl) _ Tryz.ntmps126 (by simp) ?_
    repeat' first
      | (first | simp -implicitDefEqProofs only [g0, go_sem] | (refine And.intro ?_ ?_; omega) | (refine And.intro (shr_bd ?_ ?_) ?_; omega; omega) | refine sl_list rfl ?_ | refine sd_list rfl ?_ | refine sl_str ?_ | refine sd_str ?_)
      | refine callL1 (fun d => HolesOf_c d b) rfl rfl rfl ?_
      | refine callC p1 rfl rfl rfl rfl rfl ?_
    exact fin_of (fun i => i) (fun i => i) ⟨by simp [boxesR, listsR, csR, renC, keyC, optK, fnd, envR, St.get, keyPV, keyV1, renPV, renV1, hasKey, made_zero] <;> omega, by simp [boxesR, listsR, csR, renC, keyC, optK, fnd, envR, St.get, keyPV, keyV1, renPV, renV1, hasKey, made_zero] <;> omega, by simp [boxesR, listsR, csR, renC, keyC, optK, fnd, envR, St.get, keyPV, keyV1, renPV, renV1, hasKey, made_zero] <;> omega, by simp [boxesR, listsR, csR, renC, keyC, optK, fnd, envR, St.get, keyPV, keyV1, renPV, renV1, hasKey, made_zero] <;> omega, by simp [boxesR, listsR, csR, renC, keyC, optK, fnd, envR, St.get, keyPV, keyV1, renPV, renV1, hasKey, made_zero] <;> omega⟩ (by simp [boxesR, listsR, csR, renC, keyC, optK, fnd, envR, St.get, keyPV, keyV1, renPV, renV1, hasKey, made_zero] <;> omega) rfl
  have g0 : ¬ ((holesOf b).length : Int) = 0 := by omega
  by_cases h1 : belN c 3 = 0
  · obtain ⟨q, hq, c1, p1⟩ := l04Some_ex (belC c 3) hb
    refine ⟨q, hq, c1, ?_⟩
    refine pc_of Tryz.func126 rfl (by kernel_rfl) _ Tryz.ntmps126 (by simp) ?_
    repeat' first
      | (first | simp -implicitDefEqProofs only [g0, h1, go_sem] | (refine And.intro ?_ ?_; omega) | (refine And.intro (shr_bd ?_ ?_) ?_; omega; omega) | refine sl_list rfl ?_ | refine sd_list rfl ?_ | refine sl_str ?_ | refine sd_str ?_)
      | refine callL1 (fun d => HolesOf_c d b) rfl rfl rfl ?_
      | refine callC (once_c c 3) rfl rfl rfl rfl rfl ?_
      | refine callC p1 rfl rfl rfl rfl rfl ?_
    exact fin_of (fun i => i) (fun i => i) ⟨by simp [boxesR, listsR, csR, renC, keyC, optK, fnd, envR, St.get, keyPV, keyV1, renPV, renV1, hasKey, made_zero] <;> omega, by simp [boxesR, listsR, csR, renC, keyC, optK, fnd, envR, St.get, keyPV, keyV1, renPV, renV1, hasKey, made_zero] <;> omega, by simp [boxesR, listsR, csR, renC, keyC, optK, fnd, envR, St.get, keyPV, keyV1, renPV, renV1, hasKey, made_zero] <;> omega, by simp [boxesR, listsR, csR, renC, keyC, optK, fnd, envR, St.get, keyPV, keyV1, renPV, renV1, hasKey, made_zero] <;> omega, by simp [boxesR, listsR, csR, renC, keyC, optK, fnd, envR, St.get, keyPV, keyV1, renPV, renV1, hasKey, made_zero] <;> omega⟩ (by simp [boxesR, listsR, csR, renC, keyC, optK, fnd, envR, St.get, keyPV, keyV1, renPV, renV1, hasKey, made_zero] <;> omega) rfl
  have b1 := bel_rg (belC c 3) (n := (holesOf b).length) (by omega)
  have b2 := bel_rg (belC (belC c 3) (holesOf b).length) (n := (holesOf b).length) (by omega)
  obtain ⟨i1, e1⟩ : ∃ i1 : Nat, belN (belC c 3) (holesOf b).length = i1 := ⟨(belN (belC c 3) (holesOf b).length).toNat, by omega⟩
  obtain ⟨i2, e2⟩ : ∃ i2 : Nat, belN (belC (belC c 3) (holesOf b).length) (holesOf b).length = i2 := ⟨(belN (belC (belC c 3) (holesOf b).length) (holesOf b).length).toNat, by omega⟩
  have hi1 : i1 < (holesOf b).length := by omega
  have hi2 : i2 < (holesOf b).length := by omega
  have a1 := map_get (f := iV) hi1
  have a2 := map_get (f := iV) hi2
  obtain ⟨t1, t2, t3⟩ := hole_tb (List.getElem_mem hi1)
  obtain ⟨u1, u2, u3⟩ := hole_tb (List.getElem_mem hi2)
  generalize (holesOf b)[i1] = k at a1 t1 t2 t3
  generalize (holesOf b)[i2] = m at a2 u1 u2 u3
  have pk := pow_bd (m := k) t2 (by omega)
  have pm := pow_bd (m := m) u2 (by omega)
  have hsb : Sub b b.n.toNat := fun j hj => hj
  have s1 := sub_drop hsb k.toNat
  have s2 := sub_drop s1 m.toNat
  have v1 : ((ndiff b.n.toNat (2 ^ k.toNat) : Nat) : Int) = b.n - 2 ^ k.toNat := by
    have := ndiff_sub t1
    have hge : 2 ^ k.toNat ≤ b.n.toNat := by
      apply Classical.byContradiction
      intro hc
      have := bit_lt (n := k.toNat) (by omega) t1
      omega
    have ep : ((2 ^ k.toNat : Nat) : Int) = (2 : Int) ^ k.toNat := by simp
    omega
  have l1 := sub_le hb s1
  obtain ⟨q, eq⟩ : ∃ q, q = ndiff b.n.toNat (2 ^ k.toNat) := ⟨_, rfl⟩
  rw [← eq] at s1 s2 v1 l1
  have em : (m.toNat : Int) = m := Int.toNat_of_nonneg u2
  by_cases hj : bitAt (q : Int) m = true
  · have v2 : ((ndiff q (2 ^ m.toNat) : Nat) : Int) = q - 2 ^ m.toNat := by
      rw [bitAt_toNat (by omega) u2, Int.toNat_natCast] at hj
      have := ndiff_sub hj
      have hge : 2 ^ m.toNat ≤ q := by
        apply Classical.byContradiction
        intro hc
        have := bit_lt (n := m.toNat) (by omega) hj
        omega
      have ep : ((2 ^ m.toNat : Nat) : Int) = (2 : Int) ^ m.toNat := by simp
      omega
    by_cases h2 : belN (belC (belC (belC c 3) (holesOf b).length) (holesOf b).length) 2 = 0
    · refine ⟨_, s2, belC (belC (belC (belC c 3) (holesOf b).length) (holesOf b).length) 2, ?_⟩
      refine pc_of Tryz.func126 rfl (by kernel_rfl) _ Tryz.ntmps126 (by simp) ?_
      repeat' first
        | (first | simp -implicitDefEqProofs only [g0, h1, h2, e1, e2, a1, a2, ← v1, em, hj, Int.one_mul, go_sem] | (refine And.intro ?_ ?_; omega) | (refine And.intro (shr_bd ?_ ?_) ?_; omega; omega) | refine sl_list rfl ?_ | refine sd_list rfl ?_ | refine sl_str ?_ | refine sd_str ?_)
        | refine callL1 (fun d => HolesOf_c d b) rfl rfl rfl ?_
        | refine callC (once_c c 3) rfl rfl rfl rfl rfl ?_
        | refine callC (once_c _ 2) rfl rfl rfl rfl rfl ?_
        | refine callC (bel_c (belC c 3) _) rfl rfl rfl rfl rfl ?_
        | refine callC (bel_c (belC (belC c 3) _) _) rfl rfl rfl rfl rfl ?_
        | refine draw_stepY Tryz.pl_follows (by kernel_rfl) ?_
      exact fin_of (fun i => i) (fun i => i) ⟨by simp [boxesR, listsR, csR, renC, keyC, optK, fnd, envR, St.get, keyPV, keyV1, renPV, renV1, hasKey, made_zero, v2] <;> omega, by simp [boxesR, listsR, csR, renC, keyC, optK, fnd, envR, St.get, keyPV, keyV1, renPV, renV1, hasKey, made_zero, v2] <;> omega, by simp [boxesR, listsR, csR, renC, keyC, optK, fnd, envR, St.get, keyPV, keyV1, renPV, renV1, hasKey, made_zero, v2] <;> omega, by simp [boxesR, listsR, csR, renC, keyC, optK, fnd, envR, St.get, keyPV, keyV1, renPV, renV1, hasKey, made_zero, v2] <;> omega, by simp [boxesR, listsR, csR, renC, keyC, optK, fnd, envR, St.get, keyPV, keyV1, renPV, renV1, hasKey, made_zero, v2] <;> omega⟩ (by simp [boxesR, listsR, csR, renC, keyC, optK, fnd, envR, St.get, keyPV, keyV1, renPV, renV1, hasKey, made_zero, v2] <;> omega) (by first | rfl | (simp [renPV, renV1, renC, v2]))
    · refine ⟨_, s1, belC (belC (belC (belC c 3) (holesOf b).length) (holesOf b).length) 2, ?_⟩
      refine pc_of Tryz.func126 rfl (by kernel_rfl) _ Tryz.ntmps126 (by simp) ?_
      repeat' first
        | (first | simp -implicitDefEqProofs only [g0, h1, h2, e1, e2, a1, a2, ← v1, em, hj, Int.one_mul, go_sem] | (refine And.intro ?_ ?_; omega) | (refine And.intro (shr_bd ?_ ?_) ?_; omega; omega) | refine sl_list rfl ?_ | refine sd_list rfl ?_ | refine sl_str ?_ | refine sd_str ?_)
        | refine callL1 (fun d => HolesOf_c d b) rfl rfl rfl ?_
        | refine callC (once_c c 3) rfl rfl rfl rfl rfl ?_
        | refine callC (once_c _ 2) rfl rfl rfl rfl rfl ?_
        | refine callC (bel_c (belC c 3) _) rfl rfl rfl rfl rfl ?_
        | refine callC (bel_c (belC (belC c 3) _) _) rfl rfl rfl rfl rfl ?_
        | refine draw_stepY Tryz.pl_follows (by kernel_rfl) ?_
      exact fin_of (fun i => i) (fun i => i) ⟨by simp [boxesR, listsR, csR, renC, keyC, optK, fnd, envR, St.get, keyPV, keyV1, renPV, renV1, hasKey, made_zero] <;> omega, by simp [boxesR, listsR, csR, renC, keyC, optK, fnd, envR, St.get, keyPV, keyV1, renPV, renV1, hasKey, made_zero] <;> omega, by simp [boxesR, listsR, csR, renC, keyC, optK, fnd, envR, St.get, keyPV, keyV1, renPV, renV1, hasKey, made_zero] <;> omega, by simp [boxesR, listsR, csR, renC, keyC, optK, fnd, envR, St.get, keyPV, keyV1, renPV, renV1, hasKey, made_zero] <;> omega, by simp [boxesR, listsR, csR, renC, keyC, optK, fnd, envR, St.get, keyPV, keyV1, renPV, renV1, hasKey, made_zero] <;> omega⟩ (by simp [boxesR, listsR, csR, renC, keyC, optK, fnd, envR, St.get, keyPV, keyV1, renPV, renV1, hasKey, made_zero] <;> omega) rfl
  · refine ⟨_, s1, belC (belC (belC c 3) (holesOf b).length) (holesOf b).length, ?_⟩
    refine pc_of Tryz.func126 rfl (by kernel_rfl) _ Tryz.ntmps126 (by simp) ?_
    repeat' first
      | (first | simp -implicitDefEqProofs only [g0, h1, e1, e2, a1, a2, ← v1, em, hj, Int.one_mul, go_sem] | (refine And.intro ?_ ?_; omega) | (refine And.intro (shr_bd ?_ ?_) ?_; omega; omega) | refine sl_list rfl ?_ | refine sd_list rfl ?_ | refine sl_str ?_ | refine sd_str ?_)
      | refine callL1 (fun d => HolesOf_c d b) rfl rfl rfl ?_
      | refine callC (once_c c 3) rfl rfl rfl rfl rfl ?_
      | refine callC (bel_c (belC c 3) _) rfl rfl rfl rfl rfl ?_
      | refine callC (bel_c (belC (belC c 3) _) _) rfl rfl rfl rfl rfl ?_
      | refine draw_stepY Tryz.pl_follows (by kernel_rfl) ?_
    exact fin_of (fun i => i) (fun i => i) ⟨by simp [boxesR, listsR, csR, renC, keyC, optK, fnd, envR, St.get, keyPV, keyV1, renPV, renV1, hasKey, made_zero] <;> omega, by simp [boxesR, listsR, csR, renC, keyC, optK, fnd, envR, St.get, keyPV, keyV1, renPV, renV1, hasKey, made_zero] <;> omega, by simp [boxesR, listsR, csR, renC, keyC, optK, fnd, envR, St.get, keyPV, keyV1, renPV, renV1, hasKey, made_zero] <;> omega, by simp [boxesR, listsR, csR, renC, keyC, optK, fnd, envR, St.get, keyPV, keyV1, renPV, renV1, hasKey, made_zero] <;> omega, by simp [boxesR, listsR, csR, renC, keyC, optK, fnd, envR, St.get, keyPV, keyV1, renPV, renV1, hasKey, made_zero] <;> omega⟩ (by simp [boxesR, listsR, csR, renC, keyC, optK, fnd, envR, St.get, keyPV, keyV1, renPV, renV1, hasKey, made_zero] <;> omega) rfl
end Go.Proofs.YtggejdgohkfmmaaGreat
