/-
  Draws of puzzles and of games.
-/
import Derived.Test.YtenfpjipeeolpaaGreatD6
namespace Go.Proofs.YtenfpjipeeolpaaGreat
open Go.PL
set_option linter.unusedSimpArgs false
theorem l26Puzzle_ex {B : Bs} (c : Cr B) : ∃ x : Pz, puzzleOk x = true ∧ Drw 80 c [] (.s (.a (pzC x))) := by
  obtain ⟨b, p, q, ⟨h1, h2, h3⟩, c1, p1⟩ := l21Start_ex c
  refine ⟨⟨b, p, q⟩, by simp [puzzleOk, h1, h2, h3], c1, ?_⟩
  refine pc_of Tryz.func80 rfl (by kernel_rfl) _ Tryz.ntmps80 (by simp) ?_
  repeat' first
    | (first | simp -implicitDefEqProofs only [go_sem] | (refine And.intro ?_ ?_; omega) | (refine And.intro (shr_bd ?_ ?_) ?_; omega; omega) | refine sl_list rfl ?_ | refine sd_list rfl ?_ | refine sl_str ?_ | refine sd_str ?_)
    | refine callC p1 rfl rfl rfl rfl rfl ?_
  exact fin_of (fun i => i) (fun i => i) ⟨by simp [boxesR, listsR, csR, renC, keyC, optK, fnd, envR, St.get, keyPV, keyV1, renPV, renV1, hasKey, made_zero] <;> omega, by simp [boxesR, listsR, csR, renC, keyC, optK, fnd, envR, St.get, keyPV, keyV1, renPV, renV1, hasKey, made_zero] <;> omega, by simp [boxesR, listsR, csR, renC, keyC, optK, fnd, envR, St.get, keyPV, keyV1, renPV, renV1, hasKey, made_zero] <;> omega, by simp [boxesR, listsR, csR, renC, keyC, optK, fnd, envR, St.get, keyPV, keyV1, renPV, renV1, hasKey, made_zero] <;> omega, by simp [boxesR, listsR, csR, renC, keyC, optK, fnd, envR, St.get, keyPV, keyV1, renPV, renV1, hasKey, made_zero] <;> omega⟩ (by simp [boxesR, listsR, csR, renC, keyC, optK, fnd, envR, St.get, keyPV, keyV1, renPV, renV1, hasKey, made_zero] <;> omega) rfl
/-- what is said of a drawn game -/
structure DrawnG (g : Gm) : Prop where
  ok : gameOk g = true
  len : g.j.length ≤ 49
  h : 0 ≤ g.h ∧ g.h ≤ 2
  u : 0 ≤ g.u ∧ g.u ≤ 2
theorem drawnG {b : Brd} {p q h u r : Int} {ls : List Ln} (hx : puzzleOk ⟨b, p, q⟩ = true) (hp : playF b p ls = some r) (hh : 0 ≤ h ∧ h ≤ 2) (hu : 0 ≤ u ∧ u ≤ 2) : DrawnG ⟨⟨b, p, q⟩, ls, h, u⟩ := by
  have hx' := hx
  simp only [puzzleOk, Bool.and_eq_true] at hx'
  obtain ⟨_, p0, _⟩ := pos_sub hx'.2.1
  have hl := playF_len p0 hp
  have pg : pegs p.toNat ≤ 49 := cardN_le
  have w1 : within h 0 1000 = true := within_iff.2 (by omega)
  have w2 : within u 0 1000 = true := within_iff.2 (by omega)
  have hpl : playAll b p ls = some r := by
    unfold playAll
    rw [if_pos ⟨hx'.2.1, by omega⟩]; exact hp
  exact ⟨by simp [gameOk, hx, w1, w2, hpl], by simp only; omega, hh, hu⟩
set_option maxHeartbeats 16000000 in
theorem l37Game_ex {B : Bs} (c : Cr B) : ∃ g : Gm, DrawnG g ∧ Drw 48 c [] (.s (.a (gmL g))) := by
  obtain ⟨⟨b, p', q'⟩, hx, c1, p1⟩ := l26Puzzle_ex c
  have hx' := hx
  simp only [puzzleOk, Bool.and_eq_true] at hx'
  obtain ⟨hs, hp, hq⟩ := hx'
  obtain ⟨_, p0, _⟩ := pos_sub hp
  obtain ⟨_, q0, _⟩ := pos_sub hq
  have p2 := pos_le hp
  have q2 := pos_le hq
  obtain ⟨p, rfl⟩ : ∃ p : Nat, p' = p := ⟨p'.toNat, by omega⟩
  obtain ⟨q, rfl⟩ : ∃ q : Nat, q' = q := ⟨q'.toNat, by omega⟩
  have b1 := bel_rg c1 (n := 3) (by omega)
  have b2 := bel_rg (belC c1 3) (n := 3) (by omega)
  have b3 := bel_rg (belC (belC c1 3) 3) (n := 8) (by omega)
  obtain ⟨ls, r, hr, hl, c4, p4⟩ := l06Play_ex (belC (belC (belC c1 3) 3) 8) hp (belN (belC (belC c1 3) 3) 8) (by omega)
  by_cases hc : canReach b p q = true
  · obtain ⟨ws, hw, pw⟩ := wayTo_ex b p q hq hc
    by_cases h2 : belN c4 2 = 0
    · have b5 := bel_rg (belC c4 2) (n := (ws.length : Int) + 1) (by omega)
      obtain ⟨k, ek⟩ : ∃ k : Nat, belN (belC c4 2) ((ws.length : Int) + 1) = k := ⟨(belN (belC c4 2) ((ws.length : Int) + 1)).toNat, by omega⟩
      obtain ⟨r', hr'⟩ := playF_take k hw
      have hwl := playF_len p0 hw
      have pg : pegs (p : Int).toNat ≤ 49 := cardN_le
      refine ⟨⟨⟨b, p, q⟩, ws.take k, belN c1 3, belN (belC c1 3) 3⟩, drawnG hx hr' (by omega) (by omega), belC (belC c4 2) ((ws.length : Int) + 1), ?_⟩
      refine pc_of Tryz.func48 rfl (by kernel_rfl) _ Tryz.ntmps48 (by simp) ?_
      repeat' first
        | (first | simp -implicitDefEqProofs only [h2, ek, Int.toNat_natCast, ← List.map_take, go_sem] | (refine And.intro ?_ ?_; omega) | (refine And.intro (shr_bd ?_ ?_) ?_; omega; omega) | refine sl_list rfl ?_ | refine sd_list rfl ?_ | refine sl_str ?_ | refine sd_str ?_)
        | refine callC p1 rfl rfl rfl rfl rfl ?_
        | refine callC (bel_c c1 3) rfl rfl rfl rfl rfl ?_
        | refine callC (bel_c (belC c1 3) 3) rfl rfl rfl rfl rfl ?_
        | refine callC (bel_c (belC (belC c1 3) 3) 8) rfl rfl rfl rfl rfl ?_
        | refine callC p4 rfl rfl rfl rfl rfl ?_
        | refine callV pw rfl rfl rfl ?_
        | refine callC (once_c c4 2) rfl rfl rfl rfl rfl ?_
        | refine callC (bel_c (belC c4 2) _) rfl rfl rfl rfl rfl ?_
        | refine draw_stepY Tryz.pl_follows (by kernel_rfl) ?_
      exact fin_of (fun i => i) (fun i => i) ⟨by simp [boxesR, listsR, csR, renC, keyC, optK, fnd, envR, St.get, keyPV, keyV1, renPV, renV1, hasKey, made_zero] <;> omega, by simp [boxesR, listsR, csR, renC, keyC, optK, fnd, envR, St.get, keyPV, keyV1, renPV, renV1, hasKey, made_zero] <;> omega, by simp [boxesR, listsR, csR, renC, keyC, optK, fnd, envR, St.get, keyPV, keyV1, renPV, renV1, hasKey, made_zero] <;> omega, by simp [boxesR, listsR, csR, renC, keyC, optK, fnd, envR, St.get, keyPV, keyV1, renPV, renV1, hasKey, made_zero] <;> omega, by simp [boxesR, listsR, csR, renC, keyC, optK, fnd, envR, St.get, keyPV, keyV1, renPV, renV1, hasKey, made_zero] <;> omega⟩ (by simp [boxesR, listsR, csR, renC, keyC, optK, fnd, envR, St.get, keyPV, keyV1, renPV, renV1, hasKey, made_zero] <;> omega) rfl
    · refine ⟨⟨⟨b, p, q⟩, ls, belN c1 3, belN (belC c1 3) 3⟩, drawnG hx hr (by omega) (by omega), belC c4 2, ?_⟩
      refine pc_of Tryz.func48 rfl (by kernel_rfl) _ Tryz.ntmps48 (by simp) ?_
      repeat' first
        | (first | simp -implicitDefEqProofs only [h2, go_sem] | (refine And.intro ?_ ?_; omega) | (refine And.intro (shr_bd ?_ ?_) ?_; omega; omega) | refine sl_list rfl ?_ | refine sd_list rfl ?_ | refine sl_str ?_ | refine sd_str ?_)
        | refine callC p1 rfl rfl rfl rfl rfl ?_
        | refine callC (bel_c c1 3) rfl rfl rfl rfl rfl ?_
        | refine callC (bel_c (belC c1 3) 3) rfl rfl rfl rfl rfl ?_
        | refine callC (bel_c (belC (belC c1 3) 3) 8) rfl rfl rfl rfl rfl ?_
        | refine callC p4 rfl rfl rfl rfl rfl ?_
        | refine callV pw rfl rfl rfl ?_
        | refine callC (once_c c4 2) rfl rfl rfl rfl rfl ?_
        | refine draw_stepY Tryz.pl_follows (by kernel_rfl) ?_
      exact fin_of (fun i => i) (fun i => i) ⟨by simp [boxesR, listsR, csR, renC, keyC, optK, fnd, envR, St.get, keyPV, keyV1, renPV, renV1, hasKey, made_zero] <;> omega, by simp [boxesR, listsR, csR, renC, keyC, optK, fnd, envR, St.get, keyPV, keyV1, renPV, renV1, hasKey, made_zero] <;> omega, by simp [boxesR, listsR, csR, renC, keyC, optK, fnd, envR, St.get, keyPV, keyV1, renPV, renV1, hasKey, made_zero] <;> omega, by simp [boxesR, listsR, csR, renC, keyC, optK, fnd, envR, St.get, keyPV, keyV1, renPV, renV1, hasKey, made_zero] <;> omega, by simp [boxesR, listsR, csR, renC, keyC, optK, fnd, envR, St.get, keyPV, keyV1, renPV, renV1, hasKey, made_zero] <;> omega⟩ (by simp [boxesR, listsR, csR, renC, keyC, optK, fnd, envR, St.get, keyPV, keyV1, renPV, renV1, hasKey, made_zero] <;> omega) rfl
  · have hc' : canReach b p q = false := by simpa using hc
    refine ⟨⟨⟨b, p, q⟩, ls, belN c1 3, belN (belC c1 3) 3⟩, drawnG hx hr (by omega) (by omega), c4, ?_⟩
    refine pc_of Tryz.func48 rfl (by kernel_rfl) _ Tryz.ntmps48 (by simp) ?_
    repeat' first
      | (first | simp -implicitDefEqProofs only [go_sem] | (refine And.intro ?_ ?_; omega) | (refine And.intro (shr_bd ?_ ?_) ?_; omega; omega) | refine sl_list rfl ?_ | refine sd_list rfl ?_ | refine sl_str ?_ | refine sd_str ?_)
      | refine callC p1 rfl rfl rfl rfl rfl ?_
      | refine callC (bel_c c1 3) rfl rfl rfl rfl rfl ?_
      | refine callC (bel_c (belC c1 3) 3) rfl rfl rfl rfl rfl ?_
      | refine callC (bel_c (belC (belC c1 3) 3) 8) rfl rfl rfl rfl rfl ?_
      | refine callC p4 rfl rfl rfl rfl rfl ?_
      | refine callV (wayTo_no b p q (by omega) (by omega) hc') rfl rfl rfl ?_
      | refine draw_stepY Tryz.pl_follows (by kernel_rfl) ?_
    exact fin_of (fun i => i) (fun i => i) ⟨by simp [boxesR, listsR, csR, renC, keyC, optK, fnd, envR, St.get, keyPV, keyV1, renPV, renV1, hasKey, made_zero] <;> omega, by simp [boxesR, listsR, csR, renC, keyC, optK, fnd, envR, St.get, keyPV, keyV1, renPV, renV1, hasKey, made_zero] <;> omega, by simp [boxesR, listsR, csR, renC, keyC, optK, fnd, envR, St.get, keyPV, keyV1, renPV, renV1, hasKey, made_zero] <;> omega, by simp [boxesR, listsR, csR, renC, keyC, optK, fnd, envR, St.get, keyPV, keyV1, renPV, renV1, hasKey, made_zero] <;> omega, by simp [boxesR, listsR, csR, renC, keyC, optK, fnd, envR, St.get, keyPV, keyV1, renPV, renV1, hasKey, made_zero] <;> omega⟩ (by simp [boxesR, listsR, csR, renC, keyC, optK, fnd, envR, St.get, keyPV, keyV1, renPV, renV1, hasKey, made_zero] <;> omega) rfl
end Go.Proofs.YtenfpjipeeolpaaGreat
