/-
  Draws of boards and positions.
  Draws of positions.
-/
import Derived.Test.YtahnbliabllflaaD1
import Derived.Test.YtahnbliabllflaaP2
import Derived.Test.YtahnbliabllflaaU1
namespace Go.Proofs.Ytahnbliabllflaa
open Go.PL
set_option linter.unusedSimpArgs false
def rect (w h : Int) : Brd := ⟨w, h, 2 ^ (w * h).toNat - 1⟩
theorem rect_ok {w h : Int} (h1 : 1 ≤ w) (h2 : w ≤ 7) (h3 : 1 ≤ h) (h4 : h ≤ 7) : boardOk (rect w h) = true := by
  have m := mul_bd h1 h2 h3 h4
  have p := pow_bd (m := w * h - 1) (by omega) (by omega)
  have e : (2 : Int) ^ (w * h).toNat = 2 ^ (w * h - 1).toNat * 2 := by
    have : (w * h).toNat = (w * h - 1).toNat + 1 := by omega
    rw [this, Int.pow_succ]
  simp only [boardOk, sideOk, rect, Bool.and_eq_true, within_iff]
  omega
theorem rect_small {w h : Int} (h1 : 1 ≤ w) (h2 : w ≤ 7) (h3 : 1 ≤ h) (h4 : h ≤ 7) (h5 : w * h ≤ 16) : isSmall (rect w h) = true := by
  have e : (rect w h).w * (rect w h).h = w * h := rfl
  simp only [isSmall, rect_ok h1 h2 h3 h4, e, Bool.true_and, decide_eq_true_eq]
  exact h5
theorem Rect_c {w h : Int} (h1 : 1 ≤ w) (h2 : w ≤ 7) (h3 : 1 ≤ h) (h4 : h ≤ 7) : PC Try.prog 31 [] [.c (.v (.int .i64 w)), .c (.v (.int .i64 h))] (.s (.a (brdC (rect w h)))) ⟨[], []⟩ := by
  have m := mul_bd h1 h2 h3 h4
  have p := pow_bd (m := w * h) (by omega) m.2
  have e1 : within w 1 7 = true := within_iff.2 ⟨h1, h2⟩
  have e2 : within h 1 7 = true := within_iff.2 ⟨h3, h4⟩
  refine pc_of Try.func31 rfl (by kernel_rfl) _ Try.ntmps31 (by simp) ?_
  repeat' first
    | (first | simp -implicitDefEqProofs only [e1, e2, Int.one_mul, go_sem] | (refine And.intro ?_ ?_; omega) | (refine And.intro (shr_bd ?_ ?_) ?_; omega; omega) | refine sl_list rfl ?_ | refine sd_list rfl ?_ | refine sl_str ?_ | refine sd_str ?_)
    | refine callS (l01In_c _ _ _) rfl rfl rfl ?_
  exact fin_scal rfl rfl
theorem dCount_c (b : Brd) : PC Try.prog 30 [] [.a (brdC b)] (vN ((holesOf b).length)) ⟨[], []⟩ := by
  refine pc_of Try.func30 rfl (by kernel_rfl) _ Try.ntmps30 (by simp) ?_
  repeat' first
    | (first | simp -implicitDefEqProofs only [go_sem] | (refine And.intro ?_ ?_; omega) | (refine And.intro (shr_bd ?_ ?_) ?_; omega; omega) | refine sl_list rfl ?_ | refine sd_list rfl ?_ | refine sl_str ?_ | refine sd_str ?_)
    | refine callL1 (fun d => HolesOf_c d b) rfl rfl rfl ?_
  exact fin_scal rfl rfl
theorem one_bit {j : Nat} : ∀ m, (bitsN ((2 ^ j : Nat) : Int) m).length ≤ 1 ∧ (m ≤ j → bitsN ((2 ^ j : Nat) : Int) m = [])
  | 0 => ⟨by simp [bitsN_zero], fun _ => bitsN_zero⟩
  | m + 1 => by
    have ih := one_bit (j := j) m
    have hb : bitAt ((2 ^ j : Nat) : Int) (m : Int) = decide (j = m) := by rw [bitAt_nat, Nat.testBit_two_pow]
    by_cases e : j = m
    · have hb' : bitAt ((2 ^ j : Nat) : Int) (m : Int) = true := by rw [hb]; simpa using e
      rw [bitsN_hit hb', ih.2 (by omega)]
      exact ⟨by simp, fun h => by omega⟩
    · have hb' : bitAt ((2 ^ j : Nat) : Int) (m : Int) = false := by rw [hb]; simpa using e
      rw [bitsN_miss hb']
      exact ⟨ih.1, fun h => ih.2 (by omega)⟩
theorem drop_ok {w h n j : Int} (hb : boardOk ⟨w, h, n⟩ = true) (h5 : 1 < (holesOf ⟨w, h, n⟩).length) (h0 : 0 ≤ j) (hj : bitAt n j = true) : boardOk ⟨w, h, n - 2 ^ j.toNat⟩ = true := by
  obtain ⟨w1, w2, h1, h2, m1, m2, n1, n2, n3⟩ := bok hb
  simp only at *
  rw [bitAt_toNat (by omega) h0] at hj
  have hge : 2 ^ j.toNat ≤ n.toNat := by
    apply Classical.byContradiction
    intro hc
    have := bit_lt (n := j.toNat) (by omega) hj
    omega
  have ep : ((2 ^ j.toNat : Nat) : Int) = (2 : Int) ^ j.toNat := by simp
  have p0 : 0 < 2 ^ j.toNat := Nat.pow_pos (by omega)
  have hne : n ≠ 2 ^ j.toNat := fun e => by
    have := (one_bit (j := j.toNat) (w * h).toNat).1
    have e2 : holesOf ⟨w, h, n⟩ = bitsN n (w * h).toNat := by simp [holesOf, hb]
    rw [e2, e, ← ep] at h5
    omega
  simp only [boardOk, sideOk, Bool.and_eq_true, within_iff]
  omega
/-- the holes taken from a board in a loop of k rounds -/
noncomputable def holeL {B : Bs} (w h : Int) : Nat → Int → Cr B → Int × Cr B
  | 0, n, c => (n, c)
  | k + 1, n, c => if 5 < (holesOf ⟨w, h, n⟩).length then holeL w h k (if bitAt n (belN c (w * h)) = true then n - 2 ^ (belN c (w * h)).toNat else n) (belC c (w * h)) else (n, c)
theorem holeL_step {B : Bs} {w h n : Int} {c : Cr B} (hb : boardOk ⟨w, h, n⟩ = true) (h5 : 5 < (holesOf ⟨w, h, n⟩).length) : boardOk ⟨w, h, if bitAt n (belN c (w * h)) = true then n - 2 ^ (belN c (w * h)).toNat else n⟩ = true := by
  split
  · rename_i hj
    have m1 : 1 ≤ w * h := (bok hb).m1
    exact drop_ok hb (by omega) (bel_rg c (by omega)).1 hj
  · exact hb
theorem holeL_ok {B : Bs} {w h : Int} : ∀ (k : Nat) (n : Int) (c : Cr B), boardOk ⟨w, h, n⟩ = true → boardOk ⟨w, h, (holeL w h k n c).1⟩ = true
  | 0, _, _, hb => hb
  | k + 1, n, c, hb => by
    simp only [holeL]
    split
    · rename_i h5
      exact holeL_ok k _ _ (holeL_step hb h5)
    · exact hb
/-- a draw that hands back a result -/
def Drw {B : Bs} (f : Nat) (c : Cr B) (args : List V1) (r : PV) : Prop := ∃ c' : Cr B, PC Try.prog f [(9000, crC c)] (.c (.p 9000 0) :: args) r ⟨[(9000, crC c')], []⟩
set_option maxHeartbeats 4000000 in
theorem l02Small_ex {B : Bs} (c : Cr B) : ∃ b : Brd, isSmall b = true ∧ Drw 48 c [] (.s (.a (brdC b))) := by
  have b1 := bel_rg c (n := 5) (by omega)
  have hm : 1 ≤ min (4 : Int) (16 / (1 + belN c 5)) := by
    have : 1 ≤ 16 / (1 + belN c 5) := by
      rw [Int.le_ediv_iff_mul_le (by omega)]; omega
    omega
  have b2 := bel_rg (belC c 5) (n := min (4 : Int) (16 / (1 + belN c 5))) (by omega)
  obtain ⟨w, ew⟩ : ∃ w, w = 1 + belN c 5 := ⟨_, rfl⟩
  rw [← ew] at hm b2
  obtain ⟨m, em⟩ : ∃ m, m = min (4 : Int) (16 / w) := ⟨_, rfl⟩
  rw [← em] at hm b2
  obtain ⟨h0, eh⟩ : ∃ h, h = 1 + belN (belC c 5) m := ⟨_, rfl⟩
  obtain ⟨h, eh'⟩ : ∃ h, h = if w < 3 ∧ h0 < 3 then 3 else h0 := ⟨_, rfl⟩
  have hb0 : 1 ≤ h0 ∧ h0 ≤ 4 ∧ w * h0 ≤ 16 := by
    have hw : w = 1 ∨ w = 2 ∨ w = 3 ∨ w = 4 ∨ w = 5 := by omega
    rcases hw with e | e | e | e | e <;> (rw [e] at em ⊢; omega)
  have hb1 : 1 ≤ h ∧ h ≤ 4 ∧ w * h ≤ 16 := by
    rw [eh']
    split
    · rename_i hc
      have hw : w = 1 ∨ w = 2 := by omega
      rcases hw with e | e <;> (rw [e]; omega)
    · exact hb0
  have hr := rect_ok (w := w) (h := h) (by omega) (by omega) (by omega) (by omega)
  have hmb := mul_bd (w := w) (h := h) (by omega) (by omega) (by omega) (by omega)
  obtain ⟨c3, e3⟩ : ∃ c3, c3 = belC (belC (belC c 5) m) 3 := ⟨_, rfl⟩
  have b3 := bel_rg (belC (belC c 5) m) (n := 3) (by omega)
  obtain ⟨k0, ek⟩ : ∃ k0 : Nat, (k0 : Int) = belN (belC (belC c 5) m) 3 := ⟨(belN (belC (belC c 5) m) 3).toNat, by omega⟩
  obtain ⟨F, eF⟩ : ∃ F, F = holeL w h k0 (rect w h).n c3 := ⟨_, rfl⟩
  have hF : boardOk ⟨w, h, F.1⟩ = true := by rw [eF]; exact holeL_ok _ _ _ hr
  refine ⟨⟨w, h, F.1⟩, by simp [isSmall, hF]; exact hb1.2.2, F.2, ?_⟩
  refine pc_of Try.func48 rfl (by kernel_rfl) _ Try.ntmps48 (by simp) ?_
  by_cases q1 : w < 3
  · by_cases q2 : h0 < 3
    · obtain rfl : h = 3 := by rw [eh', if_pos ⟨q1, q2⟩]
      repeat' first
        | (first | simp -implicitDefEqProofs only [← ew, q1, q2, go_sem] | (refine And.intro ?_ ?_; omega) | (refine And.intro (shr_bd ?_ ?_) ?_; omega; omega) | refine sl_list rfl ?_ | refine sd_list rfl ?_ | refine sl_str ?_ | refine sd_str ?_)
        | refine callC (bel_c c 5) rfl rfl rfl rfl rfl ?_
        | refine callC (bel_c (belC c 5) _) rfl rfl rfl rfl rfl ?_
        | (first | simp -implicitDefEqProofs only [← ew, ← em, ← eh, q1, q2, go_sem] | (refine And.intro ?_ ?_; omega) | (refine And.intro (shr_bd ?_ ?_) ?_; omega; omega) | refine sl_list rfl ?_ | refine sd_list rfl ?_ | refine sl_str ?_ | refine sd_str ?_)
        | refine callS (Rect_c (w := w) (h := 3) (by omega) (by omega) (by omega) (by omega)) rfl rfl rfl ?_
        | refine callC (bel_c (belC (belC c 5) m) 3) rfl rfl rfl rfl rfl ?_
      refine loop_step (X := Nat × Int × Cr B) (fun x => ⟨55, [(0, .s (.c (.p 9000 0))), (3, vN w), (4, vN 3), (5, .s (.c (.p 5 0))), (6, vN x.1), (2, .s (.c (.p 2 0)))], ⟨[(9000, crC x.2.2), (5, brdC ⟨w, 3, x.2.1⟩), (2, [.v (.int .i64 0), .v (.int .i64 0), .v (.int .i64 0)])], []⟩⟩)
        (fun x => boardOk ⟨w, 3, x.2.1⟩ = true ∧ x.1 ≤ 2 ∧ holeL w 3 x.1 x.2.1 x.2.2 = F) (fun x => x.1) (k0, (rect w 3).n, c3) ⟨hr, by simp only; omega, eF.symm⟩ (weak_of (fun i => i) (fun i => i) rfl ⟨by simp [ek, e3, rect] <;> omega, by simp [ek, e3, rect] <;> omega, by simp [ek, e3, rect] <;> omega, by simp [ek, e3, rect] <;> omega, by simp [ek, e3, rect] <;> omega⟩ (by simp [ek, e3, rect] <;> omega)) (fun x hx => ?_)
      obtain ⟨k, n, d⟩ := x
      obtain ⟨hx1, hx2, hx3⟩ := hx
      have n1 := (bok hx1).n1
      have n3 := (bok hx1).n3
      simp only at n1 n3 hx2 hx3
      cases k with
      | zero =>
        simp only [holeL] at hx3
        (repeat' (first | simp -implicitDefEqProofs only [go_sem] | (refine And.intro ?_ ?_; omega) | (refine And.intro (shr_bd ?_ ?_) ?_; omega; omega) | refine sl_list rfl ?_ | refine sd_list rfl ?_ | refine sl_str ?_ | refine sd_str ?_))
        subst hx3
        exact fin_of (fun i => i) (fun i => i) ⟨by simp <;> omega, by simp <;> omega, by simp <;> omega, by simp <;> omega, by simp <;> omega⟩ (by simp <;> omega) rfl
      | succ k =>
        have g1 : (0 : Int) < ((k + 1 : Nat) : Int) := by omega
        by_cases h5 : 5 < (holesOf ⟨w, 3, n⟩).length
        · have g5 : (5 : Int) < ((holesOf ⟨w, 3, n⟩).length : Int) := by omega
          have hs := holeL_step (c := d) hx1 h5
          simp only [holeL, if_pos h5] at hx3
          have bj := bel_rg d (n := w * 3) (by omega)
          have ej : ((belN d (w * 3)).toNat : Int) = belN d (w * 3) := Int.toNat_of_nonneg bj.1
          have pj := pow_bd (m := belN d (w * 3)) (by omega) (by omega)
          by_cases hj : bitAt n (belN d (w * 3)) = true
          · rw [if_pos hj] at hs hx3
            have n5 : 1 ≤ n - 2 ^ (belN d (w * 3)).toNat := (bok hs).n1
            repeat' first
              | (first | simp -implicitDefEqProofs only [g1, g5, ej, hj, Int.one_mul, go_sem] | (refine And.intro ?_ ?_; omega) | (refine And.intro (shr_bd ?_ ?_) ?_; omega; omega) | refine sl_list rfl ?_ | refine sd_list rfl ?_ | refine sl_str ?_ | refine sd_str ?_)
              | refine callS (dCount_c ⟨w, 3, n⟩) rfl rfl rfl ?_
              | refine callC (bel_c d (w * 3)) rfl rfl rfl rfl rfl ?_
              | refine draw_stepO Try.pl_follows (by kernel_rfl) ?_
              | refine draw_stepY Try.pl_follows (by kernel_rfl) ?_
            exact ⟨(k, n - 2 ^ (belN d (w * 3)).toNat, belC d (w * 3)), ⟨hs, by simp only; omega, hx3⟩, by simp only; omega, weak_of (fun i => i) (fun i => i) rfl ⟨by simp <;> omega, by simp <;> omega, by simp <;> omega, by simp <;> omega, by simp <;> omega⟩ (by simp <;> omega)⟩
          · rw [if_neg hj] at hs hx3
            repeat' first
              | (first | simp -implicitDefEqProofs only [g1, g5, ej, hj, go_sem] | (refine And.intro ?_ ?_; omega) | (refine And.intro (shr_bd ?_ ?_) ?_; omega; omega) | refine sl_list rfl ?_ | refine sd_list rfl ?_ | refine sl_str ?_ | refine sd_str ?_)
              | refine callS (dCount_c ⟨w, 3, n⟩) rfl rfl rfl ?_
              | refine callC (bel_c d (w * 3)) rfl rfl rfl rfl rfl ?_
            exact ⟨(k, n, belC d (w * 3)), ⟨hs, by simp only; omega, hx3⟩, by simp only; omega, weak_of (fun i => i) (fun i => i) rfl ⟨by simp <;> omega, by simp <;> omega, by simp <;> omega, by simp <;> omega, by simp <;> omega⟩ (by simp <;> omega)⟩
        · have g5 : ¬ (5 : Int) < ((holesOf ⟨w, 3, n⟩).length : Int) := by omega
          simp only [holeL, if_neg h5] at hx3
          repeat' first
            | (first | simp -implicitDefEqProofs only [g1, g5, go_sem] | (refine And.intro ?_ ?_; omega) | (refine And.intro (shr_bd ?_ ?_) ?_; omega; omega) | refine sl_list rfl ?_ | refine sd_list rfl ?_ | refine sl_str ?_ | refine sd_str ?_)
            | refine callS (dCount_c ⟨w, 3, n⟩) rfl rfl rfl ?_
          subst hx3
          exact fin_of (fun i => i) (fun i => i) ⟨by simp <;> omega, by simp <;> omega, by simp <;> omega, by simp <;> omega, by simp <;> omega⟩ (by simp <;> omega) rfl
    · obtain rfl : h = h0 := by rw [eh', if_neg (fun hc => q2 hc.2)]
      repeat' first
        | (first | simp -implicitDefEqProofs only [← ew, q1, q2, go_sem] | (refine And.intro ?_ ?_; omega) | (refine And.intro (shr_bd ?_ ?_) ?_; omega; omega) | refine sl_list rfl ?_ | refine sd_list rfl ?_ | refine sl_str ?_ | refine sd_str ?_)
        | refine callC (bel_c c 5) rfl rfl rfl rfl rfl ?_
        | refine callC (bel_c (belC c 5) _) rfl rfl rfl rfl rfl ?_
        | (first | simp -implicitDefEqProofs only [← ew, ← em, ← eh, q1, q2, go_sem] | (refine And.intro ?_ ?_; omega) | (refine And.intro (shr_bd ?_ ?_) ?_; omega; omega) | refine sl_list rfl ?_ | refine sd_list rfl ?_ | refine sl_str ?_ | refine sd_str ?_)
        | refine callS (Rect_c (w := w) (h := h) (by omega) (by omega) (by omega) (by omega)) rfl rfl rfl ?_
        | refine callC (bel_c (belC (belC c 5) m) 3) rfl rfl rfl rfl rfl ?_
      refine loop_step (X := Nat × Int × Cr B) (fun x => ⟨55, [(0, .s (.c (.p 9000 0))), (3, vN w), (4, vN h), (5, .s (.c (.p 5 0))), (6, vN x.1), (2, .s (.c (.p 2 0)))], ⟨[(9000, crC x.2.2), (5, brdC ⟨w, h, x.2.1⟩), (2, [.v (.int .i64 0), .v (.int .i64 0), .v (.int .i64 0)])], []⟩⟩)
        (fun x => boardOk ⟨w, h, x.2.1⟩ = true ∧ x.1 ≤ 2 ∧ holeL w h x.1 x.2.1 x.2.2 = F) (fun x => x.1) (k0, (rect w h).n, c3) ⟨hr, by simp only; omega, eF.symm⟩ (weak_of (fun i => i) (fun i => i) rfl ⟨by simp [ek, e3, rect] <;> omega, by simp [ek, e3, rect] <;> omega, by simp [ek, e3, rect] <;> omega, by simp [ek, e3, rect] <;> omega, by simp [ek, e3, rect] <;> omega⟩ (by simp [ek, e3, rect] <;> omega)) (fun x hx => ?_)
      obtain ⟨k, n, d⟩ := x
      obtain ⟨hx1, hx2, hx3⟩ := hx
      have n1 := (bok hx1).n1
      have n3 := (bok hx1).n3
      simp only at n1 n3 hx2 hx3
      cases k with
      | zero =>
        simp only [holeL] at hx3
        (repeat' (first | simp -implicitDefEqProofs only [go_sem] | (refine And.intro ?_ ?_; omega) | (refine And.intro (shr_bd ?_ ?_) ?_; omega; omega) | refine sl_list rfl ?_ | refine sd_list rfl ?_ | refine sl_str ?_ | refine sd_str ?_))
        subst hx3
        exact fin_of (fun i => i) (fun i => i) ⟨by simp <;> omega, by simp <;> omega, by simp <;> omega, by simp <;> omega, by simp <;> omega⟩ (by simp <;> omega) rfl
      | succ k =>
        have g1 : (0 : Int) < ((k + 1 : Nat) : Int) := by omega
        by_cases h5 : 5 < (holesOf ⟨w, h, n⟩).length
        · have g5 : (5 : Int) < ((holesOf ⟨w, h, n⟩).length : Int) := by omega
          have hs := holeL_step (c := d) hx1 h5
          simp only [holeL, if_pos h5] at hx3
          have bj := bel_rg d (n := w * h) (by omega)
          have ej : ((belN d (w * h)).toNat : Int) = belN d (w * h) := Int.toNat_of_nonneg bj.1
          have pj := pow_bd (m := belN d (w * h)) (by omega) (by omega)
          by_cases hj : bitAt n (belN d (w * h)) = true
          · rw [if_pos hj] at hs hx3
            have n5 : 1 ≤ n - 2 ^ (belN d (w * h)).toNat := (bok hs).n1
            repeat' first
              | (first | simp -implicitDefEqProofs only [g1, g5, ej, hj, Int.one_mul, go_sem] | (refine And.intro ?_ ?_; omega) | (refine And.intro (shr_bd ?_ ?_) ?_; omega; omega) | refine sl_list rfl ?_ | refine sd_list rfl ?_ | refine sl_str ?_ | refine sd_str ?_)
              | refine callS (dCount_c ⟨w, h, n⟩) rfl rfl rfl ?_
              | refine callC (bel_c d (w * h)) rfl rfl rfl rfl rfl ?_
              | refine draw_stepO Try.pl_follows (by kernel_rfl) ?_
              | refine draw_stepY Try.pl_follows (by kernel_rfl) ?_
            exact ⟨(k, n - 2 ^ (belN d (w * h)).toNat, belC d (w * h)), ⟨hs, by simp only; omega, hx3⟩, by simp only; omega, weak_of (fun i => i) (fun i => i) rfl ⟨by simp <;> omega, by simp <;> omega, by simp <;> omega, by simp <;> omega, by simp <;> omega⟩ (by simp <;> omega)⟩
          · rw [if_neg hj] at hs hx3
            repeat' first
              | (first | simp -implicitDefEqProofs only [g1, g5, ej, hj, go_sem] | (refine And.intro ?_ ?_; omega) | (refine And.intro (shr_bd ?_ ?_) ?_; omega; omega) | refine sl_list rfl ?_ | refine sd_list rfl ?_ | refine sl_str ?_ | refine sd_str ?_)
              | refine callS (dCount_c ⟨w, h, n⟩) rfl rfl rfl ?_
              | refine callC (bel_c d (w * h)) rfl rfl rfl rfl rfl ?_
            exact ⟨(k, n, belC d (w * h)), ⟨hs, by simp only; omega, hx3⟩, by simp only; omega, weak_of (fun i => i) (fun i => i) rfl ⟨by simp <;> omega, by simp <;> omega, by simp <;> omega, by simp <;> omega, by simp <;> omega⟩ (by simp <;> omega)⟩
        · have g5 : ¬ (5 : Int) < ((holesOf ⟨w, h, n⟩).length : Int) := by omega
          simp only [holeL, if_neg h5] at hx3
          repeat' first
            | (first | simp -implicitDefEqProofs only [g1, g5, go_sem] | (refine And.intro ?_ ?_; omega) | (refine And.intro (shr_bd ?_ ?_) ?_; omega; omega) | refine sl_list rfl ?_ | refine sd_list rfl ?_ | refine sl_str ?_ | refine sd_str ?_)
            | refine callS (dCount_c ⟨w, h, n⟩) rfl rfl rfl ?_
          subst hx3
          exact fin_of (fun i => i) (fun i => i) ⟨by simp <;> omega, by simp <;> omega, by simp <;> omega, by simp <;> omega, by simp <;> omega⟩ (by simp <;> omega) rfl
  · obtain rfl : h = h0 := by rw [eh', if_neg (fun hc => q1 hc.1)]
    repeat' first
      | (first | simp -implicitDefEqProofs only [← ew, q1, go_sem] | (refine And.intro ?_ ?_; omega) | (refine And.intro (shr_bd ?_ ?_) ?_; omega; omega) | refine sl_list rfl ?_ | refine sd_list rfl ?_ | refine sl_str ?_ | refine sd_str ?_)
      | refine callC (bel_c c 5) rfl rfl rfl rfl rfl ?_
      | refine callC (bel_c (belC c 5) _) rfl rfl rfl rfl rfl ?_
      | (first | simp -implicitDefEqProofs only [← ew, ← em, ← eh, q1, go_sem] | (refine And.intro ?_ ?_; omega) | (refine And.intro (shr_bd ?_ ?_) ?_; omega; omega) | refine sl_list rfl ?_ | refine sd_list rfl ?_ | refine sl_str ?_ | refine sd_str ?_)
      | refine callS (Rect_c (w := w) (h := h) (by omega) (by omega) (by omega) (by omega)) rfl rfl rfl ?_
      | refine callC (bel_c (belC (belC c 5) m) 3) rfl rfl rfl rfl rfl ?_
    refine loop_step (X := Nat × Int × Cr B) (fun x => ⟨55, [(0, .s (.c (.p 9000 0))), (3, vN w), (4, vN h), (5, .s (.c (.p 5 0))), (6, vN x.1), (2, .s (.c (.p 2 0)))], ⟨[(9000, crC x.2.2), (5, brdC ⟨w, h, x.2.1⟩), (2, [.v (.int .i64 0), .v (.int .i64 0), .v (.int .i64 0)])], []⟩⟩)
      (fun x => boardOk ⟨w, h, x.2.1⟩ = true ∧ x.1 ≤ 2 ∧ holeL w h x.1 x.2.1 x.2.2 = F) (fun x => x.1) (k0, (rect w h).n, c3) ⟨hr, by simp only; omega, eF.symm⟩ (weak_of (fun i => i) (fun i => i) rfl ⟨by simp [ek, e3, rect] <;> omega, by simp [ek, e3, rect] <;> omega, by simp [ek, e3, rect] <;> omega, by simp [ek, e3, rect] <;> omega, by simp [ek, e3, rect] <;> omega⟩ (by simp [ek, e3, rect] <;> omega)) (fun x hx => ?_)
    obtain ⟨k, n, d⟩ := x
    obtain ⟨hx1, hx2, hx3⟩ := hx
    have n1 := (bok hx1).n1
    have n3 := (bok hx1).n3
    simp only at n1 n3 hx2 hx3
    cases k with
    | zero =>
      simp only [holeL] at hx3
      (repeat' (first | simp -implicitDefEqProofs only [go_sem] | (refine And.intro ?_ ?_; omega) | (refine And.intro (shr_bd ?_ ?_) ?_; omega; omega) | refine sl_list rfl ?_ | refine sd_list rfl ?_ | refine sl_str ?_ | refine sd_str ?_))
      subst hx3
      exact fin_of (fun i => i) (fun i => i) ⟨by simp <;> omega, by simp <;> omega, by simp <;> omega, by simp <;> omega, by simp <;> omega⟩ (by simp <;> omega) rfl
    | succ k =>
      have g1 : (0 : Int) < ((k + 1 : Nat) : Int) := by omega
      by_cases h5 : 5 < (holesOf ⟨w, h, n⟩).length
      · have g5 : (5 : Int) < ((holesOf ⟨w, h, n⟩).length : Int) := by omega
        have hs := holeL_step (c := d) hx1 h5
        simp only [holeL, if_pos h5] at hx3
        have bj := bel_rg d (n := w * h) (by omega)
        have ej : ((belN d (w * h)).toNat : Int) = belN d (w * h) := Int.toNat_of_nonneg bj.1
        have pj := pow_bd (m := belN d (w * h)) (by omega) (by omega)
        by_cases hj : bitAt n (belN d (w * h)) = true
        · rw [if_pos hj] at hs hx3
          have n5 : 1 ≤ n - 2 ^ (belN d (w * h)).toNat := (bok hs).n1
          repeat' first
            | (first | simp -implicitDefEqProofs only [g1, g5, ej, hj, Int.one_mul, go_sem] | (refine And.intro ?_ ?_; omega) | (refine And.intro (shr_bd ?_ ?_) ?_; omega; omega) | refine sl_list rfl ?_ | refine sd_list rfl ?_ | refine sl_str ?_ | refine sd_str ?_)
            | refine callS (dCount_c ⟨w, h, n⟩) rfl rfl rfl ?_
            | refine callC (bel_c d (w * h)) rfl rfl rfl rfl rfl ?_
            | refine draw_stepO Try.pl_follows (by kernel_rfl) ?_
            | refine draw_stepY Try.pl_follows (by kernel_rfl) ?_
          exact ⟨(k, n - 2 ^ (belN d (w * h)).toNat, belC d (w * h)), ⟨hs, by simp only; omega, hx3⟩, by simp only; omega, weak_of (fun i => i) (fun i => i) rfl ⟨by simp <;> omega, by simp <;> omega, by simp <;> omega, by simp <;> omega, by simp <;> omega⟩ (by simp <;> omega)⟩
        · rw [if_neg hj] at hs hx3
          repeat' first
            | (first | simp -implicitDefEqProofs only [g1, g5, ej, hj, go_sem] | (refine And.intro ?_ ?_; omega) | (refine And.intro (shr_bd ?_ ?_) ?_; omega; omega) | refine sl_list rfl ?_ | refine sd_list rfl ?_ | refine sl_str ?_ | refine sd_str ?_)
            | refine callS (dCount_c ⟨w, h, n⟩) rfl rfl rfl ?_
            | refine callC (bel_c d (w * h)) rfl rfl rfl rfl rfl ?_
          exact ⟨(k, n, belC d (w * h)), ⟨hs, by simp only; omega, hx3⟩, by simp only; omega, weak_of (fun i => i) (fun i => i) rfl ⟨by simp <;> omega, by simp <;> omega, by simp <;> omega, by simp <;> omega, by simp <;> omega⟩ (by simp <;> omega)⟩
      · have g5 : ¬ (5 : Int) < ((holesOf ⟨w, h, n⟩).length : Int) := by omega
        simp only [holeL, if_neg h5] at hx3
        repeat' first
          | (first | simp -implicitDefEqProofs only [g1, g5, go_sem] | (refine And.intro ?_ ?_; omega) | (refine And.intro (shr_bd ?_ ?_) ?_; omega; omega) | refine sl_list rfl ?_ | refine sd_list rfl ?_ | refine sl_str ?_ | refine sd_str ?_)
          | refine callS (dCount_c ⟨w, h, n⟩) rfl rfl rfl ?_
        subst hx3
        exact fin_of (fun i => i) (fun i => i) ⟨by simp <;> omega, by simp <;> omega, by simp <;> omega, by simp <;> omega, by simp <;> omega⟩ (by simp <;> omega) rfl
end Go.Proofs.Ytahnbliabllflaa
namespace Go.Proofs.Ytahnbliabllflaa
open Go.PL
set_option linter.unusedSimpArgs false
theorem hole_tb {b : Brd} {k : Int} (h : k ∈ holesOf b) : b.n.toNat.testBit k.toNat = true ∧ 0 ≤ k ∧ k ≤ 48 := by
  obtain ⟨hb, h1, h2, h3⟩ := mem_holes h
  have n1 := (bok hb).n1
  simp only [hasHole, Bool.and_eq_true] at h1
  rw [← bitAt_toNat (by omega) h2]
  exact ⟨h1.2, h2, h3⟩
theorem sub_le {b : Brd} (hb : boardOk b = true) {q : Nat} (h : Sub b q) : q ≤ 562949953421311 := by
  have n3 := (bok hb).n3
  have h2 : q &&& b.n.toNat ≤ b.n.toNat := Nat.and_le_right
  rw [sub_and h] at h2
  omega
theorem sub_or {b : Brd} {q : Nat} (h : Sub b q) {k : Int} (hk : k ∈ holesOf b) : Sub b (q ||| 2 ^ k.toNat) := fun j hj => by
  rw [Nat.testBit_or, Bool.or_eq_true, Nat.testBit_two_pow] at hj
  rcases hj with hj | hj
  · exact h j hj
  · simp only [decide_eq_true_eq] at hj
    subst hj
    exact (hole_tb hk).1
theorem sub_drop {b : Brd} {q : Nat} (h : Sub b q) (k : Nat) : Sub b (ndiff q (2 ^ k)) := fun j hj => by
  rw [tb_ndiff, Bool.and_eq_true] at hj
  exact h j hj.1
/-- the pegs drawn over the first i holes -/
noncomputable def someS {B : Bs} (hs : List Int) (c : Cr B) : Nat → Nat × Cr B
  | 0 => (0, c)
  | i + 1 => (if 0 < belN (someS hs c i).2 3 then (someS hs c i).1 ||| 2 ^ (hs[i]?.getD 0).toNat else (someS hs c i).1, belC (someS hs c i).2 3)
theorem someS_sub {B : Bs} {b : Brd} {c : Cr B} : ∀ i, i ≤ (holesOf b).length → Sub b (someS (holesOf b) c i).1
  | 0, _ => fun j hj => by simp [someS] at hj
  | i + 1, h => by
    have ih := someS_sub (b := b) (c := c) i (by omega)
    simp only [someS]
    split
    · rw [List.getElem?_eq_getElem (by omega)]
      exact sub_or ih (List.getElem_mem _)
    · exact ih
set_option maxHeartbeats 4000000 in
theorem l04Some_ex {B : Bs} (c : Cr B) {b : Brd} (hb : boardOk b = true) : ∃ q : Nat, Sub b q ∧ Drw 36 c [.a (brdC b)] (vN q) := by
  refine ⟨(someS (holesOf b) c (holesOf b).length).1, someS_sub _ (Nat.le_refl _), (someS (holesOf b) c (holesOf b).length).2, ?_⟩
  refine pc_of Try.func36 rfl (by kernel_rfl) _ Try.ntmps36 (by simp) ?_
  repeat' first
    | (first | simp -implicitDefEqProofs only [go_sem] | (refine And.intro ?_ ?_; omega) | (refine And.intro (shr_bd ?_ ?_) ?_; omega; omega) | refine sl_list rfl ?_ | refine sd_list rfl ?_ | refine sl_str ?_ | refine sd_str ?_)
    | refine callL1 (fun d => HolesOf_c d b) rfl rfl rfl ?_
  refine loop_step (X := Nat) (fun i => ⟨27, [(0, .s (.c (.p 9000 0))), (5, vN (someS (holesOf b) c i).1), (6, vO 9), (7, vN i)], ⟨[(9000, crC (someS (holesOf b) c i).2)], [(9, ⟨3, 1, (holesOf b).map iV, true, true⟩)]⟩⟩)
    (fun i => i ≤ (holesOf b).length) (fun i => (holesOf b).length - i) 0 (by omega) (weak_pub (by simp -implicitDefEqProofs only [go_sem]; exact weak_of (fun i => i) (fun i => i) rfl ⟨by simp [someS] <;> omega, by simp [someS] <;> omega, by simp [someS] <;> omega, by simp [someS] <;> omega, by simp [someS] <;> omega⟩ (by simp [someS] <;> omega))) (fun i hi => ?_)
  have hsub := someS_sub (b := b) (c := c) i hi
  have hq := sub_le hb hsub
  have e := someS.eq_2 (holesOf b) c i
  have hl := holes_len (b := b)
  by_cases hlt : i < (holesOf b).length
  · have g0 : ((i : Int) < (holesOf b).length) = True := eq_true (by omega)
    have h1 := map_get (f := iV) hlt
    obtain ⟨t1, t2, t3⟩ := hole_tb (List.getElem_mem hlt)
    have ex : (holesOf b)[i]?.getD 0 = (holesOf b)[i] := by rw [List.getElem?_eq_getElem hlt]; rfl
    rw [ex] at e
    have hs' := sub_le hb (sub_or hsub (List.getElem_mem hlt))
    generalize (holesOf b)[i] = k at h1 t1 t2 t3 e hs'
    have pk := pow_bd (m := k) t2 (by omega)
    have ep : (2 : Int) ^ k.toNat = ((2 ^ k.toNat : Nat) : Int) := by simp
    rw [ep] at pk
    by_cases hj : 0 < belN (someS (holesOf b) c i).2 3
    · rw [if_pos hj] at e
      repeat' first
        | (first | simp -implicitDefEqProofs only [g0, h1, hj, Int.one_mul, ep, Int.toNat_natCast, go_sem] | (refine And.intro ?_ ?_; omega) | (refine And.intro (shr_bd ?_ ?_) ?_; omega; omega) | refine sl_list rfl ?_ | refine sd_list rfl ?_ | refine sl_str ?_ | refine sd_str ?_)
        | refine callC (bel_c (someS (holesOf b) c i).2 3) rfl rfl rfl rfl rfl ?_
      exact ⟨i + 1, by omega, by omega, weak_of (fun i => i) (fun i => i) rfl ⟨by simp [e] <;> omega, by simp [e] <;> omega, by simp [e] <;> omega, by simp [e] <;> omega, by simp [e] <;> omega⟩ (by simp [e] <;> omega)⟩
    · rw [if_neg hj] at e
      repeat' first
        | (first | simp -implicitDefEqProofs only [g0, h1, hj, go_sem] | (refine And.intro ?_ ?_; omega) | (refine And.intro (shr_bd ?_ ?_) ?_; omega; omega) | refine sl_list rfl ?_ | refine sd_list rfl ?_ | refine sl_str ?_ | refine sd_str ?_)
        | refine callC (bel_c (someS (holesOf b) c i).2 3) rfl rfl rfl rfl rfl ?_
      exact ⟨i + 1, by omega, by omega, weak_of (fun i => i) (fun i => i) rfl ⟨by simp [e] <;> omega, by simp [e] <;> omega, by simp [e] <;> omega, by simp [e] <;> omega, by simp [e] <;> omega⟩ (by simp [e] <;> omega)⟩
  · have g0 : ((i : Int) < (holesOf b).length) = False := eq_false (by omega)
    obtain rfl : i = (holesOf b).length := by omega
    (repeat' (first | simp -implicitDefEqProofs only [g0, go_sem] | (refine And.intro ?_ ?_; omega) | (refine And.intro (shr_bd ?_ ?_) ?_; omega; omega) | refine sl_list rfl ?_ | refine sd_list rfl ?_ | refine sl_str ?_ | refine sd_str ?_))
    exact fin_of (fun i => i) (fun i => i) ⟨by simp <;> omega, by simp <;> omega, by simp <;> omega, by simp <;> omega, by simp <;> omega⟩ (by simp <;> omega) rfl
set_option maxHeartbeats 4000000 in
theorem l06Start_ex {B : Bs} (c : Cr B) {b : Brd} (hb : boardOk b = true) : ∃ q : Nat, Sub b q ∧ Drw 32 c [.a (brdC b)] (vN q) := by
  have hl := holes_len (b := b)
  have n1 := (bok hb).n1
  have n3 := (bok hb).n3
  by_cases h0 : (holesOf b).length = 0
  · obtain ⟨q, hq, c1, p1⟩ := l04Some_ex c hb
    have g0 : ((holesOf b).length : Int) = 0 := by omega
    refine ⟨q, hq, c1, ?_⟩
    refine pc_of Try.func32 rfl (by kernel_rfl) _ Try.ntmps32 (by simp) ?_
    repeat' first
      | (first | simp -implicitDefEqProofs only [g0, go_sem] | (refine And.intro ?_ ?_; omega) | (refine And.intro (shr_bd ?_ ?_) ?_; omega; omega) | refine sl_list rfl ?_ | refine sd_list rfl ?_ | refine sl_str ?_ | refine sd_str ?_)
      | refine callL1 (fun d => HolesOf_c d b) rfl rfl rfl ?_
      | refine callC p1 rfl rfl rfl rfl rfl ?_
    exact fin_of (fun i => i) (fun i => i) ⟨by simp <;> omega, by simp <;> omega, by simp <;> omega, by simp <;> omega, by simp <;> omega⟩ (by simp <;> omega) rfl
  have g0 : ¬ ((holesOf b).length : Int) = 0 := by omega
  by_cases h1 : belN c 3 = 0
  · obtain ⟨q, hq, c1, p1⟩ := l04Some_ex (belC c 3) hb
    refine ⟨q, hq, c1, ?_⟩
    refine pc_of Try.func32 rfl (by kernel_rfl) _ Try.ntmps32 (by simp) ?_
    repeat' first
      | (first | simp -implicitDefEqProofs only [g0, h1, go_sem] | (refine And.intro ?_ ?_; omega) | (refine And.intro (shr_bd ?_ ?_) ?_; omega; omega) | refine sl_list rfl ?_ | refine sd_list rfl ?_ | refine sl_str ?_ | refine sd_str ?_)
      | refine callL1 (fun d => HolesOf_c d b) rfl rfl rfl ?_
      | refine callC (once_c c 3) rfl rfl rfl rfl rfl ?_
      | refine callC p1 rfl rfl rfl rfl rfl ?_
    exact fin_of (fun i => i) (fun i => i) ⟨by simp <;> omega, by simp <;> omega, by simp <;> omega, by simp <;> omega, by simp <;> omega⟩ (by simp <;> omega) rfl
  have b1 := bel_rg (belC c 3) (n := (holesOf b).length) (by omega)
  have b2 := bel_rg (belC (belC c 3) (holesOf b).length) (n := (holesOf b).length) (by omega)
  obtain ⟨i1, e1⟩ : ∃ i1 : Nat, belN (belC c 3) (holesOf b).length = i1 := ⟨(belN (belC c 3) (holesOf b).length).toNat, by omega⟩
  obtain ⟨i2, e2⟩ : ∃ i2 : Nat, belN (belC (belC c 3) (holesOf b).length) (holesOf b).length = i2 := ⟨(belN (belC (belC c 3) (holesOf b).length) (holesOf b).length).toNat, by omega⟩
  have hi1 : i1 < (holesOf b).length := by omega
  have hi2 : i2 < (holesOf b).length := by omega
  have a1 := map_get (f := iV) hi1
  have a2 := map_get (f := iV) hi2
  obtain ⟨t1, t2, t3⟩ := hole_tb (List.getElem_mem hi1)
  obtain ⟨u1, u2, u3⟩ := hole_tb (List.getElem_mem hi2)
  generalize (holesOf b)[i1] = k at a1 t1 t2 t3
  generalize (holesOf b)[i2] = m at a2 u1 u2 u3
  have pk := pow_bd (m := k) t2 (by omega)
  have pm := pow_bd (m := m) u2 (by omega)
  have hsb : Sub b b.n.toNat := fun j hj => hj
  have s1 := sub_drop hsb k.toNat
  have s2 := sub_drop s1 m.toNat
  have v1 : ((ndiff b.n.toNat (2 ^ k.toNat) : Nat) : Int) = b.n - 2 ^ k.toNat := by
    have := ndiff_sub t1
    have hge : 2 ^ k.toNat ≤ b.n.toNat := by
      apply Classical.byContradiction
      intro hc
      have := bit_lt (n := k.toNat) (by omega) t1
      omega
    have ep : ((2 ^ k.toNat : Nat) : Int) = (2 : Int) ^ k.toNat := by simp
    omega
  have l1 := sub_le hb s1
  obtain ⟨q, eq⟩ : ∃ q, q = ndiff b.n.toNat (2 ^ k.toNat) := ⟨_, rfl⟩
  rw [← eq] at s1 s2 v1 l1
  have em : (m.toNat : Int) = m := Int.toNat_of_nonneg u2
  by_cases hj : bitAt (q : Int) m = true
  · have v2 : ((ndiff q (2 ^ m.toNat) : Nat) : Int) = q - 2 ^ m.toNat := by
      rw [bitAt_toNat (by omega) u2, Int.toNat_natCast] at hj
      have := ndiff_sub hj
      have hge : 2 ^ m.toNat ≤ q := by
        apply Classical.byContradiction
        intro hc
        have := bit_lt (n := m.toNat) (by omega) hj
        omega
      have ep : ((2 ^ m.toNat : Nat) : Int) = (2 : Int) ^ m.toNat := by simp
      omega
    by_cases h2 : belN (belC (belC (belC c 3) (holesOf b).length) (holesOf b).length) 2 = 0
    · refine ⟨_, s2, belC (belC (belC (belC c 3) (holesOf b).length) (holesOf b).length) 2, ?_⟩
      refine pc_of Try.func32 rfl (by kernel_rfl) _ Try.ntmps32 (by simp) ?_
      repeat' first
        | (first | simp -implicitDefEqProofs only [g0, h1, h2, e1, e2, a1, a2, ← v1, em, hj, Int.one_mul, go_sem] | (refine And.intro ?_ ?_; omega) | (refine And.intro (shr_bd ?_ ?_) ?_; omega; omega) | refine sl_list rfl ?_ | refine sd_list rfl ?_ | refine sl_str ?_ | refine sd_str ?_)
        | refine callL1 (fun d => HolesOf_c d b) rfl rfl rfl ?_
        | refine callC (once_c c 3) rfl rfl rfl rfl rfl ?_
        | refine callC (once_c _ 2) rfl rfl rfl rfl rfl ?_
        | refine callC (bel_c (belC c 3) _) rfl rfl rfl rfl rfl ?_
        | refine callC (bel_c (belC (belC c 3) _) _) rfl rfl rfl rfl rfl ?_
        | refine draw_stepY Try.pl_follows (by kernel_rfl) ?_
      exact fin_of (fun i => i) (fun i => i) ⟨by simp [v2] <;> omega, by simp [v2] <;> omega, by simp [v2] <;> omega, by simp [v2] <;> omega, by simp [v2] <;> omega⟩ (by simp [v2] <;> omega) (by first | rfl | (simp [renPV, renV1, renC, v2]))
    · refine ⟨_, s1, belC (belC (belC (belC c 3) (holesOf b).length) (holesOf b).length) 2, ?_⟩
      refine pc_of Try.func32 rfl (by kernel_rfl) _ Try.ntmps32 (by simp) ?_
      repeat' first
        | (first | simp -implicitDefEqProofs only [g0, h1, h2, e1, e2, a1, a2, ← v1, em, hj, Int.one_mul, go_sem] | (refine And.intro ?_ ?_; omega) | (refine And.intro (shr_bd ?_ ?_) ?_; omega; omega) | refine sl_list rfl ?_ | refine sd_list rfl ?_ | refine sl_str ?_ | refine sd_str ?_)
        | refine callL1 (fun d => HolesOf_c d b) rfl rfl rfl ?_
        | refine callC (once_c c 3) rfl rfl rfl rfl rfl ?_
        | refine callC (once_c _ 2) rfl rfl rfl rfl rfl ?_
        | refine callC (bel_c (belC c 3) _) rfl rfl rfl rfl rfl ?_
        | refine callC (bel_c (belC (belC c 3) _) _) rfl rfl rfl rfl rfl ?_
        | refine draw_stepY Try.pl_follows (by kernel_rfl) ?_
      exact fin_of (fun i => i) (fun i => i) ⟨by simp <;> omega, by simp <;> omega, by simp <;> omega, by simp <;> omega, by simp <;> omega⟩ (by simp <;> omega) rfl
  · refine ⟨_, s1, belC (belC (belC c 3) (holesOf b).length) (holesOf b).length, ?_⟩
    refine pc_of Try.func32 rfl (by kernel_rfl) _ Try.ntmps32 (by simp) ?_
    repeat' first
      | (first | simp -implicitDefEqProofs only [g0, h1, e1, e2, a1, a2, ← v1, em, hj, Int.one_mul, go_sem] | (refine And.intro ?_ ?_; omega) | (refine And.intro (shr_bd ?_ ?_) ?_; omega; omega) | refine sl_list rfl ?_ | refine sd_list rfl ?_ | refine sl_str ?_ | refine sd_str ?_)
      | refine callL1 (fun d => HolesOf_c d b) rfl rfl rfl ?_
      | refine callC (once_c c 3) rfl rfl rfl rfl rfl ?_
      | refine callC (bel_c (belC c 3) _) rfl rfl rfl rfl rfl ?_
      | refine callC (bel_c (belC (belC c 3) _) _) rfl rfl rfl rfl rfl ?_
      | refine draw_stepY Try.pl_follows (by kernel_rfl) ?_
    exact fin_of (fun i => i) (fun i => i) ⟨by simp <;> omega, by simp <;> omega, by simp <;> omega, by simp <;> omega, by simp <;> omega⟩ (by simp <;> omega) rfl
end Go.Proofs.Ytahnbliabllflaa
