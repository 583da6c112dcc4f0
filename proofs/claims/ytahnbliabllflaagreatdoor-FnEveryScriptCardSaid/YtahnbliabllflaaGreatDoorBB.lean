/-
  What spec.PositionText and spec.FormatTable compute.
  What the functions compute that compare a list of texts, write it anew and read it again.
-/
import Derived.Test.YtahnbliabllflaaGreatDoorB5
import Derived.Test.YtahnbliabllflaaGreatDoorB1
import Derived.Test.YtahnbliabllflaaGreatDoorGa
namespace Go.Proofs.YtahnbliabllflaaGreatDoor
open Go.PL
set_option linter.unusedSimpArgs false
set_option linter.unusedVariables false
theorem fmtT_len {t : Tb} : (fmtT t).length ≤ 12 := by
  unfold fmtT
  split
  · rename_i h
    obtain ⟨_, _, c1, c2⟩ := tb_nums h
    have pl := posT_len (b := t.g.x.b) (p := nowOf t.g)
    rw [List.length_append]
    simp only [List.length_cons, List.length_nil]
    omega
  · simp
set_option maxHeartbeats 16000000 in
theorem PositionText_c (d : Nat) (b : Brd) (p : Int) (hpl : p ≤ 9223372036854775807) : PC Tryz.prog 103 [] [.a (brdC b), .c (.v (.int .i64 p))] (.s (.c (.o d))) ⟨[], [(d, ⟨9, 1, (posT b p).map sV, false, true⟩)]⟩ := by
  cases hp : positionOk b p with
  | false =>
    have e : posT b p = [] := by simp [posT, hp]
    rw [e]
    by_cases h0 : 0 < b.h
    · have e0 : ((0 : Int) < b.h) = True := eq_true h0
      refine pc_of Tryz.func103 rfl (by kernel_rfl) _ Tryz.ntmps103 (by simp) ?_
      (repeat' (first | simp -implicitDefEqProofs only [go_sem] | (refine And.intro ?_ ?_; omega) | (refine And.intro (shr_bd ?_ ?_) ?_; omega; omega) | refine sl_list rfl ?_ | refine sd_list rfl ?_ | refine sl_str ?_ | refine sd_str ?_))
      refine loop_step (X := Unit) (fun _ => ⟨58, [(1, vN p), (2, .s (.c (.p 2 0))), (5, vO 10), (6, vN 0)], ⟨[(2, brdC b)], [(10, ⟨9, 1, [], false, true⟩)]⟩⟩)
        (fun _ => True) (fun _ => 0) () trivial (weak_of (fun i => i) (fun i => i) rfl ⟨by simp <;> omega, by simp <;> omega, by simp <;> omega, by simp <;> omega, by simp <;> omega⟩ (by simp <;> omega)) (fun x hx => ?_)
      repeat' first
        | (first | simp -implicitDefEqProofs only [e0, hp, go_sem] | (refine And.intro ?_ ?_; omega) | (refine And.intro (shr_bd ?_ ?_) ?_; omega; omega) | refine sl_list rfl ?_ | refine sd_list rfl ?_ | refine sl_str ?_ | refine sd_str ?_)
        | refine callS (PositionOk_c b p (by omega)) rfl rfl rfl ?_
      exact fin_of (fun i => i) (fun i => 10) ⟨by simp <;> omega, by simp <;> omega, by simp <;> omega, by simp <;> omega, by simp <;> omega⟩ (by simp <;> omega) rfl
    · have e0 : ((0 : Int) < b.h) = False := eq_false h0
      refine pc_of Tryz.func103 rfl (by kernel_rfl) _ Tryz.ntmps103 (by simp) ?_
      (repeat' (first | simp -implicitDefEqProofs only [go_sem] | (refine And.intro ?_ ?_; omega) | (refine And.intro (shr_bd ?_ ?_) ?_; omega; omega) | refine sl_list rfl ?_ | refine sd_list rfl ?_ | refine sl_str ?_ | refine sd_str ?_))
      refine loop_step (X := Unit) (fun _ => ⟨58, [(1, vN p), (2, .s (.c (.p 2 0))), (5, vO 10), (6, vN 0)], ⟨[(2, brdC b)], [(10, ⟨9, 1, [], false, true⟩)]⟩⟩)
        (fun _ => True) (fun _ => 0) () trivial (weak_of (fun i => i) (fun i => i) rfl ⟨by simp <;> omega, by simp <;> omega, by simp <;> omega, by simp <;> omega, by simp <;> omega⟩ (by simp <;> omega)) (fun x hx => ?_)
      (repeat' (first | simp -implicitDefEqProofs only [e0, go_sem] | (refine And.intro ?_ ?_; omega) | (refine And.intro (shr_bd ?_ ?_) ?_; omega; omega) | refine sl_list rfl ?_ | refine sd_list rfl ?_ | refine sl_str ?_ | refine sd_str ?_))
      exact fin_of (fun i => i) (fun i => 10) ⟨by simp <;> omega, by simp <;> omega, by simp <;> omega, by simp <;> omega, by simp <;> omega⟩ (by simp <;> omega) rfl
  | true =>
    have e : posT b p = rowsT b p b.h.toNat := by simp [posT, hp]
    have hple := pos_le hp
    obtain ⟨hb, p0, hsub⟩ := pos_sub hp
    obtain ⟨w1, w2, h1, h2, m1, m2, n1, n2, n3⟩ := bok hb
    have r0 : rowsT b p 0 = [] := rfl
    rw [e]
    refine pc_of Tryz.func103 rfl (by kernel_rfl) _ Tryz.ntmps103 (by simp) ?_
    (repeat' (first | simp -implicitDefEqProofs only [go_sem] | (refine And.intro ?_ ?_; omega) | (refine And.intro (shr_bd ?_ ?_) ?_; omega; omega) | refine sl_list rfl ?_ | refine sd_list rfl ?_ | refine sl_str ?_ | refine sd_str ?_))
    refine loop_step (X := Nat) (fun i => ⟨58, [(1, vN p), (2, .s (.c (.p 2 0))), (5, vO 10), (6, vN i)], ⟨[(2, brdC b)], [(10, ⟨9, 1, (rowsT b p i).map sV, false, true⟩)]⟩⟩)
      (fun i => i ≤ b.h.toNat) (fun i => b.h.toNat - i) 0 (by omega) (weak_of (fun i => i) (fun i => i) rfl ⟨by simp [r0] <;> omega, by simp [r0] <;> omega, by simp [r0] <;> omega, by simp [r0] <;> omega, by simp [r0] <;> omega⟩ (by simp [r0] <;> omega)) (fun i hi => ?_)
    by_cases hlt : i < b.h.toNat
    · have e0 : ((i : Int) < b.h) = True := eq_true (by omega)
      obtain ⟨c, ec, c42⟩ := row_place hb hlt
      have r1 : rowT b p i 0 = [] := rfl
      repeat' first
        | (first | simp -implicitDefEqProofs only [e0, ec, hp, go_sem] | (refine And.intro ?_ ?_; omega) | (refine And.intro (shr_bd ?_ ?_) ?_; omega; omega) | refine sl_list rfl ?_ | refine sd_list rfl ?_ | refine sl_str ?_ | refine sd_str ?_)
        | refine callS (PositionOk_c b p (by omega)) rfl rfl rfl ?_
      refine loop_step (X := Nat) (fun j => ⟨58, [(1, vN p), (2, .s (.c (.p 2 0))), (5, vO 10), (6, vN i), (7, vS (rowT b p i j)), (8, vN j)], ⟨[(2, brdC b)], [(10, ⟨9, 1, (rowsT b p i).map sV, false, true⟩)]⟩⟩)
        (fun j => j ≤ b.w.toNat) (fun j => b.w.toNat - j) 0 (by omega) (weak_of (fun i => i) (fun i => i) rfl ⟨by simp [r1] <;> omega, by simp [r1] <;> omega, by simp [r1] <;> omega, by simp [r1] <;> omega, by simp [r1] <;> omega⟩ (by simp [r1] <;> omega)) (fun j hj => ?_)
      by_cases hl2 : j < b.w.toNat
      · have e1 : ((j : Int) < b.w) = True := eq_true (by omega)
        have n2' := rowT_next (b := b) (p := p) (i := i) (j := j)
        have rl := rowT_len (b := b) (p := p) (i := i) (j := j)
        rw [ec] at n2'
        have et : ((((c : Int) + (j : Int)).toNat : Nat) : Int) = (c : Int) + (j : Int) := by omega
        have hq : 0 ≤ b.n / 2 ^ ((c : Int) + (j : Int)).toNat := Int.ediv_nonneg (by omega) (Int.pow_nonneg (by omega))
        have hq2 : b.n / 2 ^ ((c : Int) + (j : Int)).toNat ≤ b.n := Int.ediv_le_self _ (by omega)
        have hq3 : 0 ≤ p / 2 ^ ((c : Int) + (j : Int)).toNat := Int.ediv_nonneg (by omega) (Int.pow_nonneg (by omega))
        have hq4 : p / 2 ^ ((c : Int) + (j : Int)).toNat ≤ p := Int.ediv_le_self _ (by omega)
        have sb : bitAt p ((c : Int) + (j : Int)) = true → bitAt b.n ((c : Int) + (j : Int)) = true := fun h => by
          rw [bitAt_toNat (by omega) (by omega)] at h ⊢
          exact hsub _ h
        unfold cellT at n2'
        cases hx : bitAt p ((c : Int) + (j : Int)) with
        | true =>
          have hy := sb hx
          rw [hx] at n2'
          rw [if_pos rfl] at n2'
          repeat' first
            | (first | simp -implicitDefEqProofs only [ec, e1, et, hx, hy, go_sem] | (refine And.intro ?_ ?_; omega) | (refine And.intro (shr_bd ?_ ?_) ?_; omega; omega) | refine sl_list rfl ?_ | refine sd_list rfl ?_ | refine sl_str ?_ | refine sd_str ?_)
            | refine And.intro (by omega) ?_
          exact ⟨j + 1, by omega, by omega, weak_of (fun i => i) (fun i => i) rfl ⟨by simp [n2'] <;> omega, by simp [n2'] <;> omega, by simp [n2'] <;> omega, by simp [n2'] <;> omega, by simp [n2'] <;> omega⟩ (by simp [n2'] <;> omega)⟩
        | false =>
          rw [hx] at n2'
          rw [if_neg (by simp)] at n2'
          cases hy : bitAt b.n ((c : Int) + (j : Int)) with
          | true =>
            rw [hy] at n2'
            rw [if_pos rfl] at n2'
            repeat' first
              | (first | simp -implicitDefEqProofs only [ec, e1, et, hx, hy, go_sem] | (refine And.intro ?_ ?_; omega) | (refine And.intro (shr_bd ?_ ?_) ?_; omega; omega) | refine sl_list rfl ?_ | refine sd_list rfl ?_ | refine sl_str ?_ | refine sd_str ?_)
              | refine And.intro (by omega) ?_
            exact ⟨j + 1, by omega, by omega, weak_of (fun i => i) (fun i => i) rfl ⟨by simp [n2'] <;> omega, by simp [n2'] <;> omega, by simp [n2'] <;> omega, by simp [n2'] <;> omega, by simp [n2'] <;> omega⟩ (by simp [n2'] <;> omega)⟩
          | false =>
            rw [hy] at n2'
            rw [if_neg (by simp)] at n2'
            repeat' first
              | (first | simp -implicitDefEqProofs only [ec, e1, et, hx, hy, go_sem] | (refine And.intro ?_ ?_; omega) | (refine And.intro (shr_bd ?_ ?_) ?_; omega; omega) | refine sl_list rfl ?_ | refine sd_list rfl ?_ | refine sl_str ?_ | refine sd_str ?_)
              | refine And.intro (by omega) ?_
            exact ⟨j + 1, by omega, by omega, weak_of (fun i => i) (fun i => i) rfl ⟨by simp [n2'] <;> omega, by simp [n2'] <;> omega, by simp [n2'] <;> omega, by simp [n2'] <;> omega, by simp [n2'] <;> omega⟩ (by simp [n2'] <;> omega)⟩
      · have e1 : ((j : Int) < b.w) = False := eq_false (by omega)
        obtain rfl : j = b.w.toNat := by omega
        have n1' := rowsT_next (b := b) (p := p) (i := i)
        have rl := rowsT_len (b := b) (p := p) (i := i)
        repeat' first
          | (first | simp -implicitDefEqProofs only [ec, e1, List.length_map, rl, go_sem] | (refine And.intro ?_ ?_; omega) | (refine And.intro (shr_bd ?_ ?_) ?_; omega; omega) | refine sl_list rfl ?_ | refine sd_list rfl ?_ | refine sl_str ?_ | refine sd_str ?_)
        exact ⟨i + 1, by omega, by omega, weak_of (fun i => i) (fun i => if i = 10 then 56 else i) rfl ⟨by simp [n1', sV] <;> omega, by simp [n1', sV] <;> omega, by simp [n1', sV] <;> omega, by simp [n1', sV] <;> omega, by simp [n1', sV] <;> omega⟩ (by simp [n1', sV] <;> omega)⟩
    · have e0 : ((i : Int) < b.h) = False := eq_false (by omega)
      obtain rfl : i = b.h.toNat := by omega
      (repeat' (first | simp -implicitDefEqProofs only [e0, go_sem] | (refine And.intro ?_ ?_; omega) | (refine And.intro (shr_bd ?_ ?_) ?_; omega; omega) | refine sl_list rfl ?_ | refine sd_list rfl ?_ | refine sl_str ?_ | refine sd_str ?_))
      exact fin_of (fun i => i) (fun i => 10) ⟨by simp <;> omega, by simp <;> omega, by simp <;> omega, by simp <;> omega, by simp <;> omega⟩ (by simp <;> omega) rfl
set_option maxHeartbeats 16000000 in
theorem FormatTable_c (d : Nat) (t : Tb) (ht : TbS t) : PC Tryz.prog 48 [] [.a (tbL t)] (.s (.c (.o d))) ⟨[], [(d, ⟨9, 1, (fmtT t).map sV, false, true⟩)]⟩ := by
  cases hp : tableOk t with
  | false =>
    have e : fmtT t = [] := by simp [fmtT, hp]
    rw [e]
    refine pc_of Tryz.func48 rfl (by kernel_rfl) _ Tryz.ntmps48 (by simp) ?_
    repeat' first
      | (first | simp -implicitDefEqProofs only [hp, go_sem] | (refine And.intro ?_ ?_; omega) | (refine And.intro (shr_bd ?_ ?_) ?_; omega; omega) | refine sl_list rfl ?_ | refine sd_list rfl ?_ | refine sl_str ?_ | refine sd_str ?_)
      | refine callS (TableOk_c t ht.tb) rfl rfl rfl ?_
    exact fin_of (fun i => i) (fun i => 8) ⟨by simp <;> omega, by simp <;> omega, by simp <;> omega, by simp <;> omega, by simp <;> omega⟩ (by simp <;> omega) rfl
  | true =>
    have e : (fmtT t).map sV = (posT t.g.x.b (nowOf t.g)).map sV ++ [sV (lineJ t), sV (lineH t), sV (lineB t), sV (lineT t), sV (lineR t)] := by simp [fmtT, hp]
    rw [e]
    obtain ⟨⟨a1, a2⟩, ⟨b1, b2⟩, c1, c2⟩ := tb_nums hp
    have hnow := nowOf_le (g := t.g)
    have hr := ht.r
    have l1 := gameS_len (b := t.g.x.b) (js := t.g.j)
    have l2 := itoa_len (n := t.g.h) (by omega) (by omega)
    have l3 := itoa_len (n := t.g.u) (by omega) (by omega)
    have l4 := timeT_len (s := t.c.a)
    have l5 := itoa_len (n := (t.r.length : Int)) (by omega) (by omega)
    have pl := posT_len (b := t.g.x.b) (p := nowOf t.g)
    have i1 : PC Tryz.prog 47 [] [.c (.v (.int .i64 t.g.h))] (vS (itoa t.g.h)) ⟨[], []⟩ := by
      have := FormatInt_c t.g.h.toNat (by omega)
      rwa [Int.toNat_of_nonneg a1] at this
    have i2 : PC Tryz.prog 47 [] [.c (.v (.int .i64 t.g.u))] (vS (itoa t.g.u)) ⟨[], []⟩ := by
      have := FormatInt_c t.g.u.toNat (by omega)
      rwa [Int.toNat_of_nonneg b1] at this
    have i3 := FormatInt_c t.r.length (by omega)
    unfold lineJ lineH lineB lineT lineR
    refine pc_of Tryz.func48 rfl (by kernel_rfl) _ Tryz.ntmps48 (by simp) ?_
    repeat' first
      | (first | simp -implicitDefEqProofs only [hp, List.length_map, List.length_append, List.length_cons, List.length_nil, go_sem] | (refine And.intro ?_ ?_; omega) | (refine And.intro (shr_bd ?_ ?_) ?_; omega; omega) | refine sl_list rfl ?_ | refine sd_list rfl ?_ | refine sl_str ?_ | refine sd_str ?_)
      | refine callS (TableOk_c t ht.tb) rfl rfl rfl ?_
      | refine draw_stepY Tryz.pl_follows (by kernel_rfl) ?_
      | refine callS (NowOf_c t.g ht.tb.g) rfl rfl rfl ?_
      | refine callL1 (fun d => PositionText_c d t.g.x.b (nowOf t.g) (by omega)) rfl rfl rfl ?_
      | refine callS (GameText_c t.g.x.b t.g.j) rfl rfl rfl ?_
      | refine callS i1 rfl rfl rfl ?_
      | refine callS i2 rfl rfl rfl ?_
      | refine callS (TimeText_c t.c.a) rfl rfl rfl ?_
      | refine callS i3 rfl rfl rfl ?_
    exact fin_of (fun i => i) (fun i => 46) ⟨by simp [sV] <;> omega, by simp [sV] <;> omega, by simp [sV] <;> omega, by simp [sV] <;> omega, by simp [sV] <;> omega⟩ (by simp [sV] <;> omega) (by first | rfl | (simp [renPV, renV1, renC, sV]))
end Go.Proofs.YtahnbliabllflaaGreatDoor
namespace Go.Proofs.YtahnbliabllflaaGreatDoor
open Go.PL
set_option linter.unusedSimpArgs false
set_option linter.unusedVariables false
theorem eqStringS_c (xs : List (List UInt8)) (hn : xs.length ≤ 4194304) : PC Tryz.prog 13 [] [.c (.l 1 (xs.map sV)), .c (.l 1 (xs.map sV))] (vB true) ⟨[], []⟩ := by
  refine pc_of Tryz.func13 rfl (by kernel_rfl) _ Tryz.ntmps13 (by simp) ?_
  (repeat' (first | simp -implicitDefEqProofs only [go_sem] | (refine And.intro ?_ ?_; omega) | (refine And.intro (shr_bd ?_ ?_) ?_; omega; omega) | refine sl_list rfl ?_ | refine sd_list rfl ?_ | refine sl_str ?_ | refine sd_str ?_))
  refine loop_step (X := Nat) (fun i => ⟨26, [(0, vL 1 (xs.map sV)), (1, vL 1 (xs.map sV)), (5, vN i)], ⟨[], []⟩⟩) (fun i => i ≤ xs.length) (fun i => xs.length - i) 0 (by omega) (weak_of (fun i => i) (fun i => i) rfl ⟨by simp <;> omega, by simp <;> omega, by simp <;> omega, by simp <;> omega, by simp <;> omega⟩ (by simp <;> omega)) (fun i hi => ?_)
  by_cases hlt : i < xs.length
  · have e0 : ((i : Int) < xs.length) = True := eq_true (by omega)
    have g1 := map_get (f := sV) hlt
    generalize xs[i] = x at g1
    repeat' first
      | (first | simp -implicitDefEqProofs only [e0, g1, hlt, sV, go_sem] | (refine And.intro ?_ ?_; omega) | (refine And.intro (shr_bd ?_ ?_) ?_; omega; omega) | refine sl_list rfl ?_ | refine sd_list rfl ?_ | refine sl_str ?_ | refine sd_str ?_)
      | refine draw_stepY Tryz.pl_follows (by kernel_rfl) ?_
    exact ⟨i + 1, by omega, by omega, weak_of (fun i => i) (fun i => i) rfl ⟨by simp <;> omega, by simp <;> omega, by simp <;> omega, by simp <;> omega, by simp <;> omega⟩ (by simp <;> omega)⟩
  · have e0 : ((i : Int) < xs.length) = False := eq_false (by omega)
    (repeat' (first | simp -implicitDefEqProofs only [e0, go_sem] | (refine And.intro ?_ ?_; omega) | (refine And.intro (shr_bd ?_ ?_) ?_; omega; omega) | refine sl_list rfl ?_ | refine sd_list rfl ?_ | refine sl_str ?_ | refine sd_str ?_))
    exact fin_scal rfl rfl
theorem sameTexts_c (xs : List (List UInt8)) (hn : xs.length ≤ 4194304) : PC Tryz.prog 21 [] [.c (.l 1 (xs.map sV)), .c (.l 1 (xs.map sV))] (vB true) ⟨[], []⟩ := by
  refine pc_of Tryz.func21 rfl (by kernel_rfl) _ Tryz.ntmps21 (by simp) ?_
  (repeat' (first | simp -implicitDefEqProofs only [go_sem] | (refine And.intro ?_ ?_; omega) | (refine And.intro (shr_bd ?_ ?_) ?_; omega; omega) | refine sl_list rfl ?_ | refine sd_list rfl ?_ | refine sl_str ?_ | refine sd_str ?_))
  refine loop_step (X := Nat) (fun i => ⟨26, [(0, vL 1 (xs.map sV)), (1, vL 1 (xs.map sV)), (5, vN i)], ⟨[], []⟩⟩) (fun i => i ≤ xs.length) (fun i => xs.length - i) 0 (by omega) (weak_of (fun i => i) (fun i => i) rfl ⟨by simp <;> omega, by simp <;> omega, by simp <;> omega, by simp <;> omega, by simp <;> omega⟩ (by simp <;> omega)) (fun i hi => ?_)
  by_cases hlt : i < xs.length
  · have e0 : ((i : Int) < xs.length) = True := eq_true (by omega)
    have g1 := map_get (f := sV) hlt
    generalize xs[i] = x at g1
    repeat' first
      | (first | simp -implicitDefEqProofs only [e0, g1, hlt, sV, go_sem] | (refine And.intro ?_ ?_; omega) | (refine And.intro (shr_bd ?_ ?_) ?_; omega; omega) | refine sl_list rfl ?_ | refine sd_list rfl ?_ | refine sl_str ?_ | refine sd_str ?_)
      | refine draw_stepY Tryz.pl_follows (by kernel_rfl) ?_
    exact ⟨i + 1, by omega, by omega, weak_of (fun i => i) (fun i => i) rfl ⟨by simp <;> omega, by simp <;> omega, by simp <;> omega, by simp <;> omega, by simp <;> omega⟩ (by simp <;> omega)⟩
  · have e0 : ((i : Int) < xs.length) = False := eq_false (by omega)
    (repeat' (first | simp -implicitDefEqProofs only [e0, go_sem] | (refine And.intro ?_ ?_; omega) | (refine And.intro (shr_bd ?_ ?_) ?_; omega; omega) | refine sl_list rfl ?_ | refine sd_list rfl ?_ | refine sl_str ?_ | refine sd_str ?_))
    exact fin_scal rfl rfl
theorem markText_n (n : Nat) (h0 : 0 < n) (hn : n ≤ 9223372036854775807) : PC Tryz.prog 50 [] [.c (.v (.int .i64 (n : Int)))] (vS (109 :: itoa (n : Int))) ⟨[], []⟩ := by
  rw [itoa_nat]
  have e0 : ((n : Int) ≤ 0) = False := eq_false (by omega)
  have z : sB [] = ByteArray.empty := rfl
  refine pc_of Tryz.func50 rfl (by kernel_rfl) _ Tryz.ntmps50 (by simp) ?_
  (repeat' (first | simp -implicitDefEqProofs only [e0, go_sem] | (refine And.intro ?_ ?_; omega) | (refine And.intro (shr_bd ?_ ?_) ?_; omega; omega) | refine sl_list rfl ?_ | refine sd_list rfl ?_ | refine sl_str ?_ | refine sd_str ?_))
  refine loop_step (X := Nat × List UInt8) (fun x => ⟨20, [(0, vN x.1), (2, vS []), (3, vS x.2)], ⟨[], []⟩⟩)
    (fun x => DigOk n x.1 x.2) (fun x => x.1) (n, []) (dig_start (by omega)) (weak_of (fun i => i) (fun i => i) rfl ⟨by simp <;> omega, by simp <;> omega, by simp <;> omega, by simp <;> omega, by simp <;> omega⟩ (by simp <;> omega)) (fun x hx => ?_)
  obtain ⟨m, s⟩ := x
  simp only at hx
  have hm := hx.1
  have hs := hx.2.1
  by_cases hz : m = 0
  · have f0 : ((0 : Int) < (m : Int)) = False := eq_false (by omega)
    have he := dig_end (by rw [← hz]; exact hx)
    (repeat' (first | simp -implicitDefEqProofs only [f0, List.cons_append, List.nil_append, go_sem] | (refine And.intro ?_ ?_; omega) | (refine And.intro (shr_bd ?_ ?_) ?_; omega; omega) | refine sl_list rfl ?_ | refine sd_list rfl ?_ | refine sl_str ?_ | refine sd_str ?_))
    exact fin_scal rfl (by rw [he])
  · have f0 : ((0 : Int) < (m : Int)) = True := eq_true (by omega)
    have f2 : (m : Int) % 10 = ((m % 10 : Nat) : Int) := by omega
    have f3 : (m : Int) / 10 = ((m / 10 : Nat) : Int) := by omega
    have hd : m % 10 < 10 := Nat.mod_lt _ (by omega)
    repeat' first
      | (first | simp -implicitDefEqProofs only [f0, f2, f3, byte_one, List.reverse_singleton, List.length_cons, List.length_nil, List.cons_append, List.nil_append, go_sem] | (refine And.intro ?_ ?_; omega) | (refine And.intro (shr_bd ?_ ?_) ?_; omega; omega) | refine sl_list rfl ?_ | refine sd_list rfl ?_ | refine sl_str ?_ | refine sd_str ?_)
    exact ⟨(m / 10, UInt8.ofNat (48 + m % 10) :: s), dig_step hn hx hz, by simp only; omega, weak_of (fun i => i) (fun i => i) rfl ⟨by simp <;> omega, by simp <;> omega, by simp <;> omega, by simp <;> omega, by simp <;> omega⟩ (by simp <;> omega)⟩
theorem markText_c (k : Int) (h0 : 1 ≤ k) (h1 : k ≤ 1000000000000) : PC Tryz.prog 50 [] [.c (.v (.int .i64 k))] (vS (109 :: itoa k)) ⟨[], []⟩ := by
  obtain ⟨n, rfl⟩ : ∃ n : Nat, k = n := ⟨k.toNat, by omega⟩
  exact markText_n n (by omega) (by omega)
def mkStr (j : Nat) : Value := sV (109 :: itoa (1 + (j : Int)))
set_option maxHeartbeats 2000000 in
theorem markStringS_c (d : Nat) (xs : List (List UInt8)) (hn : xs.length ≤ 4194304) :
    PI Tryz.prog 14 [(d, ⟨9, 1, xs.map sV, false, true⟩)] [.c (.o d), .c (.v (.int .i64 1))] (.s (.c (.v (.int .i64 (1 + xs.length))))) ⟨[], [(d, ⟨9, 1, marks mkStr xs.length, false, true⟩)]⟩ := by
  refine pi_of Tryz.func14 rfl (by kernel_rfl) _ Tryz.ntmps14 (by simp) ?_
  simp -implicitDefEqProofs only [go_sem]
  refine loop_step (X := Nat) (fun i => ⟨20, [(0, vO d), (1, vN (1 + (i : Int))), (5, vN i)], ⟨[], [(d, ⟨9, 1, mkd mkStr (xs.map sV) i, false, true⟩)]⟩⟩)
    (fun i => i ≤ xs.length) (fun i => xs.length - i) 0 (by omega) (weak_of (fun i => i) (fun i => i) rfl ⟨by simp [mkd_zero] <;> omega, by simp [mkd_zero] <;> omega, by simp [mkd_zero] <;> omega, by simp [mkd_zero] <;> omega, by simp [mkd_zero] <;> omega⟩ (by simp [mkd_zero] <;> omega)) (fun i hi => ?_)
  have hml := mkd_len (f := mkStr) (l := xs.map sV) (i := i) (by simpa using hi)
  have hml' : (mkd mkStr (xs.map sV) i).length = xs.length := by simpa using hml
  by_cases hlt : i < xs.length
  · have e0 : ((i : Int) < xs.length) = True := eq_true (by omega)
    have hg : (mkd mkStr (xs.map sV) i)[i]? = some (sV xs[i]) := by rw [mkd_get, map_get hlt]
    repeat' first
      | (first | simp -implicitDefEqProofs only [e0, hml', hg, hlt, go_sem] | (refine And.intro ?_ ?_; omega) | (refine And.intro (shr_bd ?_ ?_) ?_; omega; omega) | refine sl_list rfl ?_ | refine sd_list rfl ?_ | refine sl_str ?_ | refine sd_str ?_)
      | refine callS (markText_c (1 + (i : Int)) (by omega) (by omega)) rfl rfl rfl ?_
    have e : mkd mkStr (xs.map sV) (i + 1) = (mkd mkStr (xs.map sV) i).set i (.string (sB (109 :: itoa (1 + (i : Int))))) := by
      rw [← mkd_set (by simpa using hlt)]
      rfl
    have e2 : 1 + ((i : Int) + 1) = 1 + i + 1 := by omega
    exact ⟨i + 1, by omega, by omega, weak_of (fun i => i) (fun i => i) rfl ⟨by simp [e, e2] <;> omega, by simp [e, e2] <;> omega, by simp [e, e2] <;> omega, by simp [e, e2] <;> omega, by simp [e, e2] <;> omega⟩ (by simp [e, e2] <;> omega)⟩
  · have e0 : ((i : Int) < xs.length) = False := eq_false (by omega)
    obtain rfl : i = xs.length := by omega
    have e : mkd mkStr (xs.map sV) xs.length = marks mkStr xs.length := by
      have := mkd_end (f := mkStr) (l := xs.map sV)
      simpa using this
    (repeat' (first | simp -implicitDefEqProofs only [e, marks_len, e0, go_sem] | (refine And.intro ?_ ?_; omega) | (refine And.intro (shr_bd ?_ ?_) ?_; omega; omega) | refine sl_list rfl ?_ | refine sd_list rfl ?_ | refine sl_str ?_ | refine sd_str ?_))
    exact fin_of (fun i => i) (fun i => i) ⟨by simp <;> omega, by simp <;> omega, by simp <;> omega, by simp <;> omega, by simp <;> omega⟩ (by simp <;> omega) rfl
theorem heldStringS_c (n : Nat) (hn : n ≤ 4194304) :
    PC Tryz.prog 15 [] [.c (.l 1 (marks mkStr n)), .c (.v (.int .i64 1))] (.s (.c (.v (.int .i64 (1 + n))))) ⟨[], []⟩ := by
  refine pc_of Tryz.func15 rfl (by kernel_rfl) _ Tryz.ntmps15 (by simp) ?_
  simp -implicitDefEqProofs only [go_sem]
  refine loop_step (X := Nat) (fun i => ⟨22, [(0, vL 1 (marks mkStr n)), (1, vN (1 + (i : Int))), (5, vN i)], ⟨[], []⟩⟩)
    (fun i => i ≤ n) (fun i => n - i) 0 (by omega) (weak_of (fun i => i) (fun i => i) rfl ⟨by simp <;> omega, by simp <;> omega, by simp <;> omega, by simp <;> omega, by simp <;> omega⟩ (by simp <;> omega)) (fun i hi => ?_)
  by_cases hlt : i < n
  · have e0 : ((i : Int) < n) = True := eq_true (by omega)
    have hg := marks_get (f := mkStr) hlt
    repeat' first
      | (first | simp -implicitDefEqProofs only [e0, marks_len, hg, mkStr, hlt, go_sem] | (refine And.intro ?_ ?_; omega) | (refine And.intro (shr_bd ?_ ?_) ?_; omega; omega) | refine sl_list rfl ?_ | refine sd_list rfl ?_ | refine sl_str ?_ | refine sd_str ?_)
      | refine draw_stepY Tryz.pl_follows (by kernel_rfl) ?_
      | refine callS (markText_c (1 + (i : Int)) (by omega) (by omega)) rfl rfl rfl ?_
    have e9 : 1 + ((i : Int) + 1) = 1 + i + 1 := by omega
    exact ⟨i + 1, by omega, by omega, weak_of (fun i => i) (fun i => i) rfl ⟨by simp [e9] <;> omega, by simp [e9] <;> omega, by simp [e9] <;> omega, by simp [e9] <;> omega, by simp [e9] <;> omega⟩ (by simp [e9] <;> omega)⟩
  · have e0 : ((i : Int) < n) = False := eq_false (by omega)
    obtain rfl : i = n := by omega
    (repeat' (first | simp -implicitDefEqProofs only [marks_len, e0, go_sem] | (refine And.intro ?_ ?_; omega) | (refine And.intro (shr_bd ?_ ?_) ?_; omega; omega) | refine sl_list rfl ?_ | refine sd_list rfl ?_ | refine sl_str ?_ | refine sd_str ?_))
    exact fin_scal rfl rfl
end Go.Proofs.YtahnbliabllflaaGreatDoor
