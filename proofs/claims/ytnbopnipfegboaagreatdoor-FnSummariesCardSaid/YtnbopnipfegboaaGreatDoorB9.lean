/-
  The law on summaries: a printed table shows the position, the jumps, hints, time and records.
-/
import Derived.Test.YtnbopnipfegboaaGreatDoorB5
import Derived.Test.YtnbopnipfegboaaGreatDoorDA
import Derived.Test.YtnbopnipfegboaaGreatDoorSZ
namespace Go.Proofs.YtnbopnipfegboaaGreatDoor
open Go.PL
set_option linter.unusedSimpArgs false
set_option linter.unusedVariables false
theorem now_pos {t : Tb} (h : tableOk t = true) : positionOk t.g.x.b (nowOf t.g) = true := by
  obtain ⟨h1, _, _, _⟩ := tableOk_iff.1 h
  have h2 := h1
  simp only [gameOk, puzzleOk, Bool.and_eq_true] at h2
  unfold nowOf
  rw [if_pos h1]
  exact play_pos h2.1.2.1
theorem rowsT_at {b : Brd} {p : Int} {n k : Nat} (h : k < n) : (rowsT b p n)[k]? = some (rowT b p k b.w.toNat) := by simp [rowsT, h]
set_option maxHeartbeats 32000000 in
theorem lawSummaries_c (bs : List Nat) (hbs : ∀ b ∈ bs, b ≤ 255) : PC Tryz.prog 4 [] [.c (.l 1 (bs.map bV))] (vB true) ⟨[], []⟩ := by
  by_cases hn : (1048576 : Int) < bs.length
  · refine pc_of Tryz.func4 rfl (by kernel_rfl) _ Tryz.ntmps4 (by simp) ?_
    repeat' first
      | (first | simp -implicitDefEqProofs only [hn, go_sem] | (refine And.intro ?_ ?_; omega) | (refine And.intro (shr_bd ?_ ?_) ?_; omega; omega) | refine sl_list rfl ?_ | refine sd_list rfl ?_ | refine sl_str ?_ | refine sd_str ?_)
      | refine callS (lawBig_c bs) rfl rfl rfl ?_
    exact fin_scal rfl rfl
  obtain ⟨t, acs, ⟨ht, _, _⟩, pd⟩ := drawActs_ex ⟨bs, hbs, by omega⟩
  have hb0 : ((1048576 : Int) < bs.length) = False := eq_false hn
  have tS := tbS_of ht
  obtain ⟨⟨a1, a2⟩, ⟨b1, b2⟩, c1, c2⟩ := tb_nums ht
  have hnow := nowOf_le (g := t.g)
  have hr := tS.r
  have l1 := gameS_len (b := t.g.x.b) (js := t.g.j)
  have l2 := itoa_len (n := t.g.h) (by omega) (by omega)
  have l3 := itoa_len (n := t.g.u) (by omega) (by omega)
  have l4 := timeT_len (s := t.c.a)
  have l5 := itoa_len (n := (t.r.length : Int)) (by omega) (by omega)
  have ep : posT t.g.x.b (nowOf t.g) = rowsT t.g.x.b (nowOf t.g) t.g.x.b.h.toNat := by simp [posT, now_pos ht]
  have ef : fmtT t = rowsT t.g.x.b (nowOf t.g) t.g.x.b.h.toNat ++ [lineJ t, lineH t, lineB t, lineT t, lineR t] := by simp [fmtT, ht, ep]
  have pF := fun d => iFormatTable_c d t tS
  have pP := fun d => iPositionText_c d t.g.x.b (nowOf t.g) (by omega)
  obtain ⟨H, eH⟩ : ∃ H : Nat, t.g.x.b.h = H := ⟨t.g.x.b.h.toNat, by omega⟩
  have eHN : t.g.x.b.h.toNat = H := by omega
  have rl := rowsT_len (b := t.g.x.b) (p := nowOf t.g) (i := H)
  have ra : ∀ k, k < H → (rowsT t.g.x.b (nowOf t.g) H)[k]? = some (rowT t.g.x.b (nowOf t.g) k t.g.x.b.w.toNat) := fun k hk => rowsT_at hk
  rw [eHN] at ep ef
  rw [ep] at pP
  generalize hR : rowsT t.g.x.b (nowOf t.g) H = R at *
  have fl : (fmtT t).length = H + 5 := by rw [ef, List.length_append, rl]; rfl
  have f0 : ∀ k, k < H → (fmtT t)[k]? = some (rowT t.g.x.b (nowOf t.g) k t.g.x.b.w.toNat) := fun k hk => by rw [ef, List.getElem?_append_left (by omega)]; exact ra k hk
  have f1 : ∀ k : Nat, (fmtT t)[H + k]? = [lineJ t, lineH t, lineB t, lineT t, lineR t][k]? := fun k => by rw [ef, List.getElem?_append_right (by omega)]; congr 1; omega
  have g0 : ((fmtT t).map sV)[(t.g.x.b.h).toNat]? = some (sV ([106, 117, 109, 112, 115, 32] ++ gameS t.g.x.b t.g.j)) := by rw [eHN, List.getElem?_map, show H = H + 0 from rfl, f1]; rfl
  have g1 : ((fmtT t).map sV)[(t.g.x.b.h + 1).toNat]? = some (sV ([104, 105, 110, 116, 115, 32] ++ itoa t.g.h)) := by rw [show (t.g.x.b.h + 1).toNat = H + 1 by omega, List.getElem?_map, f1]; rfl
  have g2 : ((fmtT t).map sV)[(t.g.x.b.h + 2).toNat]? = some (sV ([98, 97, 99, 107, 32] ++ itoa t.g.u)) := by rw [show (t.g.x.b.h + 2).toNat = H + 2 by omega, List.getElem?_map, f1]; rfl
  have g3 : ((fmtT t).map sV)[(t.g.x.b.h + 3).toNat]? = some (sV ([116, 105, 109, 101, 32] ++ timeT t.c.a)) := by rw [show (t.g.x.b.h + 3).toNat = H + 3 by omega, List.getElem?_map, f1]; rfl
  have g4 : ((fmtT t).map sV)[(t.g.x.b.h + 4).toNat]? = some (sV ([114, 101, 99, 111, 114, 100, 115, 32] ++ itoa (t.r.length : Int))) := by rw [show (t.g.x.b.h + 4).toNat = H + 4 by omega, List.getElem?_map, f1]; rfl
  have k0 : ∀ k, k < H → ((fmtT t).map sV)[k]? = some (sV (rowT t.g.x.b (nowOf t.g) k t.g.x.b.w.toNat)) := fun k hk => by rw [List.getElem?_map, f0 k hk]; rfl
  have k1 : ∀ k, k < H → (R.map sV)[k]? = some (sV (rowT t.g.x.b (nowOf t.g) k t.g.x.b.w.toNat)) := fun k hk => by rw [List.getElem?_map, ra k hk]; rfl
  have fl' : ((fmtT t).map sV).length = H + 5 := by rw [List.length_map, fl]
  have rl' : (R.map sV).length = H := by rw [List.length_map, rl]
  clear f0 f1 fl rl ra ef ep
  generalize (fmtT t).map sV = F at *
  generalize R.map sV = R' at *
  have q1 : (((H + 5 : Nat) : Int) = t.g.x.b.h + 5) = True := eq_true (by omega)
  have q2 : ((H : Int) = t.g.x.b.h) = True := eq_true (by omega)
  refine pc_of Tryz.func4 rfl (by kernel_rfl) _ Tryz.ntmps4 (by simp) ?_
  repeat' first
    | (first | simp -implicitDefEqProofs only [hb0, fl', rl', q1, q2, go_sem] | (refine And.intro ?_ ?_; omega) | (refine And.intro (shr_bd ?_ ?_) ?_; omega; omega) | refine sl_list rfl ?_ | refine sd_list rfl ?_ | refine sl_str ?_ | refine sd_str ?_)
    | refine callS (lawBig_c bs) rfl rfl rfl ?_
    | refine callV pd rfl rfl rfl ?_
    | refine callL1 pF rfl rfl rfl ?_
    | refine callL1 pP rfl rfl rfl ?_
    | refine draw_stepY Tryz.pl_follows (by kernel_rfl) ?_
    | refine callS (iNowOf_c t.g tS.tb.g) rfl rfl rfl ?_
  refine loop_step (X := Nat) (fun i => ⟨118, [(3, .s (.c (.p 3 0))), (5, vO 18), (6, .s (.c (.p 6 0))), (7, .s (.c (.v (.int .i64 t.g.x.b.h)))), (8, vO 29), (9, vN i)], ⟨[(3, tbL t), (6, brdC t.g.x.b)], [(18, ⟨9, 1, F, false, true⟩), (29, ⟨9, 1, R', false, true⟩)]⟩⟩)
    (fun i => i ≤ H) (fun i => H - i) 0 (by omega) (weak_of (fun i => i) (fun i => i) rfl ⟨by simp [boxesR, listsR, csR, renC, keyC, optK, fnd, envR, St.get, keyPV, keyV1, renPV, renV1, hasKey, made_zero] <;> omega, by simp [boxesR, listsR, csR, renC, keyC, optK, fnd, envR, St.get, keyPV, keyV1, renPV, renV1, hasKey, made_zero] <;> omega, by simp [boxesR, listsR, csR, renC, keyC, optK, fnd, envR, St.get, keyPV, keyV1, renPV, renV1, hasKey, made_zero] <;> omega, by simp [boxesR, listsR, csR, renC, keyC, optK, fnd, envR, St.get, keyPV, keyV1, renPV, renV1, hasKey, made_zero] <;> omega, by simp [boxesR, listsR, csR, renC, keyC, optK, fnd, envR, St.get, keyPV, keyV1, renPV, renV1, hasKey, made_zero] <;> omega⟩ (by simp [boxesR, listsR, csR, renC, keyC, optK, fnd, envR, St.get, keyPV, keyV1, renPV, renV1, hasKey, made_zero] <;> omega)) (fun i hi => ?_)
  by_cases hlt : i < H
  · have e0 : ((i : Int) < t.g.x.b.h) = True := eq_true (by omega)
    have m0 := k0 i hlt
    have m1 := k1 i hlt
    repeat' first
      | (first | simp -implicitDefEqProofs only [e0, m0, m1, fl', rl', sV, go_sem] | (refine And.intro ?_ ?_; omega) | (refine And.intro (shr_bd ?_ ?_) ?_; omega; omega) | refine sl_list rfl ?_ | refine sd_list rfl ?_ | refine sl_str ?_ | refine sd_str ?_)
      | refine draw_stepY Tryz.pl_follows (by kernel_rfl) ?_
    exact ⟨i + 1, by omega, by omega, weak_of (fun i => i) (fun i => i) rfl ⟨by simp [boxesR, listsR, csR, renC, keyC, optK, fnd, envR, St.get, keyPV, keyV1, renPV, renV1, hasKey, made_zero] <;> omega, by simp [boxesR, listsR, csR, renC, keyC, optK, fnd, envR, St.get, keyPV, keyV1, renPV, renV1, hasKey, made_zero] <;> omega, by simp [boxesR, listsR, csR, renC, keyC, optK, fnd, envR, St.get, keyPV, keyV1, renPV, renV1, hasKey, made_zero] <;> omega, by simp [boxesR, listsR, csR, renC, keyC, optK, fnd, envR, St.get, keyPV, keyV1, renPV, renV1, hasKey, made_zero] <;> omega, by simp [boxesR, listsR, csR, renC, keyC, optK, fnd, envR, St.get, keyPV, keyV1, renPV, renV1, hasKey, made_zero] <;> omega⟩ (by simp [boxesR, listsR, csR, renC, keyC, optK, fnd, envR, St.get, keyPV, keyV1, renPV, renV1, hasKey, made_zero] <;> omega)⟩
  · have e0 : ((i : Int) < t.g.x.b.h) = False := eq_false (by omega)
    repeat' first
      | (first | simp -implicitDefEqProofs only [e0, g0, g1, g2, g3, g4, fl', rl', sV, go_sem] | (refine And.intro ?_ ?_; omega) | (refine And.intro (shr_bd ?_ ?_) ?_; omega; omega) | refine sl_list rfl ?_ | refine sd_list rfl ?_ | refine sl_str ?_ | refine sd_str ?_)
      | refine draw_stepY Tryz.pl_follows (by kernel_rfl) ?_
      | refine callS (iGameText_c t.g.x.b t.g.j) rfl rfl rfl ?_
      | refine callS (iFI_c t.g.h (by omega) (by omega)) rfl rfl rfl ?_
      | refine callS (iFI_c t.g.u (by omega) (by omega)) rfl rfl rfl ?_
      | refine callS (iTimeText_c t.c.a) rfl rfl rfl ?_
      | refine callS (iFI_c (t.r.length : Int) (by omega) (by omega)) rfl rfl rfl ?_
    all_goals exact fin_scal rfl rfl
theorem fnSummaries.law_c {c : C} (h : TC (.l 1 false [.i .u8]) c) : PC Tryz.prog 4 [] [.c c] (vB true) ⟨[], []⟩ := by
  obtain ⟨bs, rfl, hb⟩ := lawBytes_of h
  exact lawSummaries_c bs hb
end Go.Proofs.YtnbopnipfegboaaGreatDoor
