/-
  The law on parts of a scenario: it can be stopped after any act and continued.
-/
import Derived.Test.YtnbopnipfegboaaGreatDoorB5
import Derived.Test.YtnbopnipfegboaaGreatDoorSD
namespace Go.Proofs.YtnbopnipfegboaaGreatDoor
open Go.PL
set_option linter.unusedSimpArgs false
set_option linter.unusedVariables false
theorem sameTexts_c (xs : List (List UInt8)) (hn : xs.length ≤ 4194304) : PC Tryz.prog 24 [] [.c (.l 1 (xs.map sV)), .c (.l 1 (xs.map sV))] (vB true) ⟨[], []⟩ := by
  refine pc_of Tryz.func24 rfl (by kernel_rfl) _ Tryz.ntmps24 (by simp) ?_
  (repeat' (first | simp -implicitDefEqProofs only [go_sem] | (refine And.intro ?_ ?_; omega) | (refine And.intro (shr_bd ?_ ?_) ?_; omega; omega) | refine sl_list rfl ?_ | refine sd_list rfl ?_ | refine sl_str ?_ | refine sd_str ?_))
  refine loop_step (X := Nat) (fun i => ⟨26, [(0, vL 1 (xs.map sV)), (1, vL 1 (xs.map sV)), (5, vN i)], ⟨[], []⟩⟩) (fun i => i ≤ xs.length) (fun i => xs.length - i) 0 (by omega) (weak_of (fun i => i) (fun i => i) rfl ⟨by simp [boxesR, listsR, csR, renC, keyC, optK, fnd, envR, St.get, keyPV, keyV1, renPV, renV1, hasKey, made_zero] <;> omega, by simp [boxesR, listsR, csR, renC, keyC, optK, fnd, envR, St.get, keyPV, keyV1, renPV, renV1, hasKey, made_zero] <;> omega, by simp [boxesR, listsR, csR, renC, keyC, optK, fnd, envR, St.get, keyPV, keyV1, renPV, renV1, hasKey, made_zero] <;> omega, by simp [boxesR, listsR, csR, renC, keyC, optK, fnd, envR, St.get, keyPV, keyV1, renPV, renV1, hasKey, made_zero] <;> omega, by simp [boxesR, listsR, csR, renC, keyC, optK, fnd, envR, St.get, keyPV, keyV1, renPV, renV1, hasKey, made_zero] <;> omega⟩ (by simp [boxesR, listsR, csR, renC, keyC, optK, fnd, envR, St.get, keyPV, keyV1, renPV, renV1, hasKey, made_zero] <;> omega)) (fun i hi => ?_)
  by_cases hlt : i < xs.length
  · have e0 : ((i : Int) < xs.length) = True := eq_true (by omega)
    have g1 := map_get (f := sV) hlt
    generalize xs[i] = x at g1
    repeat' first
      | (first | simp -implicitDefEqProofs only [e0, g1, hlt, sV, go_sem] | (refine And.intro ?_ ?_; omega) | (refine And.intro (shr_bd ?_ ?_) ?_; omega; omega) | refine sl_list rfl ?_ | refine sd_list rfl ?_ | refine sl_str ?_ | refine sd_str ?_)
      | refine draw_stepY Tryz.pl_follows (by kernel_rfl) ?_
    exact ⟨i + 1, by omega, by omega, weak_of (fun i => i) (fun i => i) rfl ⟨by simp [boxesR, listsR, csR, renC, keyC, optK, fnd, envR, St.get, keyPV, keyV1, renPV, renV1, hasKey, made_zero] <;> omega, by simp [boxesR, listsR, csR, renC, keyC, optK, fnd, envR, St.get, keyPV, keyV1, renPV, renV1, hasKey, made_zero] <;> omega, by simp [boxesR, listsR, csR, renC, keyC, optK, fnd, envR, St.get, keyPV, keyV1, renPV, renV1, hasKey, made_zero] <;> omega, by simp [boxesR, listsR, csR, renC, keyC, optK, fnd, envR, St.get, keyPV, keyV1, renPV, renV1, hasKey, made_zero] <;> omega, by simp [boxesR, listsR, csR, renC, keyC, optK, fnd, envR, St.get, keyPV, keyV1, renPV, renV1, hasKey, made_zero] <;> omega⟩ (by simp [boxesR, listsR, csR, renC, keyC, optK, fnd, envR, St.get, keyPV, keyV1, renPV, renV1, hasKey, made_zero] <;> omega)⟩
  · have e0 : ((i : Int) < xs.length) = False := eq_false (by omega)
    (repeat' (first | simp -implicitDefEqProofs only [e0, go_sem] | (refine And.intro ?_ ?_; omega) | (refine And.intro (shr_bd ?_ ?_) ?_; omega; omega) | refine sl_list rfl ?_ | refine sd_list rfl ?_ | refine sl_str ?_ | refine sd_str ?_))
    exact fin_scal rfl rfl
theorem sameIntsL_c (xs : List Int) (hn : xs.length ≤ 4194304) : PC Tryz.prog 25 [] [.c (.l 1 (xs.map iV)), .c (.l 1 (xs.map iV))] (vB true) ⟨[], []⟩ := by
  refine pc_of Tryz.func25 rfl (by kernel_rfl) _ Tryz.ntmps25 (by simp) ?_
  (repeat' (first | simp -implicitDefEqProofs only [go_sem] | (refine And.intro ?_ ?_; omega) | (refine And.intro (shr_bd ?_ ?_) ?_; omega; omega) | refine sl_list rfl ?_ | refine sd_list rfl ?_ | refine sl_str ?_ | refine sd_str ?_))
  refine loop_step (X := Nat) (fun i => ⟨26, [(0, vL 1 (xs.map iV)), (1, vL 1 (xs.map iV)), (5, vN i)], ⟨[], []⟩⟩) (fun i => i ≤ xs.length) (fun i => xs.length - i) 0 (by omega) (weak_of (fun i => i) (fun i => i) rfl ⟨by simp [boxesR, listsR, csR, renC, keyC, optK, fnd, envR, St.get, keyPV, keyV1, renPV, renV1, hasKey, made_zero] <;> omega, by simp [boxesR, listsR, csR, renC, keyC, optK, fnd, envR, St.get, keyPV, keyV1, renPV, renV1, hasKey, made_zero] <;> omega, by simp [boxesR, listsR, csR, renC, keyC, optK, fnd, envR, St.get, keyPV, keyV1, renPV, renV1, hasKey, made_zero] <;> omega, by simp [boxesR, listsR, csR, renC, keyC, optK, fnd, envR, St.get, keyPV, keyV1, renPV, renV1, hasKey, made_zero] <;> omega, by simp [boxesR, listsR, csR, renC, keyC, optK, fnd, envR, St.get, keyPV, keyV1, renPV, renV1, hasKey, made_zero] <;> omega⟩ (by simp [boxesR, listsR, csR, renC, keyC, optK, fnd, envR, St.get, keyPV, keyV1, renPV, renV1, hasKey, made_zero] <;> omega)) (fun i hi => ?_)
  by_cases hlt : i < xs.length
  · have e0 : ((i : Int) < xs.length) = True := eq_true (by omega)
    have g1 := map_get (f := iV) hlt
    generalize xs[i] = x at g1
    repeat' first
      | (first | simp -implicitDefEqProofs only [e0, g1, hlt, iV, go_sem] | (refine And.intro ?_ ?_; omega) | (refine And.intro (shr_bd ?_ ?_) ?_; omega; omega) | refine sl_list rfl ?_ | refine sd_list rfl ?_ | refine sl_str ?_ | refine sd_str ?_)
      | refine draw_stepY Tryz.pl_follows (by kernel_rfl) ?_
    exact ⟨i + 1, by omega, by omega, weak_of (fun i => i) (fun i => i) rfl ⟨by simp [boxesR, listsR, csR, renC, keyC, optK, fnd, envR, St.get, keyPV, keyV1, renPV, renV1, hasKey, made_zero] <;> omega, by simp [boxesR, listsR, csR, renC, keyC, optK, fnd, envR, St.get, keyPV, keyV1, renPV, renV1, hasKey, made_zero] <;> omega, by simp [boxesR, listsR, csR, renC, keyC, optK, fnd, envR, St.get, keyPV, keyV1, renPV, renV1, hasKey, made_zero] <;> omega, by simp [boxesR, listsR, csR, renC, keyC, optK, fnd, envR, St.get, keyPV, keyV1, renPV, renV1, hasKey, made_zero] <;> omega, by simp [boxesR, listsR, csR, renC, keyC, optK, fnd, envR, St.get, keyPV, keyV1, renPV, renV1, hasKey, made_zero] <;> omega⟩ (by simp [boxesR, listsR, csR, renC, keyC, optK, fnd, envR, St.get, keyPV, keyV1, renPV, renV1, hasKey, made_zero] <;> omega)⟩
  · have e0 : ((i : Int) < xs.length) = False := eq_false (by omega)
    (repeat' (first | simp -implicitDefEqProofs only [e0, go_sem] | (refine And.intro ?_ ?_; omega) | (refine And.intro (shr_bd ?_ ?_) ?_; omega; omega) | refine sl_list rfl ?_ | refine sd_list rfl ?_ | refine sl_str ?_ | refine sd_str ?_))
    exact fin_scal rfl rfl
/-- a scenario in two parts -/
theorem runs_parts {t : Tb} {l : List Ac} {k : Nat} (ht : tableOk t = true) (hl : l.length ≤ 15) :
    runsT (runsT t (l.take k)) (l.drop k) = runsT t l ∧ runsN t (l.take k) ++ runsN (runsT t (l.take k)) (l.drop k) = runsN t l := by
  obtain ⟨_, a1, a2⟩ := runs_eq ht (l := l) (by omega)
  obtain ⟨_, b1, b2⟩ := runs_eq ht (l := l.take k) (by rw [List.length_take]; omega)
  have hx := runT_ok (l := l.take k) ht
  obtain ⟨_, c1, c2⟩ := runs_eq hx (l := l.drop k) (by rw [List.length_drop]; omega)
  rw [b1, a1, a2, b2, c1, c2, ← runT_app, ← runN_app, List.take_append_drop]
  exact ⟨rfl, rfl⟩
set_option maxHeartbeats 64000000 in
theorem lawActParts_c (bs : List Nat) (hbs : ∀ b ∈ bs, b ≤ 255) : PC Tryz.prog 5 [] [.c (.l 1 (bs.map bV))] (vB true) ⟨[], []⟩ := by
  by_cases hn : (1048576 : Int) < bs.length
  · refine pc_of Tryz.func5 rfl (by kernel_rfl) _ Tryz.ntmps5 (by simp) ?_
    repeat' first
      | (first | simp -implicitDefEqProofs only [hn, go_sem] | (refine And.intro ?_ ?_; omega) | (refine And.intro (shr_bd ?_ ?_) ?_; omega; omega) | refine sl_list rfl ?_ | refine sd_list rfl ?_ | refine sl_str ?_ | refine sd_str ?_)
      | refine callS (lawBig_c bs) rfl rfl rfl ?_
    exact fin_scal rfl rfl
  obtain ⟨t, acs, ⟨ht, hl, _⟩, pd⟩ := drawActs_ex ⟨bs, hbs, by omega⟩
  obtain ⟨ns, nl, nr, pp⟩ := DrawPlaces_ex ⟨bs, hbs, by omega⟩
  have hb0 : ((1048576 : Int) < bs.length) = False := eq_false hn
  obtain ⟨m, nt, rfl⟩ : ∃ m nt, ns = m :: nt := by
    cases ns with
    | nil => simp at nl
    | cons m nt => exact ⟨m, nt, rfl⟩
  have mr := nr m (by simp)
  obtain ⟨K, eK⟩ : ∃ K : Nat, m % ((acs.length : Int) + 1) = K := ⟨(m % ((acs.length : Int) + 1)).toNat, by have := Int.emod_nonneg m (show (acs.length : Int) + 1 ≠ 0 by omega); omega⟩
  have hK : K ≤ acs.length := by have := Int.emod_lt_of_pos m (show (0 : Int) < (acs.length : Int) + 1 by omega); omega
  have ts := tbS_of ht
  obtain ⟨_, r1, r2⟩ := runs_eq ht (l := acs) (by omega)
  have hx := runT_ok (l := acs) ht
  rw [← r1] at hx
  have xs := tbS_of hx
  have kl : (acs.take K).length ≤ 40 := by rw [List.length_take]; omega
  obtain ⟨_, k1, k2⟩ := runs_eq ht (l := acs.take K) kl
  have hk := runT_ok (l := acs.take K) ht
  rw [← k1] at hk
  have ks := tbS_of hk
  obtain ⟨er, en⟩ := runs_parts (k := K) ht hl
  have dl : (acs.drop K).length ≤ 1048576 := by rw [List.length_drop]; omega
  have nl2 : (runsN t acs).length ≤ 4194304 := by rw [r2, runN_len]; omega
  have nA : (runsN t (acs.take K)).length ≤ 15 := by rw [k2, runN_len, List.length_take]; omega
  have nB : (runsN (runsT t (acs.take K)) (acs.drop K)).length ≤ 15 := by
    obtain ⟨_, _, c2⟩ := runs_eq hk (l := acs.drop K) (by rw [List.length_drop]; omega)
    rw [c2, runN_len, List.length_drop]; omega
  have p1 := fun d e f h1 h2 h3 => iRunActs_c d e f h1 h2 h3 t acs ts (by omega)
  have p2 := fun d e f h1 h2 h3 => iRunActs_c d e f h1 h2 h3 t (acs.take K) ts (by omega)
  have p3 := fun d e f h1 h2 h3 => iRunActs_c d e f h1 h2 h3 (runsT t (acs.take K)) (acs.drop K) ks dl
  rw [er] at p3
  have en' : (runsN t (acs.take K)).map iV ++ (runsN (runsT t (acs.take K)) (acs.drop K)).map iV = (runsN t acs).map iV := by rw [← List.map_append, en]
  have pf := fun d => iFormatTable_c d (runsT t acs) xs
  have fl : (fmtT (runsT t acs)).length ≤ 12 ∧ 5 ≤ (fmtT (runsT t acs)).length := by
    obtain ⟨_, _, c1, c2⟩ := tb_nums hx
    have pl := posT_len (b := (runsT t acs).g.x.b) (p := nowOf (runsT t acs).g)
    have e : fmtT (runsT t acs) = posT (runsT t acs).g.x.b (nowOf (runsT t acs).g) ++ [lineJ (runsT t acs), lineH (runsT t acs), lineB (runsT t acs), lineT (runsT t acs), lineR (runsT t acs)] := by simp [fmtT, hx]
    rw [e, List.length_append]
    simp only [List.length_cons, List.length_nil]
    omega
  have st := sameTexts_c (fmtT (runsT t acs)) (by omega)
  have si := sameIntsL_c (runsN t acs) nl2
  have g0 : (((m :: nt).map iV)[0]?) = some (iV m) := rfl
  have l0 : (0 < ((m :: nt).map iV).length) = True := eq_true (by simp)
  have s1 : ((acs.map actV).take K) = (acs.take K).map actV := List.map_take.symm
  have s3 : ((acs.map actV).take acs.length) = acs.map actV := List.take_of_length_le (by simp)
  have s2 : ((acs.map actV).drop K) = (acs.drop K).map actV := List.map_drop.symm
  have q0 : ((0 : Int) < ((fmtT (runsT t acs)).length : Int)) = True := eq_true (by omega)
  refine pc_of Tryz.func5 rfl (by kernel_rfl) _ Tryz.ntmps5 (by simp) ?_
  repeat' first
    | (first | simp -implicitDefEqProofs only [hb0, g0, l0, eK, hK, s1, s2, s3, q0, en', iV, List.length_map, go_sem] | (refine And.intro ?_ ?_; omega) | (refine And.intro (shr_bd ?_ ?_) ?_; omega; omega) | refine sl_list rfl ?_ | refine sd_list rfl ?_ | refine sl_str ?_ | refine sd_str ?_)
    | refine callS (lawBig_c bs) rfl rfl rfl ?_
    | refine callV pd rfl rfl rfl ?_
    | refine callV pp rfl rfl rfl ?_
    | refine callL3 p1 rfl rfl rfl ?_
    | refine draw_stepY Tryz.pl_follows (by kernel_rfl) ?_
    | refine callL3 p2 rfl rfl rfl ?_
    | refine callL3 p3 rfl rfl rfl ?_
    | refine callL1 pf rfl rfl rfl ?_
    | refine callS st rfl rfl rfl ?_
    | refine callS si rfl rfl rfl ?_
  all_goals exact fin_scal rfl rfl
theorem fnActParts.law_c {c : C} (h : TC (.l 1 false [.i .u8]) c) : PC Tryz.prog 5 [] [.c c] (vB true) ⟨[], []⟩ := by
  obtain ⟨bs, rfl, hb⟩ := lawBytes_of h
  exact lawActParts_c bs hb
end Go.Proofs.YtnbopnipfegboaaGreatDoor
