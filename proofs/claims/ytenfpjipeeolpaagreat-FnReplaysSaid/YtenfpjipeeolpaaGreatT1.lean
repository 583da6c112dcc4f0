/-
  What the functions compute that carry out an act on a table.
-/
import Derived.Test.YtenfpjipeeolpaaGreatR4
import Derived.Test.YtenfpjipeeolpaaGreatR5
import Derived.Test.YtenfpjipeeolpaaGreatTAe
namespace Go.Proofs.YtenfpjipeeolpaaGreat
open Go.PL
set_option linter.unusedSimpArgs false
def b2i (b : Bool) : Int := if b = true then 1 else 0
theorem l39Bool_c (b : Bool) : PC Tryz.prog 64 [] [.c (.v (.bool b))] (vN (b2i b)) ⟨[], []⟩ := by
  refine pc_of Tryz.func64 rfl (by kernel_rfl) _ Tryz.ntmps64 (by simp) ?_
  cases b <;> ((repeat' (first | simp -implicitDefEqProofs only [go_sem] | (refine And.intro ?_ ?_; omega) | (refine And.intro (shr_bd ?_ ?_) ?_; omega; omega) | refine sl_list rfl ?_ | refine sd_list rfl ?_ | refine sl_str ?_ | refine sd_str ?_)); exact fin_scal rfl rfl)
theorem numberOf_c (b : Bool) : PC Tryz.prog 41 [] [.c (.v (.bool b))] (vN (b2i b)) ⟨[], []⟩ := by
  refine pc_of Tryz.func41 rfl (by kernel_rfl) _ Tryz.ntmps41 (by simp) ?_
  cases b <;> ((repeat' (first | simp -implicitDefEqProofs only [go_sem] | (refine And.intro ?_ ?_; omega) | (refine And.intro (shr_bd ?_ ?_) ?_; omega; omega) | refine sl_list rfl ?_ | refine sd_list rfl ?_ | refine sl_str ?_ | refine sd_str ?_)); exact fin_scal rfl rfl)
noncomputable def doT (t : Tb) (a : Ac) : Tb :=
  if tableOk t = true ∧ actOk a.k a.a a.b = true then
    if a.k = 1 then (if (lineBetween t.g.x.b a.a a.b).isSome = true then playT t (lineO (lineBetween t.g.x.b a.a a.b)) 1 else t)
    else if a.k = 2 then askT t a.a
    else if a.k = 3 then stepT t
    else if a.k = 4 then claimT t a.a a.b
    else t
  else t
noncomputable def doN (t : Tb) (a : Ac) : Int :=
  if tableOk t = true ∧ actOk a.k a.a a.b = true then
    if a.k = 1 then (if (lineBetween t.g.x.b a.a a.b).isSome = true then b2i (playOk t (lineO (lineBetween t.g.x.b a.a a.b)) 1) else b2i false)
    else if a.k = 2 then b2i (askOk t a.a)
    else if a.k = 3 then b2i (stepOk t)
    else if a.k = 4 then b2i (claimOk t a.a a.b)
    else nowOf t.g
  else -1
theorem doT_len {t : Tb} {a : Ac} (h : TbS t) : (doT t a).g.j.length ≤ 1048577 ∧ (doT t a).r.length ≤ 1048576 := by
  have h2 := h.j
  have h3 := h.r
  unfold doT
  repeat' split
  · exact playT_len h
  · exact ⟨by omega, h3⟩
  · exact askT_len h
  · have := stepT_len h; exact ⟨by omega, this.2⟩
  · exact claimT_len h
  · exact ⟨by omega, h3⟩
  · exact ⟨by omega, h3⟩
set_option maxHeartbeats 8000000 in
theorem DoAct_c (d e : Nat) (hde : d ≠ e) (t : Tb) (a : Ac) (ht : TbS t) : PC Tryz.prog 31 [] [.a (tbL t), .a (actC a)] (.t [.a (tbC (doT t a) (.o d) (.o e)), .c (.v (.int .i64 (doN t a)))])
    ⟨[], [(d, ⟨71, 3, (doT t a).g.j.map lineV, false, true⟩), (e, ⟨86, 4, (doT t a).r.map recV, false, true⟩)]⟩ := by
  have hed : e ≠ d := fun h => hde h.symm
  have hj := ht.j
  have hr := ht.r
  refine pc_of Tryz.func31 rfl (by kernel_rfl) _ Tryz.ntmps31 (by simp) ?_
  repeat' first
    | (first | simp -implicitDefEqProofs only [go_sem] | (refine And.intro ?_ ?_; omega) | (refine And.intro (shr_bd ?_ ?_) ?_; omega; omega) | refine sl_list rfl ?_ | refine sd_list rfl ?_ | refine sl_str ?_ | refine sd_str ?_)
    | refine callL2 (fun d e h => l38Copy_c d e h t (by omega) hr) rfl rfl rfl ?_
  refine callS (TableOk_c t ht.tb) rfl rfl rfl ?_
  by_cases h : tableOk t = true
  rotate_left
  · have e1 : doT t a = t := by simp [doT, h]
    have e2 : doN t a = -1 := by simp [doN, h]
    (repeat' (first | simp -implicitDefEqProofs only [h, go_sem] | (refine And.intro ?_ ?_; omega) | (refine And.intro (shr_bd ?_ ?_) ?_; omega; omega) | refine sl_list rfl ?_ | refine sd_list rfl ?_ | refine sl_str ?_ | refine sd_str ?_))
    exact fin_of (fun i => i) (fun i => if i = d then 11 else 1011) ⟨by simp [boxesR, listsR, csR, renC, keyC, optK, fnd, envR, St.get, keyPV, keyV1, renPV, renV1, hasKey, made_zero, e1, e2, hde, hed] <;> omega, by simp [boxesR, listsR, csR, renC, keyC, optK, fnd, envR, St.get, keyPV, keyV1, renPV, renV1, hasKey, made_zero, e1, e2, hde, hed] <;> omega, by simp [boxesR, listsR, csR, renC, keyC, optK, fnd, envR, St.get, keyPV, keyV1, renPV, renV1, hasKey, made_zero, e1, e2, hde, hed] <;> omega, by simp [boxesR, listsR, csR, renC, keyC, optK, fnd, envR, St.get, keyPV, keyV1, renPV, renV1, hasKey, made_zero, e1, e2, hde, hed] <;> omega, by simp [boxesR, listsR, csR, renC, keyC, optK, fnd, envR, St.get, keyPV, keyV1, renPV, renV1, hasKey, made_zero, e1, e2, hde, hed] <;> omega⟩ (by simp [boxesR, listsR, csR, renC, keyC, optK, fnd, envR, St.get, keyPV, keyV1, renPV, renV1, hasKey, made_zero, e1, e2, hde, hed] <;> omega) (by first | rfl | (simp [renPV, renV1, renC, e1, e2, hde, hed]))
  (repeat' (first | simp -implicitDefEqProofs only [h, go_sem] | (refine And.intro ?_ ?_; omega) | (refine And.intro (shr_bd ?_ ?_) ?_; omega; omega) | refine sl_list rfl ?_ | refine sd_list rfl ?_ | refine sl_str ?_ | refine sd_str ?_))
  refine callS (ActOk_c a.k a.a a.b) rfl rfl rfl ?_
  by_cases ha : actOk a.k a.a a.b = true
  rotate_left
  · have e1 : doT t a = t := by simp [doT, ha]
    have e2 : doN t a = -1 := by simp [doN, ha]
    (repeat' (first | simp -implicitDefEqProofs only [ha, go_sem] | (refine And.intro ?_ ?_; omega) | (refine And.intro (shr_bd ?_ ?_) ?_; omega; omega) | refine sl_list rfl ?_ | refine sd_list rfl ?_ | refine sl_str ?_ | refine sd_str ?_))
    exact fin_of (fun i => i) (fun i => if i = d then 11 else 1011) ⟨by simp [boxesR, listsR, csR, renC, keyC, optK, fnd, envR, St.get, keyPV, keyV1, renPV, renV1, hasKey, made_zero, e1, e2, hde, hed] <;> omega, by simp [boxesR, listsR, csR, renC, keyC, optK, fnd, envR, St.get, keyPV, keyV1, renPV, renV1, hasKey, made_zero, e1, e2, hde, hed] <;> omega, by simp [boxesR, listsR, csR, renC, keyC, optK, fnd, envR, St.get, keyPV, keyV1, renPV, renV1, hasKey, made_zero, e1, e2, hde, hed] <;> omega, by simp [boxesR, listsR, csR, renC, keyC, optK, fnd, envR, St.get, keyPV, keyV1, renPV, renV1, hasKey, made_zero, e1, e2, hde, hed] <;> omega, by simp [boxesR, listsR, csR, renC, keyC, optK, fnd, envR, St.get, keyPV, keyV1, renPV, renV1, hasKey, made_zero, e1, e2, hde, hed] <;> omega⟩ (by simp [boxesR, listsR, csR, renC, keyC, optK, fnd, envR, St.get, keyPV, keyV1, renPV, renV1, hasKey, made_zero, e1, e2, hde, hed] <;> omega) (by first | rfl | (simp [renPV, renV1, renC, e1, e2, hde, hed]))
  have hh : tableOk t = true ∧ actOk a.k a.a a.b = true := ⟨h, ha⟩
  (repeat' (first | simp -implicitDefEqProofs only [ha, go_sem] | (refine And.intro ?_ ?_; omega) | (refine And.intro (shr_bd ?_ ?_) ?_; omega; omega) | refine sl_list rfl ?_ | refine sd_list rfl ?_ | refine sl_str ?_ | refine sd_str ?_))
  by_cases k1 : a.k = 1
  · by_cases hb : (lineBetween t.g.x.b a.a a.b).isSome = true
    · have e1 : doT t a = playT t (lineO (lineBetween t.g.x.b a.a a.b)) 1 := by unfold doT; rw [if_pos hh, if_pos k1, if_pos hb]
      have e2 : doN t a = b2i (playOk t (lineO (lineBetween t.g.x.b a.a a.b)) 1) := by unfold doN; rw [if_pos hh, if_pos k1, if_pos hb]
      repeat' first
        | (first | simp -implicitDefEqProofs only [k1, hb, go_sem] | (refine And.intro ?_ ?_; omega) | (refine And.intro (shr_bd ?_ ?_) ?_; omega; omega) | refine sl_list rfl ?_ | refine sd_list rfl ?_ | refine sl_str ?_ | refine sd_str ?_)
        | refine callS (LineBetween_c t.g.x.b a.a a.b) rfl rfl rfl ?_
        | refine callL2 (fun d e h => PlayJump_c d e h t (lineO (lineBetween t.g.x.b a.a a.b)) 1 ht) rfl rfl rfl ?_
        | refine draw_stepY Tryz.pl_follows (by kernel_rfl) ?_
        | refine callS (l39Bool_c _) rfl rfl rfl ?_
      exact fin_of (fun i => i) (fun i => if i = d then 41 else 1041) ⟨by simp [boxesR, listsR, csR, renC, keyC, optK, fnd, envR, St.get, keyPV, keyV1, renPV, renV1, hasKey, made_zero, e1, e2, hde, hed] <;> omega, by simp [boxesR, listsR, csR, renC, keyC, optK, fnd, envR, St.get, keyPV, keyV1, renPV, renV1, hasKey, made_zero, e1, e2, hde, hed] <;> omega, by simp [boxesR, listsR, csR, renC, keyC, optK, fnd, envR, St.get, keyPV, keyV1, renPV, renV1, hasKey, made_zero, e1, e2, hde, hed] <;> omega, by simp [boxesR, listsR, csR, renC, keyC, optK, fnd, envR, St.get, keyPV, keyV1, renPV, renV1, hasKey, made_zero, e1, e2, hde, hed] <;> omega, by simp [boxesR, listsR, csR, renC, keyC, optK, fnd, envR, St.get, keyPV, keyV1, renPV, renV1, hasKey, made_zero, e1, e2, hde, hed] <;> omega⟩ (by simp [boxesR, listsR, csR, renC, keyC, optK, fnd, envR, St.get, keyPV, keyV1, renPV, renV1, hasKey, made_zero, e1, e2, hde, hed] <;> omega) (by first | rfl | (simp [renPV, renV1, renC, e1, e2, hde, hed]))
    · have e1 : doT t a = t := by unfold doT; rw [if_pos hh, if_pos k1, if_neg hb]
      have e2 : doN t a = b2i false := by unfold doN; rw [if_pos hh, if_pos k1, if_neg hb]
      repeat' first
        | (first | simp -implicitDefEqProofs only [k1, hb, go_sem] | (refine And.intro ?_ ?_; omega) | (refine And.intro (shr_bd ?_ ?_) ?_; omega; omega) | refine sl_list rfl ?_ | refine sd_list rfl ?_ | refine sl_str ?_ | refine sd_str ?_)
        | refine callS (LineBetween_c t.g.x.b a.a a.b) rfl rfl rfl ?_
        | refine draw_stepY Tryz.pl_follows (by kernel_rfl) ?_
        | refine callS (l39Bool_c _) rfl rfl rfl ?_
      exact fin_of (fun i => i) (fun i => if i = d then 11 else 1011) ⟨by simp [boxesR, listsR, csR, renC, keyC, optK, fnd, envR, St.get, keyPV, keyV1, renPV, renV1, hasKey, made_zero, e1, e2, hde, hed] <;> omega, by simp [boxesR, listsR, csR, renC, keyC, optK, fnd, envR, St.get, keyPV, keyV1, renPV, renV1, hasKey, made_zero, e1, e2, hde, hed] <;> omega, by simp [boxesR, listsR, csR, renC, keyC, optK, fnd, envR, St.get, keyPV, keyV1, renPV, renV1, hasKey, made_zero, e1, e2, hde, hed] <;> omega, by simp [boxesR, listsR, csR, renC, keyC, optK, fnd, envR, St.get, keyPV, keyV1, renPV, renV1, hasKey, made_zero, e1, e2, hde, hed] <;> omega, by simp [boxesR, listsR, csR, renC, keyC, optK, fnd, envR, St.get, keyPV, keyV1, renPV, renV1, hasKey, made_zero, e1, e2, hde, hed] <;> omega⟩ (by simp [boxesR, listsR, csR, renC, keyC, optK, fnd, envR, St.get, keyPV, keyV1, renPV, renV1, hasKey, made_zero, e1, e2, hde, hed] <;> omega) (by first | rfl | (simp [renPV, renV1, renC, e1, e2, hde, hed]))
  by_cases k2 : a.k = 2
  · have e1 : doT t a = askT t a.a := by unfold doT; rw [if_pos hh, if_neg k1, if_pos k2]
    have e2 : doN t a = b2i (askOk t a.a) := by unfold doN; rw [if_pos hh, if_neg k1, if_pos k2]
    repeat' first
      | (first | simp -implicitDefEqProofs only [k1, k2, go_sem] | (refine And.intro ?_ ?_; omega) | (refine And.intro (shr_bd ?_ ?_) ?_; omega; omega) | refine sl_list rfl ?_ | refine sd_list rfl ?_ | refine sl_str ?_ | refine sd_str ?_)
      | refine callL2 (fun d e h => AskHint_c d e h t a.a ht) rfl rfl rfl ?_
      | refine draw_stepY Tryz.pl_follows (by kernel_rfl) ?_
      | refine callS (l39Bool_c _) rfl rfl rfl ?_
    exact fin_of (fun i => i) (fun i => if i = d then 50 else 1050) ⟨by simp [boxesR, listsR, csR, renC, keyC, optK, fnd, envR, St.get, keyPV, keyV1, renPV, renV1, hasKey, made_zero, e1, e2, hde, hed, k2] <;> omega, by simp [boxesR, listsR, csR, renC, keyC, optK, fnd, envR, St.get, keyPV, keyV1, renPV, renV1, hasKey, made_zero, e1, e2, hde, hed, k2] <;> omega, by simp [boxesR, listsR, csR, renC, keyC, optK, fnd, envR, St.get, keyPV, keyV1, renPV, renV1, hasKey, made_zero, e1, e2, hde, hed, k2] <;> omega, by simp [boxesR, listsR, csR, renC, keyC, optK, fnd, envR, St.get, keyPV, keyV1, renPV, renV1, hasKey, made_zero, e1, e2, hde, hed, k2] <;> omega, by simp [boxesR, listsR, csR, renC, keyC, optK, fnd, envR, St.get, keyPV, keyV1, renPV, renV1, hasKey, made_zero, e1, e2, hde, hed, k2] <;> omega⟩ (by simp [boxesR, listsR, csR, renC, keyC, optK, fnd, envR, St.get, keyPV, keyV1, renPV, renV1, hasKey, made_zero, e1, e2, hde, hed, k2] <;> omega) (by first | rfl | (simp [renPV, renV1, renC, e1, e2, hde, hed, k2]))
  by_cases k3 : a.k = 3
  · have e1 : doT t a = stepT t := by unfold doT; rw [if_pos hh, if_neg k1, if_neg k2, if_pos k3]
    have e2 : doN t a = b2i (stepOk t) := by unfold doN; rw [if_pos hh, if_neg k1, if_neg k2, if_pos k3]
    repeat' first
      | (first | simp -implicitDefEqProofs only [k1, k2, k3, go_sem] | (refine And.intro ?_ ?_; omega) | (refine And.intro (shr_bd ?_ ?_) ?_; omega; omega) | refine sl_list rfl ?_ | refine sd_list rfl ?_ | refine sl_str ?_ | refine sd_str ?_)
      | refine callL2 (fun d e h => StepBack_c d e h t ht) rfl rfl rfl ?_
      | refine draw_stepY Tryz.pl_follows (by kernel_rfl) ?_
      | refine callS (l39Bool_c _) rfl rfl rfl ?_
    exact fin_of (fun i => i) (fun i => if i = d then 57 else 1057) ⟨by simp [boxesR, listsR, csR, renC, keyC, optK, fnd, envR, St.get, keyPV, keyV1, renPV, renV1, hasKey, made_zero, e1, e2, hde, hed, k3] <;> omega, by simp [boxesR, listsR, csR, renC, keyC, optK, fnd, envR, St.get, keyPV, keyV1, renPV, renV1, hasKey, made_zero, e1, e2, hde, hed, k3] <;> omega, by simp [boxesR, listsR, csR, renC, keyC, optK, fnd, envR, St.get, keyPV, keyV1, renPV, renV1, hasKey, made_zero, e1, e2, hde, hed, k3] <;> omega, by simp [boxesR, listsR, csR, renC, keyC, optK, fnd, envR, St.get, keyPV, keyV1, renPV, renV1, hasKey, made_zero, e1, e2, hde, hed, k3] <;> omega, by simp [boxesR, listsR, csR, renC, keyC, optK, fnd, envR, St.get, keyPV, keyV1, renPV, renV1, hasKey, made_zero, e1, e2, hde, hed, k3] <;> omega⟩ (by simp [boxesR, listsR, csR, renC, keyC, optK, fnd, envR, St.get, keyPV, keyV1, renPV, renV1, hasKey, made_zero, e1, e2, hde, hed, k3] <;> omega) (by first | rfl | (simp [renPV, renV1, renC, e1, e2, hde, hed, k3]))
  by_cases k4 : a.k = 4
  · have e1 : doT t a = claimT t a.a a.b := by unfold doT; rw [if_pos hh, if_neg k1, if_neg k2, if_neg k3, if_pos k4]
    have e2 : doN t a = b2i (claimOk t a.a a.b) := by unfold doN; rw [if_pos hh, if_neg k1, if_neg k2, if_neg k3, if_pos k4]
    repeat' first
      | (first | simp -implicitDefEqProofs only [k1, k2, k3, k4, go_sem] | (refine And.intro ?_ ?_; omega) | (refine And.intro (shr_bd ?_ ?_) ?_; omega; omega) | refine sl_list rfl ?_ | refine sd_list rfl ?_ | refine sl_str ?_ | refine sd_str ?_)
      | refine callL2 (fun d e h => ClaimRecord_c d e h t a.a a.b ht) rfl rfl rfl ?_
      | refine draw_stepY Tryz.pl_follows (by kernel_rfl) ?_
      | refine callS (l39Bool_c _) rfl rfl rfl ?_
    exact fin_of (fun i => i) (fun i => if i = d then 68 else 1068) ⟨by simp [boxesR, listsR, csR, renC, keyC, optK, fnd, envR, St.get, keyPV, keyV1, renPV, renV1, hasKey, made_zero, e1, e2, hde, hed, k4] <;> omega, by simp [boxesR, listsR, csR, renC, keyC, optK, fnd, envR, St.get, keyPV, keyV1, renPV, renV1, hasKey, made_zero, e1, e2, hde, hed, k4] <;> omega, by simp [boxesR, listsR, csR, renC, keyC, optK, fnd, envR, St.get, keyPV, keyV1, renPV, renV1, hasKey, made_zero, e1, e2, hde, hed, k4] <;> omega, by simp [boxesR, listsR, csR, renC, keyC, optK, fnd, envR, St.get, keyPV, keyV1, renPV, renV1, hasKey, made_zero, e1, e2, hde, hed, k4] <;> omega, by simp [boxesR, listsR, csR, renC, keyC, optK, fnd, envR, St.get, keyPV, keyV1, renPV, renV1, hasKey, made_zero, e1, e2, hde, hed, k4] <;> omega⟩ (by simp [boxesR, listsR, csR, renC, keyC, optK, fnd, envR, St.get, keyPV, keyV1, renPV, renV1, hasKey, made_zero, e1, e2, hde, hed, k4] <;> omega) (by first | rfl | (simp [renPV, renV1, renC, e1, e2, hde, hed, k4]))
  have k5 : a.k = 5 := by
    apply Classical.byContradiction
    intro k5
    have hf : actOk a.k a.a a.b = false := by simp [actOk, k1, k2, k3, k4, k5]
    rw [ha] at hf
    cases hf
  have e1 : doT t a = t := by unfold doT; rw [if_pos hh, if_neg k1, if_neg k2, if_neg k3, if_neg k4]
  have e2 : doN t a = nowOf t.g := by unfold doN; rw [if_pos hh, if_neg k1, if_neg k2, if_neg k3, if_neg k4]
  repeat' first
    | (first | simp -implicitDefEqProofs only [k1, k2, k3, k4, k5, go_sem] | (refine And.intro ?_ ?_; omega) | (refine And.intro (shr_bd ?_ ?_) ?_; omega; omega) | refine sl_list rfl ?_ | refine sd_list rfl ?_ | refine sl_str ?_ | refine sd_str ?_)
    | refine draw_stepY Tryz.pl_follows (by kernel_rfl) ?_
    | refine callS (NowOf_c t.g ht.tb.g) rfl rfl rfl ?_
  exact fin_of (fun i => i) (fun i => if i = d then 11 else 1011) ⟨by simp [boxesR, listsR, csR, renC, keyC, optK, fnd, envR, St.get, keyPV, keyV1, renPV, renV1, hasKey, made_zero, e1, e2, hde, hed, k5] <;> omega, by simp [boxesR, listsR, csR, renC, keyC, optK, fnd, envR, St.get, keyPV, keyV1, renPV, renV1, hasKey, made_zero, e1, e2, hde, hed, k5] <;> omega, by simp [boxesR, listsR, csR, renC, keyC, optK, fnd, envR, St.get, keyPV, keyV1, renPV, renV1, hasKey, made_zero, e1, e2, hde, hed, k5] <;> omega, by simp [boxesR, listsR, csR, renC, keyC, optK, fnd, envR, St.get, keyPV, keyV1, renPV, renV1, hasKey, made_zero, e1, e2, hde, hed, k5] <;> omega, by simp [boxesR, listsR, csR, renC, keyC, optK, fnd, envR, St.get, keyPV, keyV1, renPV, renV1, hasKey, made_zero, e1, e2, hde, hed, k5] <;> omega⟩ (by simp [boxesR, listsR, csR, renC, keyC, optK, fnd, envR, St.get, keyPV, keyV1, renPV, renV1, hasKey, made_zero, e1, e2, hde, hed, k5] <;> omega) (by first | rfl | (simp [renPV, renV1, renC, e1, e2, hde, hed, k5]))
set_option maxHeartbeats 8000000 in
theorem iDoAct_c (d e : Nat) (hde : d ≠ e) (t : Tb) (a : Ac) (ht : TbS t) : PC Tryz.prog 16 [] [.a (tbL t), .a (actC a)] (.t [.a (tbC (doT t a) (.o d) (.o e)), .c (.v (.int .i64 (doN t a)))])
    ⟨[], [(d, ⟨71, 3, (doT t a).g.j.map lineV, false, true⟩), (e, ⟨86, 4, (doT t a).r.map recV, false, true⟩)]⟩ := by
  have hed : e ≠ d := fun h => hde h.symm
  have hj := ht.j
  have hr := ht.r
  refine pc_of Tryz.func16 rfl (by kernel_rfl) _ Tryz.ntmps16 (by simp) ?_
  (repeat' (first | simp -implicitDefEqProofs only [go_sem] | (refine And.intro ?_ ?_; omega) | (refine And.intro (shr_bd ?_ ?_) ?_; omega; omega) | refine sl_list rfl ?_ | refine sd_list rfl ?_ | refine sl_str ?_ | refine sd_str ?_))
  refine callS (iTableOk_c t ht.tb) rfl rfl rfl ?_
  by_cases h : tableOk t = true
  rotate_left
  · have e1 : doT t a = t := by simp [doT, h]
    have e2 : doN t a = -1 := by simp [doN, h]
    repeat' first
      | (first | simp -implicitDefEqProofs only [h, go_sem] | (refine And.intro ?_ ?_; omega) | (refine And.intro (shr_bd ?_ ?_) ?_; omega; omega) | refine sl_list rfl ?_ | refine sd_list rfl ?_ | refine sl_str ?_ | refine sd_str ?_)
      | refine callL2 (fun d e h => iCopyTable_c d e h t (by omega) hr) rfl rfl rfl ?_
    exact fin_of (fun i => i) (fun i => if i = d then 19 else 1019) ⟨by simp [boxesR, listsR, csR, renC, keyC, optK, fnd, envR, St.get, keyPV, keyV1, renPV, renV1, hasKey, made_zero, e1, e2, hde, hed] <;> omega, by simp [boxesR, listsR, csR, renC, keyC, optK, fnd, envR, St.get, keyPV, keyV1, renPV, renV1, hasKey, made_zero, e1, e2, hde, hed] <;> omega, by simp [boxesR, listsR, csR, renC, keyC, optK, fnd, envR, St.get, keyPV, keyV1, renPV, renV1, hasKey, made_zero, e1, e2, hde, hed] <;> omega, by simp [boxesR, listsR, csR, renC, keyC, optK, fnd, envR, St.get, keyPV, keyV1, renPV, renV1, hasKey, made_zero, e1, e2, hde, hed] <;> omega, by simp [boxesR, listsR, csR, renC, keyC, optK, fnd, envR, St.get, keyPV, keyV1, renPV, renV1, hasKey, made_zero, e1, e2, hde, hed] <;> omega⟩ (by simp [boxesR, listsR, csR, renC, keyC, optK, fnd, envR, St.get, keyPV, keyV1, renPV, renV1, hasKey, made_zero, e1, e2, hde, hed] <;> omega) (by first | rfl | (simp [renPV, renV1, renC, e1, e2, hde, hed]))
  (repeat' (first | simp -implicitDefEqProofs only [h, go_sem] | (refine And.intro ?_ ?_; omega) | (refine And.intro (shr_bd ?_ ?_) ?_; omega; omega) | refine sl_list rfl ?_ | refine sd_list rfl ?_ | refine sl_str ?_ | refine sd_str ?_))
  refine callS (iActOk_c a.k a.a a.b) rfl rfl rfl ?_
  by_cases ha : actOk a.k a.a a.b = true
  rotate_left
  · have e1 : doT t a = t := by simp [doT, ha]
    have e2 : doN t a = -1 := by simp [doN, ha]
    repeat' first
      | (first | simp -implicitDefEqProofs only [ha, go_sem] | (refine And.intro ?_ ?_; omega) | (refine And.intro (shr_bd ?_ ?_) ?_; omega; omega) | refine sl_list rfl ?_ | refine sd_list rfl ?_ | refine sl_str ?_ | refine sd_str ?_)
      | refine callL2 (fun d e h => iCopyTable_c d e h t (by omega) hr) rfl rfl rfl ?_
    exact fin_of (fun i => i) (fun i => if i = d then 19 else 1019) ⟨by simp [boxesR, listsR, csR, renC, keyC, optK, fnd, envR, St.get, keyPV, keyV1, renPV, renV1, hasKey, made_zero, e1, e2, hde, hed] <;> omega, by simp [boxesR, listsR, csR, renC, keyC, optK, fnd, envR, St.get, keyPV, keyV1, renPV, renV1, hasKey, made_zero, e1, e2, hde, hed] <;> omega, by simp [boxesR, listsR, csR, renC, keyC, optK, fnd, envR, St.get, keyPV, keyV1, renPV, renV1, hasKey, made_zero, e1, e2, hde, hed] <;> omega, by simp [boxesR, listsR, csR, renC, keyC, optK, fnd, envR, St.get, keyPV, keyV1, renPV, renV1, hasKey, made_zero, e1, e2, hde, hed] <;> omega, by simp [boxesR, listsR, csR, renC, keyC, optK, fnd, envR, St.get, keyPV, keyV1, renPV, renV1, hasKey, made_zero, e1, e2, hde, hed] <;> omega⟩ (by simp [boxesR, listsR, csR, renC, keyC, optK, fnd, envR, St.get, keyPV, keyV1, renPV, renV1, hasKey, made_zero, e1, e2, hde, hed] <;> omega) (by first | rfl | (simp [renPV, renV1, renC, e1, e2, hde, hed]))
  have hh : tableOk t = true ∧ actOk a.k a.a a.b = true := ⟨h, ha⟩
  (repeat' (first | simp -implicitDefEqProofs only [ha, go_sem] | (refine And.intro ?_ ?_; omega) | (refine And.intro (shr_bd ?_ ?_) ?_; omega; omega) | refine sl_list rfl ?_ | refine sd_list rfl ?_ | refine sl_str ?_ | refine sd_str ?_))
  by_cases k1 : a.k = 1
  · by_cases hb : (lineBetween t.g.x.b a.a a.b).isSome = true
    · have e1 : doT t a = playT t (lineO (lineBetween t.g.x.b a.a a.b)) 1 := by unfold doT; rw [if_pos hh, if_pos k1, if_pos hb]
      have e2 : doN t a = b2i (playOk t (lineO (lineBetween t.g.x.b a.a a.b)) 1) := by unfold doN; rw [if_pos hh, if_pos k1, if_pos hb]
      repeat' first
        | (first | simp -implicitDefEqProofs only [k1, hb, go_sem] | (refine And.intro ?_ ?_; omega) | (refine And.intro (shr_bd ?_ ?_) ?_; omega; omega) | refine sl_list rfl ?_ | refine sd_list rfl ?_ | refine sl_str ?_ | refine sd_str ?_)
        | refine callL2 (fun d e h => iCopyTable_c d e h t (by omega) hr) rfl rfl rfl ?_
        | refine callS (iLineBetween_c t.g.x.b a.a a.b) rfl rfl rfl ?_
        | refine callL2 (fun d e h => iPlayJump_c d e h t (lineO (lineBetween t.g.x.b a.a a.b)) 1 ht) rfl rfl rfl ?_
        | refine draw_stepY Tryz.pl_follows (by kernel_rfl) ?_
        | refine callS (numberOf_c _) rfl rfl rfl ?_
      exact fin_of (fun i => i) (fun i => if i = d then 42 else 1042) ⟨by simp [boxesR, listsR, csR, renC, keyC, optK, fnd, envR, St.get, keyPV, keyV1, renPV, renV1, hasKey, made_zero, e1, e2, hde, hed] <;> omega, by simp [boxesR, listsR, csR, renC, keyC, optK, fnd, envR, St.get, keyPV, keyV1, renPV, renV1, hasKey, made_zero, e1, e2, hde, hed] <;> omega, by simp [boxesR, listsR, csR, renC, keyC, optK, fnd, envR, St.get, keyPV, keyV1, renPV, renV1, hasKey, made_zero, e1, e2, hde, hed] <;> omega, by simp [boxesR, listsR, csR, renC, keyC, optK, fnd, envR, St.get, keyPV, keyV1, renPV, renV1, hasKey, made_zero, e1, e2, hde, hed] <;> omega, by simp [boxesR, listsR, csR, renC, keyC, optK, fnd, envR, St.get, keyPV, keyV1, renPV, renV1, hasKey, made_zero, e1, e2, hde, hed] <;> omega⟩ (by simp [boxesR, listsR, csR, renC, keyC, optK, fnd, envR, St.get, keyPV, keyV1, renPV, renV1, hasKey, made_zero, e1, e2, hde, hed] <;> omega) (by first | rfl | (simp [renPV, renV1, renC, e1, e2, hde, hed]))
    · have e1 : doT t a = t := by unfold doT; rw [if_pos hh, if_pos k1, if_neg hb]
      have e2 : doN t a = b2i false := by unfold doN; rw [if_pos hh, if_pos k1, if_neg hb]
      repeat' first
        | (first | simp -implicitDefEqProofs only [k1, hb, go_sem] | (refine And.intro ?_ ?_; omega) | (refine And.intro (shr_bd ?_ ?_) ?_; omega; omega) | refine sl_list rfl ?_ | refine sd_list rfl ?_ | refine sl_str ?_ | refine sd_str ?_)
        | refine callL2 (fun d e h => iCopyTable_c d e h t (by omega) hr) rfl rfl rfl ?_
        | refine callS (iLineBetween_c t.g.x.b a.a a.b) rfl rfl rfl ?_
        | refine draw_stepY Tryz.pl_follows (by kernel_rfl) ?_
        | refine callS (numberOf_c _) rfl rfl rfl ?_
      exact fin_of (fun i => i) (fun i => if i = d then 21 else 1021) ⟨by simp [boxesR, listsR, csR, renC, keyC, optK, fnd, envR, St.get, keyPV, keyV1, renPV, renV1, hasKey, made_zero, e1, e2, hde, hed] <;> omega, by simp [boxesR, listsR, csR, renC, keyC, optK, fnd, envR, St.get, keyPV, keyV1, renPV, renV1, hasKey, made_zero, e1, e2, hde, hed] <;> omega, by simp [boxesR, listsR, csR, renC, keyC, optK, fnd, envR, St.get, keyPV, keyV1, renPV, renV1, hasKey, made_zero, e1, e2, hde, hed] <;> omega, by simp [boxesR, listsR, csR, renC, keyC, optK, fnd, envR, St.get, keyPV, keyV1, renPV, renV1, hasKey, made_zero, e1, e2, hde, hed] <;> omega, by simp [boxesR, listsR, csR, renC, keyC, optK, fnd, envR, St.get, keyPV, keyV1, renPV, renV1, hasKey, made_zero, e1, e2, hde, hed] <;> omega⟩ (by simp [boxesR, listsR, csR, renC, keyC, optK, fnd, envR, St.get, keyPV, keyV1, renPV, renV1, hasKey, made_zero, e1, e2, hde, hed] <;> omega) (by first | rfl | (simp [renPV, renV1, renC, e1, e2, hde, hed]))
  by_cases k2 : a.k = 2
  · have e1 : doT t a = askT t a.a := by unfold doT; rw [if_pos hh, if_neg k1, if_pos k2]
    have e2 : doN t a = b2i (askOk t a.a) := by unfold doN; rw [if_pos hh, if_neg k1, if_pos k2]
    repeat' first
      | (first | simp -implicitDefEqProofs only [k1, k2, go_sem] | (refine And.intro ?_ ?_; omega) | (refine And.intro (shr_bd ?_ ?_) ?_; omega; omega) | refine sl_list rfl ?_ | refine sd_list rfl ?_ | refine sl_str ?_ | refine sd_str ?_)
      | refine callL2 (fun d e h => iCopyTable_c d e h t (by omega) hr) rfl rfl rfl ?_
      | refine callL2 (fun d e h => iAskHint_c d e h t a.a ht) rfl rfl rfl ?_
      | refine draw_stepY Tryz.pl_follows (by kernel_rfl) ?_
      | refine callS (numberOf_c _) rfl rfl rfl ?_
    exact fin_of (fun i => i) (fun i => if i = d then 51 else 1051) ⟨by simp [boxesR, listsR, csR, renC, keyC, optK, fnd, envR, St.get, keyPV, keyV1, renPV, renV1, hasKey, made_zero, e1, e2, hde, hed, k2] <;> omega, by simp [boxesR, listsR, csR, renC, keyC, optK, fnd, envR, St.get, keyPV, keyV1, renPV, renV1, hasKey, made_zero, e1, e2, hde, hed, k2] <;> omega, by simp [boxesR, listsR, csR, renC, keyC, optK, fnd, envR, St.get, keyPV, keyV1, renPV, renV1, hasKey, made_zero, e1, e2, hde, hed, k2] <;> omega, by simp [boxesR, listsR, csR, renC, keyC, optK, fnd, envR, St.get, keyPV, keyV1, renPV, renV1, hasKey, made_zero, e1, e2, hde, hed, k2] <;> omega, by simp [boxesR, listsR, csR, renC, keyC, optK, fnd, envR, St.get, keyPV, keyV1, renPV, renV1, hasKey, made_zero, e1, e2, hde, hed, k2] <;> omega⟩ (by simp [boxesR, listsR, csR, renC, keyC, optK, fnd, envR, St.get, keyPV, keyV1, renPV, renV1, hasKey, made_zero, e1, e2, hde, hed, k2] <;> omega) (by first | rfl | (simp [renPV, renV1, renC, e1, e2, hde, hed, k2]))
  by_cases k3 : a.k = 3
  · have e1 : doT t a = stepT t := by unfold doT; rw [if_pos hh, if_neg k1, if_neg k2, if_pos k3]
    have e2 : doN t a = b2i (stepOk t) := by unfold doN; rw [if_pos hh, if_neg k1, if_neg k2, if_pos k3]
    repeat' first
      | (first | simp -implicitDefEqProofs only [k1, k2, k3, go_sem] | (refine And.intro ?_ ?_; omega) | (refine And.intro (shr_bd ?_ ?_) ?_; omega; omega) | refine sl_list rfl ?_ | refine sd_list rfl ?_ | refine sl_str ?_ | refine sd_str ?_)
      | refine callL2 (fun d e h => iCopyTable_c d e h t (by omega) hr) rfl rfl rfl ?_
      | refine callL2 (fun d e h => iStepBack_c d e h t ht) rfl rfl rfl ?_
      | refine draw_stepY Tryz.pl_follows (by kernel_rfl) ?_
      | refine callS (numberOf_c _) rfl rfl rfl ?_
    exact fin_of (fun i => i) (fun i => if i = d then 58 else 1058) ⟨by simp [boxesR, listsR, csR, renC, keyC, optK, fnd, envR, St.get, keyPV, keyV1, renPV, renV1, hasKey, made_zero, e1, e2, hde, hed, k3] <;> omega, by simp [boxesR, listsR, csR, renC, keyC, optK, fnd, envR, St.get, keyPV, keyV1, renPV, renV1, hasKey, made_zero, e1, e2, hde, hed, k3] <;> omega, by simp [boxesR, listsR, csR, renC, keyC, optK, fnd, envR, St.get, keyPV, keyV1, renPV, renV1, hasKey, made_zero, e1, e2, hde, hed, k3] <;> omega, by simp [boxesR, listsR, csR, renC, keyC, optK, fnd, envR, St.get, keyPV, keyV1, renPV, renV1, hasKey, made_zero, e1, e2, hde, hed, k3] <;> omega, by simp [boxesR, listsR, csR, renC, keyC, optK, fnd, envR, St.get, keyPV, keyV1, renPV, renV1, hasKey, made_zero, e1, e2, hde, hed, k3] <;> omega⟩ (by simp [boxesR, listsR, csR, renC, keyC, optK, fnd, envR, St.get, keyPV, keyV1, renPV, renV1, hasKey, made_zero, e1, e2, hde, hed, k3] <;> omega) (by first | rfl | (simp [renPV, renV1, renC, e1, e2, hde, hed, k3]))
  by_cases k4 : a.k = 4
  · have e1 : doT t a = claimT t a.a a.b := by unfold doT; rw [if_pos hh, if_neg k1, if_neg k2, if_neg k3, if_pos k4]
    have e2 : doN t a = b2i (claimOk t a.a a.b) := by unfold doN; rw [if_pos hh, if_neg k1, if_neg k2, if_neg k3, if_pos k4]
    repeat' first
      | (first | simp -implicitDefEqProofs only [k1, k2, k3, k4, go_sem] | (refine And.intro ?_ ?_; omega) | (refine And.intro (shr_bd ?_ ?_) ?_; omega; omega) | refine sl_list rfl ?_ | refine sd_list rfl ?_ | refine sl_str ?_ | refine sd_str ?_)
      | refine callL2 (fun d e h => iCopyTable_c d e h t (by omega) hr) rfl rfl rfl ?_
      | refine callL2 (fun d e h => iClaimRecord_c d e h t a.a a.b ht) rfl rfl rfl ?_
      | refine draw_stepY Tryz.pl_follows (by kernel_rfl) ?_
      | refine callS (numberOf_c _) rfl rfl rfl ?_
    exact fin_of (fun i => i) (fun i => if i = d then 69 else 1069) ⟨by simp [boxesR, listsR, csR, renC, keyC, optK, fnd, envR, St.get, keyPV, keyV1, renPV, renV1, hasKey, made_zero, e1, e2, hde, hed, k4] <;> omega, by simp [boxesR, listsR, csR, renC, keyC, optK, fnd, envR, St.get, keyPV, keyV1, renPV, renV1, hasKey, made_zero, e1, e2, hde, hed, k4] <;> omega, by simp [boxesR, listsR, csR, renC, keyC, optK, fnd, envR, St.get, keyPV, keyV1, renPV, renV1, hasKey, made_zero, e1, e2, hde, hed, k4] <;> omega, by simp [boxesR, listsR, csR, renC, keyC, optK, fnd, envR, St.get, keyPV, keyV1, renPV, renV1, hasKey, made_zero, e1, e2, hde, hed, k4] <;> omega, by simp [boxesR, listsR, csR, renC, keyC, optK, fnd, envR, St.get, keyPV, keyV1, renPV, renV1, hasKey, made_zero, e1, e2, hde, hed, k4] <;> omega⟩ (by simp [boxesR, listsR, csR, renC, keyC, optK, fnd, envR, St.get, keyPV, keyV1, renPV, renV1, hasKey, made_zero, e1, e2, hde, hed, k4] <;> omega) (by first | rfl | (simp [renPV, renV1, renC, e1, e2, hde, hed, k4]))
  have k5 : a.k = 5 := by
    apply Classical.byContradiction
    intro k5
    have hf : actOk a.k a.a a.b = false := by simp [actOk, k1, k2, k3, k4, k5]
    rw [ha] at hf
    cases hf
  have e1 : doT t a = t := by unfold doT; rw [if_pos hh, if_neg k1, if_neg k2, if_neg k3, if_neg k4]
  have e2 : doN t a = nowOf t.g := by unfold doN; rw [if_pos hh, if_neg k1, if_neg k2, if_neg k3, if_neg k4]
  repeat' first
    | (first | simp -implicitDefEqProofs only [k1, k2, k3, k4, k5, go_sem] | (refine And.intro ?_ ?_; omega) | (refine And.intro (shr_bd ?_ ?_) ?_; omega; omega) | refine sl_list rfl ?_ | refine sd_list rfl ?_ | refine sl_str ?_ | refine sd_str ?_)
    | refine callL2 (fun d e h => iCopyTable_c d e h t (by omega) hr) rfl rfl rfl ?_
    | refine draw_stepY Tryz.pl_follows (by kernel_rfl) ?_
    | refine callS (iNowOf_c t.g ht.tb.g) rfl rfl rfl ?_
  exact fin_of (fun i => i) (fun i => if i = d then 21 else 1021) ⟨by simp [boxesR, listsR, csR, renC, keyC, optK, fnd, envR, St.get, keyPV, keyV1, renPV, renV1, hasKey, made_zero, e1, e2, hde, hed, k5] <;> omega, by simp [boxesR, listsR, csR, renC, keyC, optK, fnd, envR, St.get, keyPV, keyV1, renPV, renV1, hasKey, made_zero, e1, e2, hde, hed, k5] <;> omega, by simp [boxesR, listsR, csR, renC, keyC, optK, fnd, envR, St.get, keyPV, keyV1, renPV, renV1, hasKey, made_zero, e1, e2, hde, hed, k5] <;> omega, by simp [boxesR, listsR, csR, renC, keyC, optK, fnd, envR, St.get, keyPV, keyV1, renPV, renV1, hasKey, made_zero, e1, e2, hde, hed, k5] <;> omega, by simp [boxesR, listsR, csR, renC, keyC, optK, fnd, envR, St.get, keyPV, keyV1, renPV, renV1, hasKey, made_zero, e1, e2, hde, hed, k5] <;> omega⟩ (by simp [boxesR, listsR, csR, renC, keyC, optK, fnd, envR, St.get, keyPV, keyV1, renPV, renV1, hasKey, made_zero, e1, e2, hde, hed, k5] <;> omega) (by first | rfl | (simp [renPV, renV1, renC, e1, e2, hde, hed, k5]))
end Go.Proofs.YtenfpjipeeolpaaGreat
