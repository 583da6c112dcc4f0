/-
  What the functions compute that carry out an act on a table.
  A table stays valid; what the functions compute that carry out many acts.
-/
import Derived.Test.YtahnbliabllflaaGreatDoorR4
import Derived.Test.YtahnbliabllflaaGreatDoorTAe
namespace Go.Proofs.YtahnbliabllflaaGreatDoor
open Go.PL
set_option linter.unusedSimpArgs false
def b2i (b : Bool) : Int := if b = true then 1 else 0
theorem l39Bool_c (b : Bool) : PC Tryz.prog 73 [] [.c (.v (.bool b))] (vN (b2i b)) ⟨[], []⟩ := by
  refine pc_of Tryz.func73 rfl (by kernel_rfl) _ Tryz.ntmps73 (by simp) ?_
  cases b <;> ((repeat' (first | simp -implicitDefEqProofs only [go_sem] | (refine And.intro ?_ ?_; omega) | (refine And.intro (shr_bd ?_ ?_) ?_; omega; omega) | refine sl_list rfl ?_ | refine sd_list rfl ?_ | refine sl_str ?_ | refine sd_str ?_)); exact fin_scal rfl rfl)
theorem numberOf_c (b : Bool) : PC Tryz.prog 63 [] [.c (.v (.bool b))] (vN (b2i b)) ⟨[], []⟩ := by
  refine pc_of Tryz.func63 rfl (by kernel_rfl) _ Tryz.ntmps63 (by simp) ?_
  cases b <;> ((repeat' (first | simp -implicitDefEqProofs only [go_sem] | (refine And.intro ?_ ?_; omega) | (refine And.intro (shr_bd ?_ ?_) ?_; omega; omega) | refine sl_list rfl ?_ | refine sd_list rfl ?_ | refine sl_str ?_ | refine sd_str ?_)); exact fin_scal rfl rfl)
noncomputable def doT (t : Tb) (a : Ac) : Tb :=
  if tableOk t = true ∧ actOk a.k a.a a.b = true then
    if a.k = 1 then (if (lineBetween t.g.x.b a.a a.b).isSome = true then playT t (lineO (lineBetween t.g.x.b a.a a.b)) 1 else t)
    else if a.k = 2 then askT t a.a
    else if a.k = 3 then stepT t
    else if a.k = 4 then claimT t a.a a.b
    else t
  else t
noncomputable def doN (t : Tb) (a : Ac) : Int :=
  if tableOk t = true ∧ actOk a.k a.a a.b = true then
    if a.k = 1 then (if (lineBetween t.g.x.b a.a a.b).isSome = true then b2i (playOk t (lineO (lineBetween t.g.x.b a.a a.b)) 1) else b2i false)
    else if a.k = 2 then b2i (askOk t a.a)
    else if a.k = 3 then b2i (stepOk t)
    else if a.k = 4 then b2i (claimOk t a.a a.b)
    else nowOf t.g
  else -1
set_option maxHeartbeats 8000000 in
theorem DoAct_c (d e : Nat) (hde : d ≠ e) (t : Tb) (a : Ac) (ht : TbS t) : PC Tryz.prog 24 [] [.a (tbL t), .a (actC a)] (.t [.a (tbC (doT t a) (.o d) (.o e)), .c (.v (.int .i64 (doN t a)))])
    ⟨[], [(d, ⟨86, 3, (doT t a).g.j.map lineV, false, true⟩), (e, ⟨140, 4, (doT t a).r.map recV, false, true⟩)]⟩ := by
  have hed : e ≠ d := fun h => hde h.symm
  have hj := ht.j
  have hr := ht.r
  refine pc_of Tryz.func24 rfl (by kernel_rfl) _ Tryz.ntmps24 (by simp) ?_
  repeat' first
    | (first | simp -implicitDefEqProofs only [go_sem] | (refine And.intro ?_ ?_; omega) | (refine And.intro (shr_bd ?_ ?_) ?_; omega; omega) | refine sl_list rfl ?_ | refine sd_list rfl ?_ | refine sl_str ?_ | refine sd_str ?_)
    | refine callL2 (fun d e h => l38Copy_c d e h t (by omega) hr) rfl rfl rfl ?_
  refine callS (TableOk_c t ht.tb) rfl rfl rfl ?_
  by_cases h : tableOk t = true
  rotate_left
  · have e1 : doT t a = t := by simp [doT, h]
    have e2 : doN t a = -1 := by simp [doN, h]
    (repeat' (first | simp -implicitDefEqProofs only [h, go_sem] | (refine And.intro ?_ ?_; omega) | (refine And.intro (shr_bd ?_ ?_) ?_; omega; omega) | refine sl_list rfl ?_ | refine sd_list rfl ?_ | refine sl_str ?_ | refine sd_str ?_))
    exact fin_of (fun i => i) (fun i => if i = d then 11 else 1011) ⟨by simp [e1, e2, hde, hed] <;> omega, by simp [e1, e2, hde, hed] <;> omega, by simp [e1, e2, hde, hed] <;> omega, by simp [e1, e2, hde, hed] <;> omega, by simp [e1, e2, hde, hed] <;> omega⟩ (by simp [e1, e2, hde, hed] <;> omega) (by first | rfl | (simp [renPV, renV1, renC, e1, e2, hde, hed]))
  (repeat' (first | simp -implicitDefEqProofs only [h, go_sem] | (refine And.intro ?_ ?_; omega) | (refine And.intro (shr_bd ?_ ?_) ?_; omega; omega) | refine sl_list rfl ?_ | refine sd_list rfl ?_ | refine sl_str ?_ | refine sd_str ?_))
  refine callS (ActOk_c a.k a.a a.b) rfl rfl rfl ?_
  by_cases ha : actOk a.k a.a a.b = true
  rotate_left
  · have e1 : doT t a = t := by simp [doT, ha]
    have e2 : doN t a = -1 := by simp [doN, ha]
    (repeat' (first | simp -implicitDefEqProofs only [ha, go_sem] | (refine And.intro ?_ ?_; omega) | (refine And.intro (shr_bd ?_ ?_) ?_; omega; omega) | refine sl_list rfl ?_ | refine sd_list rfl ?_ | refine sl_str ?_ | refine sd_str ?_))
    exact fin_of (fun i => i) (fun i => if i = d then 11 else 1011) ⟨by simp [e1, e2, hde, hed] <;> omega, by simp [e1, e2, hde, hed] <;> omega, by simp [e1, e2, hde, hed] <;> omega, by simp [e1, e2, hde, hed] <;> omega, by simp [e1, e2, hde, hed] <;> omega⟩ (by simp [e1, e2, hde, hed] <;> omega) (by first | rfl | (simp [renPV, renV1, renC, e1, e2, hde, hed]))
  have hh : tableOk t = true ∧ actOk a.k a.a a.b = true := ⟨h, ha⟩
  (repeat' (first | simp -implicitDefEqProofs only [ha, go_sem] | (refine And.intro ?_ ?_; omega) | (refine And.intro (shr_bd ?_ ?_) ?_; omega; omega) | refine sl_list rfl ?_ | refine sd_list rfl ?_ | refine sl_str ?_ | refine sd_str ?_))
  by_cases k1 : a.k = 1
  · by_cases hb : (lineBetween t.g.x.b a.a a.b).isSome = true
    · have e1 : doT t a = playT t (lineO (lineBetween t.g.x.b a.a a.b)) 1 := by unfold doT; rw [if_pos hh, if_pos k1, if_pos hb]
      have e2 : doN t a = b2i (playOk t (lineO (lineBetween t.g.x.b a.a a.b)) 1) := by unfold doN; rw [if_pos hh, if_pos k1, if_pos hb]
      repeat' first
        | (first | simp -implicitDefEqProofs only [k1, hb, go_sem] | (refine And.intro ?_ ?_; omega) | (refine And.intro (shr_bd ?_ ?_) ?_; omega; omega) | refine sl_list rfl ?_ | refine sd_list rfl ?_ | refine sl_str ?_ | refine sd_str ?_)
        | refine callS (LineBetween_c t.g.x.b a.a a.b) rfl rfl rfl ?_
        | refine callL2 (fun d e h => PlayJump_c d e h t (lineO (lineBetween t.g.x.b a.a a.b)) 1 ht) rfl rfl rfl ?_
        | refine draw_stepY Tryz.pl_follows (by kernel_rfl) ?_
        | refine callS (l39Bool_c _) rfl rfl rfl ?_
      exact fin_of (fun i => i) (fun i => if i = d then 41 else 1041) ⟨by simp [e1, e2, hde, hed] <;> omega, by simp [e1, e2, hde, hed] <;> omega, by simp [e1, e2, hde, hed] <;> omega, by simp [e1, e2, hde, hed] <;> omega, by simp [e1, e2, hde, hed] <;> omega⟩ (by simp [e1, e2, hde, hed] <;> omega) (by first | rfl | (simp [renPV, renV1, renC, e1, e2, hde, hed]))
    · have e1 : doT t a = t := by unfold doT; rw [if_pos hh, if_pos k1, if_neg hb]
      have e2 : doN t a = b2i false := by unfold doN; rw [if_pos hh, if_pos k1, if_neg hb]
      repeat' first
        | (first | simp -implicitDefEqProofs only [k1, hb, go_sem] | (refine And.intro ?_ ?_; omega) | (refine And.intro (shr_bd ?_ ?_) ?_; omega; omega) | refine sl_list rfl ?_ | refine sd_list rfl ?_ | refine sl_str ?_ | refine sd_str ?_)
        | refine callS (LineBetween_c t.g.x.b a.a a.b) rfl rfl rfl ?_
        | refine draw_stepY Tryz.pl_follows (by kernel_rfl) ?_
        | refine callS (l39Bool_c _) rfl rfl rfl ?_
      exact fin_of (fun i => i) (fun i => if i = d then 11 else 1011) ⟨by simp [e1, e2, hde, hed] <;> omega, by simp [e1, e2, hde, hed] <;> omega, by simp [e1, e2, hde, hed] <;> omega, by simp [e1, e2, hde, hed] <;> omega, by simp [e1, e2, hde, hed] <;> omega⟩ (by simp [e1, e2, hde, hed] <;> omega) (by first | rfl | (simp [renPV, renV1, renC, e1, e2, hde, hed]))
  by_cases k2 : a.k = 2
  · have e1 : doT t a = askT t a.a := by unfold doT; rw [if_pos hh, if_neg k1, if_pos k2]
    have e2 : doN t a = b2i (askOk t a.a) := by unfold doN; rw [if_pos hh, if_neg k1, if_pos k2]
    repeat' first
      | (first | simp -implicitDefEqProofs only [k1, k2, go_sem] | (refine And.intro ?_ ?_; omega) | (refine And.intro (shr_bd ?_ ?_) ?_; omega; omega) | refine sl_list rfl ?_ | refine sd_list rfl ?_ | refine sl_str ?_ | refine sd_str ?_)
      | refine callL2 (fun d e h => AskHint_c d e h t a.a ht) rfl rfl rfl ?_
      | refine draw_stepY Tryz.pl_follows (by kernel_rfl) ?_
      | refine callS (l39Bool_c _) rfl rfl rfl ?_
    exact fin_of (fun i => i) (fun i => if i = d then 50 else 1050) ⟨by simp [e1, e2, hde, hed, k2] <;> omega, by simp [e1, e2, hde, hed, k2] <;> omega, by simp [e1, e2, hde, hed, k2] <;> omega, by simp [e1, e2, hde, hed, k2] <;> omega, by simp [e1, e2, hde, hed, k2] <;> omega⟩ (by simp [e1, e2, hde, hed, k2] <;> omega) (by first | rfl | (simp [renPV, renV1, renC, e1, e2, hde, hed, k2]))
  by_cases k3 : a.k = 3
  · have e1 : doT t a = stepT t := by unfold doT; rw [if_pos hh, if_neg k1, if_neg k2, if_pos k3]
    have e2 : doN t a = b2i (stepOk t) := by unfold doN; rw [if_pos hh, if_neg k1, if_neg k2, if_pos k3]
    repeat' first
      | (first | simp -implicitDefEqProofs only [k1, k2, k3, go_sem] | (refine And.intro ?_ ?_; omega) | (refine And.intro (shr_bd ?_ ?_) ?_; omega; omega) | refine sl_list rfl ?_ | refine sd_list rfl ?_ | refine sl_str ?_ | refine sd_str ?_)
      | refine callL2 (fun d e h => StepBack_c d e h t ht) rfl rfl rfl ?_
      | refine draw_stepY Tryz.pl_follows (by kernel_rfl) ?_
      | refine callS (l39Bool_c _) rfl rfl rfl ?_
    exact fin_of (fun i => i) (fun i => if i = d then 57 else 1057) ⟨by simp [e1, e2, hde, hed, k3] <;> omega, by simp [e1, e2, hde, hed, k3] <;> omega, by simp [e1, e2, hde, hed, k3] <;> omega, by simp [e1, e2, hde, hed, k3] <;> omega, by simp [e1, e2, hde, hed, k3] <;> omega⟩ (by simp [e1, e2, hde, hed, k3] <;> omega) (by first | rfl | (simp [renPV, renV1, renC, e1, e2, hde, hed, k3]))
  by_cases k4 : a.k = 4
  · have e1 : doT t a = claimT t a.a a.b := by unfold doT; rw [if_pos hh, if_neg k1, if_neg k2, if_neg k3, if_pos k4]
    have e2 : doN t a = b2i (claimOk t a.a a.b) := by unfold doN; rw [if_pos hh, if_neg k1, if_neg k2, if_neg k3, if_pos k4]
    repeat' first
      | (first | simp -implicitDefEqProofs only [k1, k2, k3, k4, go_sem] | (refine And.intro ?_ ?_; omega) | (refine And.intro (shr_bd ?_ ?_) ?_; omega; omega) | refine sl_list rfl ?_ | refine sd_list rfl ?_ | refine sl_str ?_ | refine sd_str ?_)
      | refine callL2 (fun d e h => ClaimRecord_c d e h t a.a a.b ht) rfl rfl rfl ?_
      | refine draw_stepY Tryz.pl_follows (by kernel_rfl) ?_
      | refine callS (l39Bool_c _) rfl rfl rfl ?_
    exact fin_of (fun i => i) (fun i => if i = d then 68 else 1068) ⟨by simp [e1, e2, hde, hed, k4] <;> omega, by simp [e1, e2, hde, hed, k4] <;> omega, by simp [e1, e2, hde, hed, k4] <;> omega, by simp [e1, e2, hde, hed, k4] <;> omega, by simp [e1, e2, hde, hed, k4] <;> omega⟩ (by simp [e1, e2, hde, hed, k4] <;> omega) (by first | rfl | (simp [renPV, renV1, renC, e1, e2, hde, hed, k4]))
  have k5 : a.k = 5 := by
    apply Classical.byContradiction
    intro k5
    have hf : actOk a.k a.a a.b = false := by simp [actOk, k1, k2, k3, k4, k5]
    rw [ha] at hf
    cases hf
  have e1 : doT t a = t := by unfold doT; rw [if_pos hh, if_neg k1, if_neg k2, if_neg k3, if_neg k4]
  have e2 : doN t a = nowOf t.g := by unfold doN; rw [if_pos hh, if_neg k1, if_neg k2, if_neg k3, if_neg k4]
  repeat' first
    | (first | simp -implicitDefEqProofs only [k1, k2, k3, k4, k5, go_sem] | (refine And.intro ?_ ?_; omega) | (refine And.intro (shr_bd ?_ ?_) ?_; omega; omega) | refine sl_list rfl ?_ | refine sd_list rfl ?_ | refine sl_str ?_ | refine sd_str ?_)
    | refine draw_stepY Tryz.pl_follows (by kernel_rfl) ?_
    | refine callS (NowOf_c t.g ht.tb.g) rfl rfl rfl ?_
  exact fin_of (fun i => i) (fun i => if i = d then 11 else 1011) ⟨by simp [e1, e2, hde, hed, k5] <;> omega, by simp [e1, e2, hde, hed, k5] <;> omega, by simp [e1, e2, hde, hed, k5] <;> omega, by simp [e1, e2, hde, hed, k5] <;> omega, by simp [e1, e2, hde, hed, k5] <;> omega⟩ (by simp [e1, e2, hde, hed, k5] <;> omega) (by first | rfl | (simp [renPV, renV1, renC, e1, e2, hde, hed, k5]))
set_option maxHeartbeats 8000000 in
theorem iDoAct_c (d e : Nat) (hde : d ≠ e) (t : Tb) (a : Ac) (ht : TbS t) : PC Tryz.prog 23 [] [.a (tbL t), .a (actC a)] (.t [.a (tbC (doT t a) (.o d) (.o e)), .c (.v (.int .i64 (doN t a)))])
    ⟨[], [(d, ⟨86, 3, (doT t a).g.j.map lineV, false, true⟩), (e, ⟨140, 4, (doT t a).r.map recV, false, true⟩)]⟩ := by
  have hed : e ≠ d := fun h => hde h.symm
  have hj := ht.j
  have hr := ht.r
  refine pc_of Tryz.func23 rfl (by kernel_rfl) _ Tryz.ntmps23 (by simp) ?_
  (repeat' (first | simp -implicitDefEqProofs only [go_sem] | (refine And.intro ?_ ?_; omega) | (refine And.intro (shr_bd ?_ ?_) ?_; omega; omega) | refine sl_list rfl ?_ | refine sd_list rfl ?_ | refine sl_str ?_ | refine sd_str ?_))
  refine callS (iTableOk_c t ht.tb) rfl rfl rfl ?_
  by_cases h : tableOk t = true
  rotate_left
  · have e1 : doT t a = t := by simp [doT, h]
    have e2 : doN t a = -1 := by simp [doN, h]
    repeat' first
      | (first | simp -implicitDefEqProofs only [h, go_sem] | (refine And.intro ?_ ?_; omega) | (refine And.intro (shr_bd ?_ ?_) ?_; omega; omega) | refine sl_list rfl ?_ | refine sd_list rfl ?_ | refine sl_str ?_ | refine sd_str ?_)
      | refine callL2 (fun d e h => iCopyTable_c d e h t (by omega) hr) rfl rfl rfl ?_
    exact fin_of (fun i => i) (fun i => if i = d then 19 else 1019) ⟨by simp [e1, e2, hde, hed] <;> omega, by simp [e1, e2, hde, hed] <;> omega, by simp [e1, e2, hde, hed] <;> omega, by simp [e1, e2, hde, hed] <;> omega, by simp [e1, e2, hde, hed] <;> omega⟩ (by simp [e1, e2, hde, hed] <;> omega) (by first | rfl | (simp [renPV, renV1, renC, e1, e2, hde, hed]))
  (repeat' (first | simp -implicitDefEqProofs only [h, go_sem] | (refine And.intro ?_ ?_; omega) | (refine And.intro (shr_bd ?_ ?_) ?_; omega; omega) | refine sl_list rfl ?_ | refine sd_list rfl ?_ | refine sl_str ?_ | refine sd_str ?_))
  refine callS (iActOk_c a.k a.a a.b) rfl rfl rfl ?_
  by_cases ha : actOk a.k a.a a.b = true
  rotate_left
  · have e1 : doT t a = t := by simp [doT, ha]
    have e2 : doN t a = -1 := by simp [doN, ha]
    repeat' first
      | (first | simp -implicitDefEqProofs only [ha, go_sem] | (refine And.intro ?_ ?_; omega) | (refine And.intro (shr_bd ?_ ?_) ?_; omega; omega) | refine sl_list rfl ?_ | refine sd_list rfl ?_ | refine sl_str ?_ | refine sd_str ?_)
      | refine callL2 (fun d e h => iCopyTable_c d e h t (by omega) hr) rfl rfl rfl ?_
    exact fin_of (fun i => i) (fun i => if i = d then 19 else 1019) ⟨by simp [e1, e2, hde, hed] <;> omega, by simp [e1, e2, hde, hed] <;> omega, by simp [e1, e2, hde, hed] <;> omega, by simp [e1, e2, hde, hed] <;> omega, by simp [e1, e2, hde, hed] <;> omega⟩ (by simp [e1, e2, hde, hed] <;> omega) (by first | rfl | (simp [renPV, renV1, renC, e1, e2, hde, hed]))
  have hh : tableOk t = true ∧ actOk a.k a.a a.b = true := ⟨h, ha⟩
  (repeat' (first | simp -implicitDefEqProofs only [ha, go_sem] | (refine And.intro ?_ ?_; omega) | (refine And.intro (shr_bd ?_ ?_) ?_; omega; omega) | refine sl_list rfl ?_ | refine sd_list rfl ?_ | refine sl_str ?_ | refine sd_str ?_))
  by_cases k1 : a.k = 1
  · by_cases hb : (lineBetween t.g.x.b a.a a.b).isSome = true
    · have e1 : doT t a = playT t (lineO (lineBetween t.g.x.b a.a a.b)) 1 := by unfold doT; rw [if_pos hh, if_pos k1, if_pos hb]
      have e2 : doN t a = b2i (playOk t (lineO (lineBetween t.g.x.b a.a a.b)) 1) := by unfold doN; rw [if_pos hh, if_pos k1, if_pos hb]
      repeat' first
        | (first | simp -implicitDefEqProofs only [k1, hb, go_sem] | (refine And.intro ?_ ?_; omega) | (refine And.intro (shr_bd ?_ ?_) ?_; omega; omega) | refine sl_list rfl ?_ | refine sd_list rfl ?_ | refine sl_str ?_ | refine sd_str ?_)
        | refine callL2 (fun d e h => iCopyTable_c d e h t (by omega) hr) rfl rfl rfl ?_
        | refine callS (iLineBetween_c t.g.x.b a.a a.b) rfl rfl rfl ?_
        | refine callL2 (fun d e h => iPlayJump_c d e h t (lineO (lineBetween t.g.x.b a.a a.b)) 1 ht) rfl rfl rfl ?_
        | refine draw_stepY Tryz.pl_follows (by kernel_rfl) ?_
        | refine callS (numberOf_c _) rfl rfl rfl ?_
      exact fin_of (fun i => i) (fun i => if i = d then 42 else 1042) ⟨by simp [e1, e2, hde, hed] <;> omega, by simp [e1, e2, hde, hed] <;> omega, by simp [e1, e2, hde, hed] <;> omega, by simp [e1, e2, hde, hed] <;> omega, by simp [e1, e2, hde, hed] <;> omega⟩ (by simp [e1, e2, hde, hed] <;> omega) (by first | rfl | (simp [renPV, renV1, renC, e1, e2, hde, hed]))
    · have e1 : doT t a = t := by unfold doT; rw [if_pos hh, if_pos k1, if_neg hb]
      have e2 : doN t a = b2i false := by unfold doN; rw [if_pos hh, if_pos k1, if_neg hb]
      repeat' first
        | (first | simp -implicitDefEqProofs only [k1, hb, go_sem] | (refine And.intro ?_ ?_; omega) | (refine And.intro (shr_bd ?_ ?_) ?_; omega; omega) | refine sl_list rfl ?_ | refine sd_list rfl ?_ | refine sl_str ?_ | refine sd_str ?_)
        | refine callL2 (fun d e h => iCopyTable_c d e h t (by omega) hr) rfl rfl rfl ?_
        | refine callS (iLineBetween_c t.g.x.b a.a a.b) rfl rfl rfl ?_
        | refine draw_stepY Tryz.pl_follows (by kernel_rfl) ?_
        | refine callS (numberOf_c _) rfl rfl rfl ?_
      exact fin_of (fun i => i) (fun i => if i = d then 21 else 1021) ⟨by simp [e1, e2, hde, hed] <;> omega, by simp [e1, e2, hde, hed] <;> omega, by simp [e1, e2, hde, hed] <;> omega, by simp [e1, e2, hde, hed] <;> omega, by simp [e1, e2, hde, hed] <;> omega⟩ (by simp [e1, e2, hde, hed] <;> omega) (by first | rfl | (simp [renPV, renV1, renC, e1, e2, hde, hed]))
  by_cases k2 : a.k = 2
  · have e1 : doT t a = askT t a.a := by unfold doT; rw [if_pos hh, if_neg k1, if_pos k2]
    have e2 : doN t a = b2i (askOk t a.a) := by unfold doN; rw [if_pos hh, if_neg k1, if_pos k2]
    repeat' first
      | (first | simp -implicitDefEqProofs only [k1, k2, go_sem] | (refine And.intro ?_ ?_; omega) | (refine And.intro (shr_bd ?_ ?_) ?_; omega; omega) | refine sl_list rfl ?_ | refine sd_list rfl ?_ | refine sl_str ?_ | refine sd_str ?_)
      | refine callL2 (fun d e h => iCopyTable_c d e h t (by omega) hr) rfl rfl rfl ?_
      | refine callL2 (fun d e h => iAskHint_c d e h t a.a ht) rfl rfl rfl ?_
      | refine draw_stepY Tryz.pl_follows (by kernel_rfl) ?_
      | refine callS (numberOf_c _) rfl rfl rfl ?_
    exact fin_of (fun i => i) (fun i => if i = d then 51 else 1051) ⟨by simp [e1, e2, hde, hed, k2] <;> omega, by simp [e1, e2, hde, hed, k2] <;> omega, by simp [e1, e2, hde, hed, k2] <;> omega, by simp [e1, e2, hde, hed, k2] <;> omega, by simp [e1, e2, hde, hed, k2] <;> omega⟩ (by simp [e1, e2, hde, hed, k2] <;> omega) (by first | rfl | (simp [renPV, renV1, renC, e1, e2, hde, hed, k2]))
  by_cases k3 : a.k = 3
  · have e1 : doT t a = stepT t := by unfold doT; rw [if_pos hh, if_neg k1, if_neg k2, if_pos k3]
    have e2 : doN t a = b2i (stepOk t) := by unfold doN; rw [if_pos hh, if_neg k1, if_neg k2, if_pos k3]
    repeat' first
      | (first | simp -implicitDefEqProofs only [k1, k2, k3, go_sem] | (refine And.intro ?_ ?_; omega) | (refine And.intro (shr_bd ?_ ?_) ?_; omega; omega) | refine sl_list rfl ?_ | refine sd_list rfl ?_ | refine sl_str ?_ | refine sd_str ?_)
      | refine callL2 (fun d e h => iCopyTable_c d e h t (by omega) hr) rfl rfl rfl ?_
      | refine callL2 (fun d e h => iStepBack_c d e h t ht) rfl rfl rfl ?_
      | refine draw_stepY Tryz.pl_follows (by kernel_rfl) ?_
      | refine callS (numberOf_c _) rfl rfl rfl ?_
    exact fin_of (fun i => i) (fun i => if i = d then 58 else 1058) ⟨by simp [e1, e2, hde, hed, k3] <;> omega, by simp [e1, e2, hde, hed, k3] <;> omega, by simp [e1, e2, hde, hed, k3] <;> omega, by simp [e1, e2, hde, hed, k3] <;> omega, by simp [e1, e2, hde, hed, k3] <;> omega⟩ (by simp [e1, e2, hde, hed, k3] <;> omega) (by first | rfl | (simp [renPV, renV1, renC, e1, e2, hde, hed, k3]))
  by_cases k4 : a.k = 4
  · have e1 : doT t a = claimT t a.a a.b := by unfold doT; rw [if_pos hh, if_neg k1, if_neg k2, if_neg k3, if_pos k4]
    have e2 : doN t a = b2i (claimOk t a.a a.b) := by unfold doN; rw [if_pos hh, if_neg k1, if_neg k2, if_neg k3, if_pos k4]
    repeat' first
      | (first | simp -implicitDefEqProofs only [k1, k2, k3, k4, go_sem] | (refine And.intro ?_ ?_; omega) | (refine And.intro (shr_bd ?_ ?_) ?_; omega; omega) | refine sl_list rfl ?_ | refine sd_list rfl ?_ | refine sl_str ?_ | refine sd_str ?_)
      | refine callL2 (fun d e h => iCopyTable_c d e h t (by omega) hr) rfl rfl rfl ?_
      | refine callL2 (fun d e h => iClaimRecord_c d e h t a.a a.b ht) rfl rfl rfl ?_
      | refine draw_stepY Tryz.pl_follows (by kernel_rfl) ?_
      | refine callS (numberOf_c _) rfl rfl rfl ?_
    exact fin_of (fun i => i) (fun i => if i = d then 69 else 1069) ⟨by simp [e1, e2, hde, hed, k4] <;> omega, by simp [e1, e2, hde, hed, k4] <;> omega, by simp [e1, e2, hde, hed, k4] <;> omega, by simp [e1, e2, hde, hed, k4] <;> omega, by simp [e1, e2, hde, hed, k4] <;> omega⟩ (by simp [e1, e2, hde, hed, k4] <;> omega) (by first | rfl | (simp [renPV, renV1, renC, e1, e2, hde, hed, k4]))
  have k5 : a.k = 5 := by
    apply Classical.byContradiction
    intro k5
    have hf : actOk a.k a.a a.b = false := by simp [actOk, k1, k2, k3, k4, k5]
    rw [ha] at hf
    cases hf
  have e1 : doT t a = t := by unfold doT; rw [if_pos hh, if_neg k1, if_neg k2, if_neg k3, if_neg k4]
  have e2 : doN t a = nowOf t.g := by unfold doN; rw [if_pos hh, if_neg k1, if_neg k2, if_neg k3, if_neg k4]
  repeat' first
    | (first | simp -implicitDefEqProofs only [k1, k2, k3, k4, k5, go_sem] | (refine And.intro ?_ ?_; omega) | (refine And.intro (shr_bd ?_ ?_) ?_; omega; omega) | refine sl_list rfl ?_ | refine sd_list rfl ?_ | refine sl_str ?_ | refine sd_str ?_)
    | refine callL2 (fun d e h => iCopyTable_c d e h t (by omega) hr) rfl rfl rfl ?_
    | refine draw_stepY Tryz.pl_follows (by kernel_rfl) ?_
    | refine callS (iNowOf_c t.g ht.tb.g) rfl rfl rfl ?_
  exact fin_of (fun i => i) (fun i => if i = d then 21 else 1021) ⟨by simp [e1, e2, hde, hed, k5] <;> omega, by simp [e1, e2, hde, hed, k5] <;> omega, by simp [e1, e2, hde, hed, k5] <;> omega, by simp [e1, e2, hde, hed, k5] <;> omega, by simp [e1, e2, hde, hed, k5] <;> omega⟩ (by simp [e1, e2, hde, hed, k5] <;> omega) (by first | rfl | (simp [renPV, renV1, renC, e1, e2, hde, hed, k5]))
end Go.Proofs.YtahnbliabllflaaGreatDoor
namespace Go.Proofs.YtahnbliabllflaaGreatDoor
open Go.PL
set_option linter.unusedSimpArgs false
theorem tableOk_iff {t : Tb} : tableOk t = true ↔ gameOk t.g = true ∧ clockOk t.c = true ∧ recordsOk t.r = true ∧ within t.n 1 999 = true := by
  simp [tableOk]
theorem gameOk_len {g : Gm} (h : gameOk g = true) : g.j.length ≤ 60 ∧ pzIn g.x := by
  simp only [gameOk, puzzleOk, Bool.and_eq_true] at h
  obtain ⟨⟨_, hp, hg⟩, _, _, hs⟩ := h
  refine ⟨?_, ?_, ?_⟩
  · unfold playAll at hs
    split at hs
    · rename_i h2; exact h2.2
    · cases hs
  · have := pos_le hp; omega
  · have := pos_le hg; omega
theorem tbS_of {t : Tb} (h : tableOk t = true) : TbS t := by
  obtain ⟨h1, _, h3, _⟩ := tableOk_iff.1 h
  obtain ⟨h4, h5⟩ := gameOk_len h1
  have := recordsOk_len h3
  exact ⟨h5, by omega, by omega⟩
theorem tick_ok {c : Ck} {s : Int} (h : tickOk c s = true) : clockOk (tickC c s) = true := by
  have h' := h
  simp only [tickOk, Bool.and_eq_true] at h'
  simp only [tickC, h, if_true]
  exact h'.2.2
theorem make_ok {g : Gm} {l : Ln} (h : makeOk g l = true) : gameOk (makeG g l) = true := by
  have h' := h
  simp only [makeOk, Bool.and_eq_true] at h'
  simp only [makeG, h, if_true]
  exact h'.2
theorem back_ok {g : Gm} (h : backOk g = true) : gameOk (backR g) = true := by
  have h' := h
  simp only [backOk, Bool.and_eq_true] at h'
  simp only [backR, h, if_true]
  exact h'.2.2
theorem hintR_ok {g : Gm} (h : hintOk g = true) : gameOk (hintR g) = true := by
  have h' := h
  simp only [hintOk, Bool.and_eq_true] at h'
  simp only [hintR, h, if_true]
  exact h'.2.2
theorem enter_ok {rs : List Rec} {r : Rec} (h : (enterRecord rs r).2 = true) : recordsOk (enterRecord rs r).1 = true := by
  unfold enterRecord at h ⊢
  split
  · rename_i h1
    rw [if_pos h1] at h
    split
    · rename_i h2; exact h2.2
    · exact h1
  · rename_i h1
    rw [if_neg h1] at h
    cases h
theorem layG_ok {t : Tb} {g : Gm} {c : Ck} (h : tableOk t = true) (hg : gameOk g = true) (hc : clockOk c = true) : tableOk (layG t g c) = true := by
  obtain ⟨_, _, h3, h4⟩ := tableOk_iff.1 h
  exact tableOk_iff.2 ⟨hg, hc, h3, h4⟩
theorem playT_ok {t : Tb} {l : Ln} {s : Int} (h : tableOk t = true) : tableOk (playT t l s) = true := by
  unfold playT
  split
  · rename_i ho
    simp only [playOk, Bool.and_eq_true] at ho
    exact layG_ok h (make_ok ho.2.1) (tick_ok ho.2.2)
  · exact h
theorem askT_ok {t : Tb} {s : Int} (h : tableOk t = true) : tableOk (askT t s) = true := by
  unfold askT
  split
  · rename_i ho
    simp only [askOk, Bool.and_eq_true] at ho
    exact layG_ok h (hintR_ok ho.2.2.1) (tick_ok ho.2.2.2)
  · exact h
theorem stepT_ok {t : Tb} (h : tableOk t = true) : tableOk (stepT t) = true := by
  unfold stepT
  split
  · rename_i ho
    simp only [stepOk, Bool.and_eq_true] at ho
    exact layG_ok h (back_ok ho.2) (tableOk_iff.1 h).2.1
  · exact h
theorem claimT_ok {t : Tb} {n day : Int} (h : tableOk t = true) : tableOk (claimT t n day) = true := by
  unfold claimT
  split
  · rename_i ho
    simp only [claimOk, Bool.and_eq_true] at ho
    obtain ⟨h1, h2, _, h4⟩ := tableOk_iff.1 h
    exact tableOk_iff.2 ⟨h1, h2, enter_ok ho.2.2.2, h4⟩
  · exact h
theorem doT_ok {t : Tb} {a : Ac} (h : tableOk t = true) : tableOk (doT t a) = true := by
  unfold doT
  repeat' split
  · exact playT_ok h
  · exact h
  · exact askT_ok h
  · exact stepT_ok h
  · exact claimT_ok h
  · exact h
  · exact h
noncomputable def runT : Tb → List Ac → Tb
  | t, [] => t
  | t, a :: l => runT (doT t a) l
noncomputable def runN : Tb → List Ac → List Int
  | _, [] => []
  | t, a :: l => doN t a :: runN (doT t a) l
theorem runT_app {t : Tb} {l m : List Ac} : runT t (l ++ m) = runT (runT t l) m := by
  induction l generalizing t with
  | nil => rfl
  | cons a l ih => exact ih
theorem runN_app {t : Tb} {l m : List Ac} : runN t (l ++ m) = runN t l ++ runN (runT t l) m := by
  induction l generalizing t with
  | nil => rfl
  | cons a l ih => simp only [List.cons_append, runN, runT, ih]
theorem runT_ok {t : Tb} {l : List Ac} (h : tableOk t = true) : tableOk (runT t l) = true := by
  induction l generalizing t with
  | nil => exact h
  | cons a l ih => exact ih (doT_ok h)
theorem runN_len {t : Tb} {l : List Ac} : (runN t l).length = l.length := by
  induction l generalizing t with
  | nil => rfl
  | cons a l ih => simp [runN, ih]
theorem runT_next {t : Tb} {l : List Ac} {i : Nat} (h : i < l.length) : runT t (l.take (i + 1)) = doT (runT t (l.take i)) l[i] := by
  rw [List.take_succ_eq_append_getElem h, runT_app]; rfl
theorem runN_next {t : Tb} {l : List Ac} {i : Nat} (h : i < l.length) : runN t (l.take (i + 1)) = runN t (l.take i) ++ [doN (runT t (l.take i)) l[i]] := by
  rw [List.take_succ_eq_append_getElem h, runN_app]; rfl
def runOk (t : Tb) (l : List Ac) : Bool := tableOk t && decide (l.length ≤ 40)
noncomputable def runsT (t : Tb) (l : List Ac) : Tb := if runOk t l = true then runT t l else t
noncomputable def runsN (t : Tb) (l : List Ac) : List Int := if runOk t l = true then runN t l else []
abbrev zTb : List C := [.v (.int .i64 0), .v (.int .i64 0), .v (.int .i64 0), .v (.int .i64 0), .v (.int .i64 0), .v (.slice none 0 0), .v (.int .i64 0), .v (.int .i64 0), .v (.int .i64 0), .v (.int .i64 0), .v (.int .i64 0), .v (.int .i64 0), .v (.slice none 0 0)]
set_option maxHeartbeats 8000000 in
theorem RunActs_c (d e f : Nat) (hde : d ≠ e) (hdf : d ≠ f) (hef : e ≠ f) (t : Tb) (l : List Ac) (ht : TbS t) (hl : l.length ≤ 1048576) : PC Tryz.prog 45 [] [.a (tbL t), .c (.l 3 (l.map actV))] (.t [.a (tbC (runsT t l) (.o d) (.o e)), .c (.o f)])
    ⟨[], [(d, ⟨86, 3, (runsT t l).g.j.map lineV, false, true⟩), (e, ⟨140, 4, (runsT t l).r.map recV, false, true⟩), (f, ⟨3, 1, (runsN t l).map iV, false, true⟩)]⟩ := by
  have hed : e ≠ d := fun h => hde h.symm
  have hfd : f ≠ d := fun h => hdf h.symm
  have hfe : f ≠ e := fun h => hef h.symm
  have hj := ht.j
  have hr := ht.r
  refine pc_of Tryz.func45 rfl (by kernel_rfl) _ Tryz.ntmps45 (by simp) ?_
  repeat' first
    | (first | simp -implicitDefEqProofs only [go_sem] | (refine And.intro ?_ ?_; omega) | (refine And.intro (shr_bd ?_ ?_) ?_; omega; omega) | refine sl_list rfl ?_ | refine sd_list rfl ?_ | refine sl_str ?_ | refine sd_str ?_)
    | refine callL2 (fun d e h => l38Copy_c d e h t (by omega) hr) rfl rfl rfl ?_
  refine callS (TableOk_c t ht.tb) rfl rfl rfl ?_
  by_cases h : tableOk t = true
  rotate_left
  · have e1 : runsT t l = t := by simp [runsT, runOk, h]
    have e2 : runsN t l = [] := by simp [runsN, runOk, h]
    (repeat' (first | simp -implicitDefEqProofs only [h, go_sem] | (refine And.intro ?_ ?_; omega) | (refine And.intro (shr_bd ?_ ?_) ?_; omega; omega) | refine sl_list rfl ?_ | refine sd_list rfl ?_ | refine sl_str ?_ | refine sd_str ?_))
    exact fin_of (fun i => i) (fun i => if i = d then 12 else if i = e then 1012 else 13) ⟨by simp [e1, e2, hde, hed, hdf, hef, hfd, hfe] <;> omega, by simp [e1, e2, hde, hed, hdf, hef, hfd, hfe] <;> omega, by simp [e1, e2, hde, hed, hdf, hef, hfd, hfe] <;> omega, by simp [e1, e2, hde, hed, hdf, hef, hfd, hfe] <;> omega, by simp [e1, e2, hde, hed, hdf, hef, hfd, hfe] <;> omega⟩ (by simp [e1, e2, hde, hed, hdf, hef, hfd, hfe] <;> omega) (by first | rfl | (simp [renPV, renV1, renC, e1, e2, hde, hed, hdf, hef, hfd, hfe]))
  by_cases h40 : (40 : Int) < l.length
  · have hn : ¬ l.length ≤ 40 := by omega
    have e1 : runsT t l = t := by simp [runsT, runOk, hn]
    have e2 : runsN t l = [] := by simp [runsN, runOk, hn]
    (repeat' (first | simp -implicitDefEqProofs only [h, h40, go_sem] | (refine And.intro ?_ ?_; omega) | (refine And.intro (shr_bd ?_ ?_) ?_; omega; omega) | refine sl_list rfl ?_ | refine sd_list rfl ?_ | refine sl_str ?_ | refine sd_str ?_))
    exact fin_of (fun i => i) (fun i => if i = d then 12 else if i = e then 1012 else 13) ⟨by simp [e1, e2, hde, hed, hdf, hef, hfd, hfe] <;> omega, by simp [e1, e2, hde, hed, hdf, hef, hfd, hfe] <;> omega, by simp [e1, e2, hde, hed, hdf, hef, hfd, hfe] <;> omega, by simp [e1, e2, hde, hed, hdf, hef, hfd, hfe] <;> omega, by simp [e1, e2, hde, hed, hdf, hef, hfd, hfe] <;> omega⟩ (by simp [e1, e2, hde, hed, hdf, hef, hfd, hfe] <;> omega) (by first | rfl | (simp [renPV, renV1, renC, e1, e2, hde, hed, hdf, hef, hfd, hfe]))
  have ho : runOk t l = true := by
    have hn : l.length ≤ 40 := by omega
    simp [runOk, h, hn]
  have e1 : runsT t l = runT t l := by simp [runsT, ho]
  have e2 : runsN t l = runN t l := by simp [runsN, ho]
  (repeat' (first | simp -implicitDefEqProofs only [h, h40, go_sem] | (refine And.intro ?_ ?_; omega) | (refine And.intro (shr_bd ?_ ?_) ?_; omega; omega) | refine sl_list rfl ?_ | refine sd_list rfl ?_ | refine sl_str ?_ | refine sd_str ?_))
  refine loop_step (X := Nat) (fun i => ⟨46, [(1, vL 3 (l.map actV)), (4, .s (.c (.p 4 0))), (6, .s (.c (.p 6 0))), (7, vO 13), (8, vN i)], ⟨[(4, zTb), (6, tbC (runT t (l.take i)) (.o 12) (.o 1012))], [(13, ⟨3, 1, (runN t (l.take i)).map iV, false, true⟩), (12, ⟨86, 3, (runT t (l.take i)).g.j.map lineV, false, true⟩), (1012, ⟨140, 4, (runT t (l.take i)).r.map recV, false, true⟩)]⟩⟩)
    (fun i => i ≤ l.length) (fun i => l.length - i) 0 (by omega) (weak_of (fun i => i) (fun i => i) rfl ⟨by simp [runT, runN] <;> omega, by simp [runT, runN] <;> omega, by simp [runT, runN] <;> omega, by simp [runT, runN] <;> omega, by simp [runT, runN] <;> omega⟩ (by simp [runT, runN] <;> omega)) (fun i hi => ?_)
  have hc := tbS_of (runT_ok (l := l.take i) h)
  have hcj := hc.j
  have hcr := hc.r
  have hnl := runN_len (t := t) (l := l.take i)
  have htl : (l.take i).length ≤ i := List.length_take_le _ _
  simp -implicitDefEqProofs only [go_sem]
  refine if_splitP (fun hlt' => ?_) (fun hlt' => ?_)
  · have hlt : i < l.length := by omega
    have hg := map_get (f := actV) hlt
    have n1 := runT_next (t := t) hlt
    have n2 := runN_next (t := t) hlt
    repeat' first
      | (first | simp -implicitDefEqProofs only [hg, hlt, actV, go_sem] | (refine And.intro ?_ ?_; omega) | (refine And.intro (shr_bd ?_ ?_) ?_; omega; omega) | refine sl_list rfl ?_ | refine sd_list rfl ?_ | refine sl_str ?_ | refine sd_str ?_)
      | refine draw_stepY Tryz.pl_follows (by kernel_rfl) ?_
      | refine callL2 (fun d e h => DoAct_c d e h (runT t (l.take i)) l[i] hc) rfl rfl rfl ?_
    exact ⟨i + 1, by omega, by omega, weak_of (fun i => i) (fun i => if i = 13 then 43 else if i = 12 then 36 else if i = 1012 then 1036 else i) rfl ⟨by simp [n1, n2] <;> omega, by simp [n1, n2] <;> omega, by simp [n1, n2] <;> omega, by simp [n1, n2] <;> omega, by simp [n1, n2] <;> omega⟩ (by simp [n1, n2] <;> omega)⟩
  · have hle : i = l.length := by omega
    subst hle
    have et : l.take l.length = l := List.take_length
    (repeat' (first | simp -implicitDefEqProofs only [go_sem] | (refine And.intro ?_ ?_; omega) | (refine And.intro (shr_bd ?_ ?_) ?_; omega; omega) | refine sl_list rfl ?_ | refine sd_list rfl ?_ | refine sl_str ?_ | refine sd_str ?_))
    exact fin_of (fun i => i) (fun i => if i = d then 12 else if i = e then 1012 else 13) ⟨by simp [e1, e2, et, hde, hed, hdf, hef, hfd, hfe] <;> omega, by simp [e1, e2, et, hde, hed, hdf, hef, hfd, hfe] <;> omega, by simp [e1, e2, et, hde, hed, hdf, hef, hfd, hfe] <;> omega, by simp [e1, e2, et, hde, hed, hdf, hef, hfd, hfe] <;> omega, by simp [e1, e2, et, hde, hed, hdf, hef, hfd, hfe] <;> omega⟩ (by simp [e1, e2, et, hde, hed, hdf, hef, hfd, hfe] <;> omega) (by first | rfl | (simp [renPV, renV1, renC, e1, e2, et, hde, hed, hdf, hef, hfd, hfe]))
set_option maxHeartbeats 8000000 in
theorem iRunActs_c (d e f : Nat) (hde : d ≠ e) (hdf : d ≠ f) (hef : e ≠ f) (t : Tb) (l : List Ac) (ht : TbS t) (hl : l.length ≤ 1048576) : PC Tryz.prog 17 [] [.a (tbL t), .c (.l 3 (l.map actV))] (.t [.a (tbC (runsT t l) (.o d) (.o e)), .c (.o f)])
    ⟨[], [(d, ⟨86, 3, (runsT t l).g.j.map lineV, false, true⟩), (e, ⟨140, 4, (runsT t l).r.map recV, false, true⟩), (f, ⟨3, 1, (runsN t l).map iV, false, true⟩)]⟩ := by
  have hed : e ≠ d := fun h => hde h.symm
  have hfd : f ≠ d := fun h => hdf h.symm
  have hfe : f ≠ e := fun h => hef h.symm
  have hj := ht.j
  have hr := ht.r
  refine pc_of Tryz.func17 rfl (by kernel_rfl) _ Tryz.ntmps17 (by simp) ?_
  repeat' first
    | (first | simp -implicitDefEqProofs only [go_sem] | (refine And.intro ?_ ?_; omega) | (refine And.intro (shr_bd ?_ ?_) ?_; omega; omega) | refine sl_list rfl ?_ | refine sd_list rfl ?_ | refine sl_str ?_ | refine sd_str ?_)
    | refine callL2 (fun d e h => iCopyTable_c d e h t (by omega) hr) rfl rfl rfl ?_
  refine callS (iTableOk_c t ht.tb) rfl rfl rfl ?_
  by_cases h : tableOk t = true
  rotate_left
  · have e1 : runsT t l = t := by simp [runsT, runOk, h]
    have e2 : runsN t l = [] := by simp [runsN, runOk, h]
    (repeat' (first | simp -implicitDefEqProofs only [h, go_sem] | (refine And.intro ?_ ?_; omega) | (refine And.intro (shr_bd ?_ ?_) ?_; omega; omega) | refine sl_list rfl ?_ | refine sd_list rfl ?_ | refine sl_str ?_ | refine sd_str ?_))
    refine fin_adopt (pv' := .t [.a (tbC t (.o 13) (.o 1013)), .c (.o 999)]) 999 3 1 rfl (by omega) (by simp [adPV, adVs, adV1, adCs, adC]) ?_
    exact fin_of (fun i => i) (fun i => if i = d then 13 else if i = e then 1013 else 999) ⟨by simp [e1, e2, hde, hed, hdf, hef, hfd, hfe] <;> omega, by simp [e1, e2, hde, hed, hdf, hef, hfd, hfe] <;> omega, by simp [e1, e2, hde, hed, hdf, hef, hfd, hfe] <;> omega, by simp [e1, e2, hde, hed, hdf, hef, hfd, hfe] <;> omega, by simp [e1, e2, hde, hed, hdf, hef, hfd, hfe] <;> omega⟩ (by simp [e1, e2, hde, hed, hdf, hef, hfd, hfe] <;> omega) (by first | rfl | (simp [renPV, renV1, renC, e1, e2, hde, hed, hdf, hef, hfd, hfe]))
  by_cases h40 : (40 : Int) < l.length
  · have hn : ¬ l.length ≤ 40 := by omega
    have e1 : runsT t l = t := by simp [runsT, runOk, hn]
    have e2 : runsN t l = [] := by simp [runsN, runOk, hn]
    (repeat' (first | simp -implicitDefEqProofs only [h, h40, go_sem] | (refine And.intro ?_ ?_; omega) | (refine And.intro (shr_bd ?_ ?_) ?_; omega; omega) | refine sl_list rfl ?_ | refine sd_list rfl ?_ | refine sl_str ?_ | refine sd_str ?_))
    refine fin_adopt (pv' := .t [.a (tbC t (.o 13) (.o 1013)), .c (.o 999)]) 999 3 1 rfl (by omega) (by simp [adPV, adVs, adV1, adCs, adC]) ?_
    exact fin_of (fun i => i) (fun i => if i = d then 13 else if i = e then 1013 else 999) ⟨by simp [e1, e2, hde, hed, hdf, hef, hfd, hfe] <;> omega, by simp [e1, e2, hde, hed, hdf, hef, hfd, hfe] <;> omega, by simp [e1, e2, hde, hed, hdf, hef, hfd, hfe] <;> omega, by simp [e1, e2, hde, hed, hdf, hef, hfd, hfe] <;> omega, by simp [e1, e2, hde, hed, hdf, hef, hfd, hfe] <;> omega⟩ (by simp [e1, e2, hde, hed, hdf, hef, hfd, hfe] <;> omega) (by first | rfl | (simp [renPV, renV1, renC, e1, e2, hde, hed, hdf, hef, hfd, hfe]))
  have ho : runOk t l = true := by
    have hn : l.length ≤ 40 := by omega
    simp [runOk, h, hn]
  have e1 : runsT t l = runT t l := by simp [runsT, ho]
  have e2 : runsN t l = runN t l := by simp [runsN, ho]
  (repeat' (first | simp -implicitDefEqProofs only [h, h40, go_sem] | (refine And.intro ?_ ?_; omega) | (refine And.intro (shr_bd ?_ ?_) ?_; omega; omega) | refine sl_list rfl ?_ | refine sd_list rfl ?_ | refine sl_str ?_ | refine sd_str ?_))
  refine loop_step (X := Nat) (fun i => ⟨44, [(4, .s (.c (.p 4 0))), (6, .s (.c (.p 6 0))), (7, vO 23), (24, vL 3 (l.map actV)), (25, vN l.length), (26, vN i)], ⟨[(4, zTb), (6, tbC (runT t (l.take i)) (.o 13) (.o 1013))], [(23, ⟨3, 1, (runN t (l.take i)).map iV, false, true⟩), (13, ⟨86, 3, (runT t (l.take i)).g.j.map lineV, false, true⟩), (1013, ⟨140, 4, (runT t (l.take i)).r.map recV, false, true⟩)]⟩⟩)
    (fun i => i ≤ l.length) (fun i => l.length - i) 0 (by omega) (weak_of (fun i => i) (fun i => i) rfl ⟨by simp [runT, runN] <;> omega, by simp [runT, runN] <;> omega, by simp [runT, runN] <;> omega, by simp [runT, runN] <;> omega, by simp [runT, runN] <;> omega⟩ (by simp [runT, runN] <;> omega)) (fun i hi => ?_)
  have hc := tbS_of (runT_ok (l := l.take i) h)
  have hcj := hc.j
  have hcr := hc.r
  have hnl := runN_len (t := t) (l := l.take i)
  have htl : (l.take i).length ≤ i := List.length_take_le _ _
  simp -implicitDefEqProofs only [go_sem]
  refine if_splitP (fun hlt' => ?_) (fun hlt' => ?_)
  · have hlt : i < l.length := by omega
    have hg := map_get (f := actV) hlt
    have n1 := runT_next (t := t) hlt
    have n2 := runN_next (t := t) hlt
    repeat' first
      | (first | simp -implicitDefEqProofs only [hg, hlt, actV, go_sem] | (refine And.intro ?_ ?_; omega) | (refine And.intro (shr_bd ?_ ?_) ?_; omega; omega) | refine sl_list rfl ?_ | refine sd_list rfl ?_ | refine sl_str ?_ | refine sd_str ?_)
      | refine callL2 (fun d e h => iDoAct_c d e h (runT t (l.take i)) l[i] hc) rfl rfl rfl ?_
    exact ⟨i + 1, by omega, by omega, weak_of (fun i => i) (fun i => if i = 23 then 40 else if i = 13 then 33 else if i = 1013 then 1033 else i) rfl ⟨by simp [n1, n2] <;> omega, by simp [n1, n2] <;> omega, by simp [n1, n2] <;> omega, by simp [n1, n2] <;> omega, by simp [n1, n2] <;> omega⟩ (by simp [n1, n2] <;> omega)⟩
  · have hle : i = l.length := by omega
    subst hle
    have et : l.take l.length = l := List.take_length
    (repeat' (first | simp -implicitDefEqProofs only [go_sem] | (refine And.intro ?_ ?_; omega) | (refine And.intro (shr_bd ?_ ?_) ?_; omega; omega) | refine sl_list rfl ?_ | refine sd_list rfl ?_ | refine sl_str ?_ | refine sd_str ?_))
    exact fin_of (fun i => i) (fun i => if i = d then 13 else if i = e then 1013 else 23) ⟨by simp [e1, e2, et, hde, hed, hdf, hef, hfd, hfe] <;> omega, by simp [e1, e2, et, hde, hed, hdf, hef, hfd, hfe] <;> omega, by simp [e1, e2, et, hde, hed, hdf, hef, hfd, hfe] <;> omega, by simp [e1, e2, et, hde, hed, hdf, hef, hfd, hfe] <;> omega, by simp [e1, e2, et, hde, hed, hdf, hef, hfd, hfe] <;> omega⟩ (by simp [e1, e2, et, hde, hed, hdf, hef, hfd, hfe] <;> omega) (by first | rfl | (simp [renPV, renV1, renC, e1, e2, et, hde, hed, hdf, hef, hfd, hfe]))
theorem ne_at {xs ys : List Int} {i : Nat} (h : i < xs.length) (h' : i < ys.length) (hn : xs[i] ≠ ys[i]) : xs ≠ ys := fun e => by subst e; exact hn rfl
theorem sameInts_c (xs ys : List Int) (hn : xs.length ≤ 4194304) : PC Tryz.prog 81 [] [.c (.l 1 (xs.map iV)), .c (.l 1 (ys.map iV))] (vB (decide (xs = ys))) ⟨[], []⟩ := by
  refine pc_of Tryz.func81 rfl (by kernel_rfl) _ Tryz.ntmps81 (by simp) ?_
  by_cases hl : (xs.length : Int) = ys.length
  rotate_left
  · have hne : ¬ xs = ys := fun e => hl (by rw [e])
    (repeat' (first | simp -implicitDefEqProofs only [hl, go_sem] | (refine And.intro ?_ ?_; omega) | (refine And.intro (shr_bd ?_ ?_) ?_; omega; omega) | refine sl_list rfl ?_ | refine sd_list rfl ?_ | refine sl_str ?_ | refine sd_str ?_))
    exact fin_scal rfl (by simp [hne, retOf])
  (repeat' (first | simp -implicitDefEqProofs only [hl, go_sem] | (refine And.intro ?_ ?_; omega) | (refine And.intro (shr_bd ?_ ?_) ?_; omega; omega) | refine sl_list rfl ?_ | refine sd_list rfl ?_ | refine sl_str ?_ | refine sd_str ?_))
  refine loop_step (X := Nat) (fun i => ⟨26, [(1, vL 1 (ys.map iV)), (12, vL 1 (xs.map iV)), (13, vN xs.length), (14, vN i)], ⟨[], []⟩⟩)
    (fun i => i ≤ xs.length ∧ ∀ j (h : j < xs.length) (h' : j < ys.length), j < i → xs[j] = ys[j]) (fun i => xs.length - i) 0 ⟨by omega, by omega⟩ (weak_of (fun i => i) (fun i => i) rfl ⟨by simp [hl] <;> omega, by simp [hl] <;> omega, by simp [hl] <;> omega, by simp [hl] <;> omega, by simp [hl] <;> omega⟩ (by simp [hl] <;> omega)) (fun i hi => ?_)
  obtain ⟨hi0, hi1⟩ := hi
  simp -implicitDefEqProofs only [go_sem]
  refine if_splitP (fun h => ?_) (fun h => ?_)
  · have hlt : i < xs.length := by omega
    have hlt' : i < ys.length := by omega
    have hg := map_get (f := iV) hlt
    have hg' := map_get (f := iV) hlt'
    by_cases he : xs[i] = ys[i]
    · (repeat' (first | simp -implicitDefEqProofs only [hg, hg', hlt, hlt', he, go_sem] | (refine And.intro ?_ ?_; omega) | (refine And.intro (shr_bd ?_ ?_) ?_; omega; omega) | refine sl_list rfl ?_ | refine sd_list rfl ?_ | refine sl_str ?_ | refine sd_str ?_))
      exact ⟨i + 1, ⟨by omega, fun j hj hj' hji => by
        by_cases e : j = i
        · subst e; exact he
        · exact hi1 j hj hj' (by omega)⟩, by omega, weak_of (fun i => i) (fun i => i) rfl ⟨by simp <;> omega, by simp <;> omega, by simp <;> omega, by simp <;> omega, by simp <;> omega⟩ (by simp <;> omega)⟩
    · have hne := ne_at hlt hlt' he
      (repeat' (first | simp -implicitDefEqProofs only [hg, hg', hlt, hlt', he, go_sem] | (refine And.intro ?_ ?_; omega) | (refine And.intro (shr_bd ?_ ?_) ?_; omega; omega) | refine sl_list rfl ?_ | refine sd_list rfl ?_ | refine sl_str ?_ | refine sd_str ?_))
      exact fin_scal rfl (by simp [hne, retOf])
  · have e : i = xs.length := by omega
    subst e
    have he : xs = ys := List.ext_getElem (by omega) fun j h1 h2 => hi1 j h1 h2 h1
    (repeat' (first | simp -implicitDefEqProofs only [go_sem] | (refine And.intro ?_ ?_; omega) | (refine And.intro (shr_bd ?_ ?_) ?_; omega; omega) | refine sl_list rfl ?_ | refine sd_list rfl ?_ | refine sl_str ?_ | refine sd_str ?_))
    exact fin_scal rfl (by simp [he, retOf])
noncomputable def isReplay (t : Tb) (l : List Ac) (ns : List Int) : Bool := runOk t l && decide (runsN t l = ns)
end Go.Proofs.YtahnbliabllflaaGreatDoor
