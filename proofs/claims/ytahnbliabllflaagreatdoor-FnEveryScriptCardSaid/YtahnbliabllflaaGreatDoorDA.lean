/-
  Draws of acts.
-/
import Derived.Test.YtahnbliabllflaaGreatDoorS5
import Derived.Test.YtahnbliabllflaaGreatDoorT1
import Derived.Test.YtahnbliabllflaaGreatDoorZ1
import Derived.Test.YtahnbliabllflaaGreatDoorTAe
namespace Go.Proofs.YtahnbliabllflaaGreatDoor
open Go.PL
set_option linter.unusedSimpArgs false
theorem line_act {b : Brd} {l : Ln} (h : l ∈ linesOf b) : actOk 1 l.f l.t = true := by
  obtain ⟨f0, f1, t0, t1⟩ := mem_line_bd h
  have w1 : within l.f 0 48 = true := within_iff.2 (by omega)
  have w2 : within l.t 0 48 = true := within_iff.2 (by omega)
  simp [actOk, w1, w2]
set_option maxHeartbeats 8000000 in
theorem l39Act_ex {B : Bs} (c : Cr B) (t : Tb) : ∃ (a : Ac) (c' : Cr B), actOk a.k a.a a.b = true ∧ PC Tryz.prog 91 [(9000, crC c)] [.c (.p 9000 0), .a (tbL t)] (.s (.a (actC a))) ⟨[(9000, crC c')], []⟩ := by
  have r9 := bel_rg c (n := 9) (by omega)
  by_cases h0 : belN c 9 = 0
  · have b1 := bel_rg (belC c 9) (n := 20) (by omega)
    have w1 : within (belN (belC c 9) 20) 0 100 = true := within_iff.2 (by omega)
    refine ⟨⟨2, belN (belC c 9) 20, 0⟩, belC (belC c 9) 20, by simp [actOk, w1], ?_⟩
    refine pc_of Tryz.func91 rfl (by kernel_rfl) _ Tryz.ntmps91 (by simp) ?_
    repeat' first
      | (first | simp -implicitDefEqProofs only [h0, go_sem] | (refine And.intro ?_ ?_; omega) | (refine And.intro (shr_bd ?_ ?_) ?_; omega; omega) | refine sl_list rfl ?_ | refine sd_list rfl ?_ | refine sl_str ?_ | refine sd_str ?_)
      | refine callC (bel_c c 9) rfl rfl rfl rfl rfl ?_
      | refine callC (bel_c (belC c 9) 20) rfl rfl rfl rfl rfl ?_
    exact fin_of (fun i => i) (fun i => i) ⟨by simp <;> omega, by simp <;> omega, by simp <;> omega, by simp <;> omega, by simp <;> omega⟩ (by simp <;> omega) rfl
  by_cases h1 : belN c 9 = 1
  · refine ⟨⟨3, 0, 0⟩, belC c 9, by simp [actOk], ?_⟩
    refine pc_of Tryz.func91 rfl (by kernel_rfl) _ Tryz.ntmps91 (by simp) ?_
    repeat' first
      | (first | simp -implicitDefEqProofs only [h0, h1, go_sem] | (refine And.intro ?_ ?_; omega) | (refine And.intro (shr_bd ?_ ?_) ?_; omega; omega) | refine sl_list rfl ?_ | refine sd_list rfl ?_ | refine sl_str ?_ | refine sd_str ?_)
      | refine callC (bel_c c 9) rfl rfl rfl rfl rfl ?_
    exact fin_of (fun i => i) (fun i => i) ⟨by simp <;> omega, by simp <;> omega, by simp <;> omega, by simp <;> omega, by simp <;> omega⟩ (by simp <;> omega) rfl
  by_cases h2 : belN c 9 = 2
  · refine ⟨⟨3, 0, 0⟩, belC c 9, by simp [actOk], ?_⟩
    refine pc_of Tryz.func91 rfl (by kernel_rfl) _ Tryz.ntmps91 (by simp) ?_
    repeat' first
      | (first | simp -implicitDefEqProofs only [h0, h1, h2, go_sem] | (refine And.intro ?_ ?_; omega) | (refine And.intro (shr_bd ?_ ?_) ?_; omega; omega) | refine sl_list rfl ?_ | refine sd_list rfl ?_ | refine sl_str ?_ | refine sd_str ?_)
      | refine callC (bel_c c 9) rfl rfl rfl rfl rfl ?_
    exact fin_of (fun i => i) (fun i => i) ⟨by simp <;> omega, by simp <;> omega, by simp <;> omega, by simp <;> omega, by simp <;> omega⟩ (by simp <;> omega) rfl
  by_cases h3 : belN c 9 = 3
  · have b1 := bel_rg (belC c 9) (n := 14) (by omega)
    have b2 := bel_rg (belC (belC c 9) 14) (n := 200) (by omega)
    have w1 : within (belN (belC c 9) 14) 0 999 = true := within_iff.2 (by omega)
    have w2 : within (belN (belC (belC c 9) 14) 200) 0 9999 = true := within_iff.2 (by omega)
    refine ⟨⟨4, belN (belC c 9) 14, belN (belC (belC c 9) 14) 200⟩, belC (belC (belC c 9) 14) 200, by simp [actOk, w1, w2], ?_⟩
    refine pc_of Tryz.func91 rfl (by kernel_rfl) _ Tryz.ntmps91 (by simp) ?_
    repeat' first
      | (first | simp -implicitDefEqProofs only [h0, h1, h2, h3, go_sem] | (refine And.intro ?_ ?_; omega) | (refine And.intro (shr_bd ?_ ?_) ?_; omega; omega) | refine sl_list rfl ?_ | refine sd_list rfl ?_ | refine sl_str ?_ | refine sd_str ?_)
      | refine callC (bel_c c 9) rfl rfl rfl rfl rfl ?_
      | refine callC (bel_c (belC c 9) 14) rfl rfl rfl rfl rfl ?_
      | refine callC (bel_c (belC (belC c 9) 14) 200) rfl rfl rfl rfl rfl ?_
    exact fin_of (fun i => i) (fun i => i) ⟨by simp <;> omega, by simp <;> omega, by simp <;> omega, by simp <;> omega, by simp <;> omega⟩ (by simp <;> omega) rfl
  by_cases h4 : belN c 9 = 4
  · refine ⟨⟨5, 0, 0⟩, belC c 9, by simp [actOk], ?_⟩
    refine pc_of Tryz.func91 rfl (by kernel_rfl) _ Tryz.ntmps91 (by simp) ?_
    repeat' first
      | (first | simp -implicitDefEqProofs only [h0, h1, h2, h3, h4, go_sem] | (refine And.intro ?_ ?_; omega) | (refine And.intro (shr_bd ?_ ?_) ?_; omega; omega) | refine sl_list rfl ?_ | refine sd_list rfl ?_ | refine sl_str ?_ | refine sd_str ?_)
      | refine callC (bel_c c 9) rfl rfl rfl rfl rfl ?_
    exact fin_of (fun i => i) (fun i => i) ⟨by simp <;> omega, by simp <;> omega, by simp <;> omega, by simp <;> omega, by simp <;> omega⟩ (by simp <;> omega) rfl
  have hl := linesOf_len (b := t.g.x.b)
  by_cases hz : (linesOf t.g.x.b).length = 0
  · have g0 : ((linesOf t.g.x.b).length : Int) = 0 := by omega
    refine ⟨⟨1, 0, 2⟩, belC c 9, by decide, ?_⟩
    refine pc_of Tryz.func91 rfl (by kernel_rfl) _ Tryz.ntmps91 (by simp) ?_
    repeat' first
      | (first | simp -implicitDefEqProofs only [h0, h1, h2, h3, h4, g0, go_sem] | (refine And.intro ?_ ?_; omega) | (refine And.intro (shr_bd ?_ ?_) ?_; omega; omega) | refine sl_list rfl ?_ | refine sd_list rfl ?_ | refine sl_str ?_ | refine sd_str ?_)
      | refine callC (bel_c c 9) rfl rfl rfl rfl rfl ?_
      | refine callL1 (fun d => LinesOf_c d t.g.x.b) rfl rfl rfl ?_
    exact fin_of (fun i => i) (fun i => i) ⟨by simp <;> omega, by simp <;> omega, by simp <;> omega, by simp <;> omega, by simp <;> omega⟩ (by simp <;> omega) rfl
  · have g0 : ¬ ((linesOf t.g.x.b).length : Int) = 0 := by omega
    have b1 := bel_rg (belC c 9) (n := (linesOf t.g.x.b).length) (by omega)
    obtain ⟨j, ej⟩ : ∃ j : Nat, belN (belC c 9) (linesOf t.g.x.b).length = j := ⟨(belN (belC c 9) (linesOf t.g.x.b).length).toNat, by omega⟩
    have hj : j < (linesOf t.g.x.b).length := by omega
    have g1 := map_get (f := lineV) hj
    have ha := line_act (List.getElem_mem hj)
    generalize (linesOf t.g.x.b)[j] = l at g1 ha
    refine ⟨⟨1, l.f, l.t⟩, belC (belC c 9) (linesOf t.g.x.b).length, ha, ?_⟩
    refine pc_of Tryz.func91 rfl (by kernel_rfl) _ Tryz.ntmps91 (by simp) ?_
    repeat' first
      | (first | simp -implicitDefEqProofs only [h0, h1, h2, h3, h4, g0, ej, g1, hj, lineV, go_sem] | (refine And.intro ?_ ?_; omega) | (refine And.intro (shr_bd ?_ ?_) ?_; omega; omega) | refine sl_list rfl ?_ | refine sd_list rfl ?_ | refine sl_str ?_ | refine sd_str ?_)
      | refine callC (bel_c c 9) rfl rfl rfl rfl rfl ?_
      | refine callC (bel_c (belC c 9) _) rfl rfl rfl rfl rfl ?_
      | refine callL1 (fun d => LinesOf_c d t.g.x.b) rfl rfl rfl ?_
    exact fin_of (fun i => i) (fun i => i) ⟨by simp <;> omega, by simp <;> omega, by simp <;> omega, by simp <;> omega, by simp <;> omega⟩ (by simp <;> omega) rfl
noncomputable def actA {B : Bs} (c : Cr B) (t : Tb) : Ac := (l39Act_ex c t).choose
noncomputable def actK {B : Bs} (c : Cr B) (t : Tb) : Cr B := (l39Act_ex c t).choose_spec.choose
noncomputable def goodsJ (t : Tb) : List Ln := jumpsOf t.g.x.b (nowOf t.g)
noncomputable def nextA {B : Bs} (c : Cr B) (t : Tb) : Ac × Cr B :=
  if (actA c t).k = 1 ∧ 0 < (goodsJ t).length then
    if 0 < belN (actK c t) 4 then
      (⟨1, ((goodsJ t)[(belN (belC (actK c t) 4) (goodsJ t).length).toNat]?.getD ⟨0, 0, 0⟩).f, ((goodsJ t)[(belN (belC (actK c t) 4) (goodsJ t).length).toNat]?.getD ⟨0, 0, 0⟩).t⟩, belC (belC (actK c t) 4) (goodsJ t).length)
    else (actA c t, belC (actK c t) 4)
  else (actA c t, actK c t)
noncomputable def listA {B : Bs} : Nat → Tb × List Ac × Cr B → Tb × List Ac × Cr B
  | 0, s => s
  | k + 1, s => listA k (doT s.1 (nextA s.2.2 s.1).1, s.2.1 ++ [(nextA s.2.2 s.1).1], (nextA s.2.2 s.1).2)
structure LaOk {B : Bs} (i : Nat) (s : Tb × List Ac × Cr B) : Prop where
  t : tableOk s.1 = true
  len : s.2.1.length = i
  ok : ∀ a ∈ s.2.1, actOk a.k a.a a.b = true
structure ActsOn (t : Tb) (acs : List Ac) : Prop where
  t : tableOk t = true
  len : acs.length ≤ 15
  ok : ∀ a ∈ acs, actOk a.k a.a a.b = true
end Go.Proofs.YtahnbliabllflaaGreatDoor
