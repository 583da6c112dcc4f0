/-
  Draws of acts.
-/
import Derived.Test.YtahnbliabllflaaGreatDoorS5
import Derived.Test.YtahnbliabllflaaGreatDoorT1
import Derived.Test.YtahnbliabllflaaGreatDoorZ1
import Derived.Test.YtahnbliabllflaaGreatDoorTAe
namespace Go.Proofs.YtahnbliabllflaaGreatDoor
open Go.PL
set_option linter.unusedSimpArgs false
theorem sample_ok : tableOk (openT smX 7 300) = true := by kernel_rfl
theorem sample_jr : (openT smX 7 300).g.j = [] ∧ (openT smX 7 300).r = [] := by
  constructor <;> (unfold openT; split <;> rfl)
theorem l39Table_ex {B : Bs} (c : Cr B) : ∃ t : Tb, tableOk t = true ∧ Drw 35 c [] (.s (.a (tbL t))) := by
  by_cases h : belN c 2 = 0
  · have e0 := sample_jr.1
    have e1 := sample_jr.2
    have s1 := SampleTable_c
    refine ⟨openT smX 7 300, sample_ok, belC c 2, ?_⟩
    generalize openT smX 7 300 = T at e0 e1 s1
    refine pc_of Tryz.func35 rfl (by kernel_rfl) _ Tryz.ntmps35 (by simp) ?_
    repeat' first
      | (first | simp -implicitDefEqProofs only [h, go_sem] | (refine And.intro ?_ ?_; omega) | (refine And.intro (shr_bd ?_ ?_) ?_; omega; omega) | refine sl_list rfl ?_ | refine sd_list rfl ?_ | refine sl_str ?_ | refine sd_str ?_)
      | refine callC (once_c c 2) rfl rfl rfl rfl rfl ?_
      | refine callL2 (fun d e h => s1 d e h) rfl rfl rfl ?_
    refine fin_see ?_
    simp -implicitDefEqProofs only [go_sem]
    exact fin_of (fun i => i) (fun i => i) ⟨by simp [e0, e1] <;> omega, by simp [e0, e1] <;> omega, by simp [e0, e1] <;> omega, by simp [e0, e1] <;> omega, by simp [e0, e1] <;> omega⟩ (by simp [e0, e1] <;> omega) (by first | rfl | (simp [renPV, renV1, renC, e0, e1]))
  · obtain ⟨t, ht, c1, p1⟩ := l38Table_ex (belC c 2)
    refine ⟨t, (drawnT_ok ht).1, c1, ?_⟩
    refine pc_of Tryz.func35 rfl (by kernel_rfl) _ Tryz.ntmps35 (by simp) ?_
    repeat' first
      | (first | simp -implicitDefEqProofs only [h, go_sem] | (refine And.intro ?_ ?_; omega) | (refine And.intro (shr_bd ?_ ?_) ?_; omega; omega) | refine sl_list rfl ?_ | refine sd_list rfl ?_ | refine sl_str ?_ | refine sd_str ?_)
      | refine callC (once_c c 2) rfl rfl rfl rfl rfl ?_
      | refine callC p1 rfl rfl rfl rfl rfl ?_
    exact fin_of (fun i => i) (fun i => i) ⟨by simp <;> omega, by simp <;> omega, by simp <;> omega, by simp <;> omega, by simp <;> omega⟩ (by simp <;> omega) rfl
theorem line_act {b : Brd} {l : Ln} (h : l ∈ linesOf b) : actOk 1 l.f l.t = true := by
  obtain ⟨f0, f1, t0, t1⟩ := mem_line_bd h
  have w1 : within l.f 0 48 = true := within_iff.2 (by omega)
  have w2 : within l.t 0 48 = true := within_iff.2 (by omega)
  simp [actOk, w1, w2]
set_option maxHeartbeats 8000000 in
theorem l39Act_ex {B : Bs} (c : Cr B) (t : Tb) : ∃ (a : Ac) (c' : Cr B), actOk a.k a.a a.b = true ∧ PC Tryz.prog 91 [(9000, crC c)] [.c (.p 9000 0), .a (tbL t)] (.s (.a (actC a))) ⟨[(9000, crC c')], []⟩ := by
  have r9 := bel_rg c (n := 9) (by omega)
  by_cases h0 : belN c 9 = 0
  · have b1 := bel_rg (belC c 9) (n := 20) (by omega)
    have w1 : within (belN (belC c 9) 20) 0 100 = true := within_iff.2 (by omega)
    refine ⟨⟨2, belN (belC c 9) 20, 0⟩, belC (belC c 9) 20, by simp [actOk, w1], ?_⟩
    refine pc_of Tryz.func91 rfl (by kernel_rfl) _ Tryz.ntmps91 (by simp) ?_
    repeat' first
      | (first | simp -implicitDefEqProofs only [h0, go_sem] | (refine And.intro ?_ ?_; omega) | (refine And.intro (shr_bd ?_ ?_) ?_; omega; omega) | refine sl_list rfl ?_ | refine sd_list rfl ?_ | refine sl_str ?_ | refine sd_str ?_)
      | refine callC (bel_c c 9) rfl rfl rfl rfl rfl ?_
      | refine callC (bel_c (belC c 9) 20) rfl rfl rfl rfl rfl ?_
    exact fin_of (fun i => i) (fun i => i) ⟨by simp <;> omega, by simp <;> omega, by simp <;> omega, by simp <;> omega, by simp <;> omega⟩ (by simp <;> omega) rfl
  by_cases h1 : belN c 9 = 1
  · refine ⟨⟨3, 0, 0⟩, belC c 9, by simp [actOk], ?_⟩
    refine pc_of Tryz.func91 rfl (by kernel_rfl) _ Tryz.ntmps91 (by simp) ?_
    repeat' first
      | (first | simp -implicitDefEqProofs only [h0, h1, go_sem] | (refine And.intro ?_ ?_; omega) | (refine And.intro (shr_bd ?_ ?_) ?_; omega; omega) | refine sl_list rfl ?_ | refine sd_list rfl ?_ | refine sl_str ?_ | refine sd_str ?_)
      | refine callC (bel_c c 9) rfl rfl rfl rfl rfl ?_
    exact fin_of (fun i => i) (fun i => i) ⟨by simp <;> omega, by simp <;> omega, by simp <;> omega, by simp <;> omega, by simp <;> omega⟩ (by simp <;> omega) rfl
  by_cases h2 : belN c 9 = 2
  · refine ⟨⟨3, 0, 0⟩, belC c 9, by simp [actOk], ?_⟩
    refine pc_of Tryz.func91 rfl (by kernel_rfl) _ Tryz.ntmps91 (by simp) ?_
    repeat' first
      | (first | simp -implicitDefEqProofs only [h0, h1, h2, go_sem] | (refine And.intro ?_ ?_; omega) | (refine And.intro (shr_bd ?_ ?_) ?_; omega; omega) | refine sl_list rfl ?_ | refine sd_list rfl ?_ | refine sl_str ?_ | refine sd_str ?_)
      | refine callC (bel_c c 9) rfl rfl rfl rfl rfl ?_
    exact fin_of (fun i => i) (fun i => i) ⟨by simp <;> omega, by simp <;> omega, by simp <;> omega, by simp <;> omega, by simp <;> omega⟩ (by simp <;> omega) rfl
  by_cases h3 : belN c 9 = 3
  · have b1 := bel_rg (belC c 9) (n := 14) (by omega)
    have b2 := bel_rg (belC (belC c 9) 14) (n := 200) (by omega)
    have w1 : within (belN (belC c 9) 14) 0 999 = true := within_iff.2 (by omega)
    have w2 : within (belN (belC (belC c 9) 14) 200) 0 9999 = true := within_iff.2 (by omega)
    refine ⟨⟨4, belN (belC c 9) 14, belN (belC (belC c 9) 14) 200⟩, belC (belC (belC c 9) 14) 200, by simp [actOk, w1, w2], ?_⟩
    refine pc_of Tryz.func91 rfl (by kernel_rfl) _ Tryz.ntmps91 (by simp) ?_
    repeat' first
      | (first | simp -implicitDefEqProofs only [h0, h1, h2, h3, go_sem] | (refine And.intro ?_ ?_; omega) | (refine And.intro (shr_bd ?_ ?_) ?_; omega; omega) | refine sl_list rfl ?_ | refine sd_list rfl ?_ | refine sl_str ?_ | refine sd_str ?_)
      | refine callC (bel_c c 9) rfl rfl rfl rfl rfl ?_
      | refine callC (bel_c (belC c 9) 14) rfl rfl rfl rfl rfl ?_
      | refine callC (bel_c (belC (belC c 9) 14) 200) rfl rfl rfl rfl rfl ?_
    exact fin_of (fun i => i) (fun i => i) ⟨by simp <;> omega, by simp <;> omega, by simp <;> omega, by simp <;> omega, by simp <;> omega⟩ (by simp <;> omega) rfl
  by_cases h4 : belN c 9 = 4
  · refine ⟨⟨5, 0, 0⟩, belC c 9, by simp [actOk], ?_⟩
    refine pc_of Tryz.func91 rfl (by kernel_rfl) _ Tryz.ntmps91 (by simp) ?_
    repeat' first
      | (first | simp -implicitDefEqProofs only [h0, h1, h2, h3, h4, go_sem] | (refine And.intro ?_ ?_; omega) | (refine And.intro (shr_bd ?_ ?_) ?_; omega; omega) | refine sl_list rfl ?_ | refine sd_list rfl ?_ | refine sl_str ?_ | refine sd_str ?_)
      | refine callC (bel_c c 9) rfl rfl rfl rfl rfl ?_
    exact fin_of (fun i => i) (fun i => i) ⟨by simp <;> omega, by simp <;> omega, by simp <;> omega, by simp <;> omega, by simp <;> omega⟩ (by simp <;> omega) rfl
  have hl := linesOf_len (b := t.g.x.b)
  by_cases hz : (linesOf t.g.x.b).length = 0
  · have g0 : ((linesOf t.g.x.b).length : Int) = 0 := by omega
    refine ⟨⟨1, 0, 2⟩, belC c 9, by decide, ?_⟩
    refine pc_of Tryz.func91 rfl (by kernel_rfl) _ Tryz.ntmps91 (by simp) ?_
    repeat' first
      | (first | simp -implicitDefEqProofs only [h0, h1, h2, h3, h4, g0, go_sem] | (refine And.intro ?_ ?_; omega) | (refine And.intro (shr_bd ?_ ?_) ?_; omega; omega) | refine sl_list rfl ?_ | refine sd_list rfl ?_ | refine sl_str ?_ | refine sd_str ?_)
      | refine callC (bel_c c 9) rfl rfl rfl rfl rfl ?_
      | refine callL1 (fun d => LinesOf_c d t.g.x.b) rfl rfl rfl ?_
    exact fin_of (fun i => i) (fun i => i) ⟨by simp <;> omega, by simp <;> omega, by simp <;> omega, by simp <;> omega, by simp <;> omega⟩ (by simp <;> omega) rfl
  · have g0 : ¬ ((linesOf t.g.x.b).length : Int) = 0 := by omega
    have b1 := bel_rg (belC c 9) (n := (linesOf t.g.x.b).length) (by omega)
    obtain ⟨j, ej⟩ : ∃ j : Nat, belN (belC c 9) (linesOf t.g.x.b).length = j := ⟨(belN (belC c 9) (linesOf t.g.x.b).length).toNat, by omega⟩
    have hj : j < (linesOf t.g.x.b).length := by omega
    have g1 := map_get (f := lineV) hj
    have ha := line_act (List.getElem_mem hj)
    generalize (linesOf t.g.x.b)[j] = l at g1 ha
    refine ⟨⟨1, l.f, l.t⟩, belC (belC c 9) (linesOf t.g.x.b).length, ha, ?_⟩
    refine pc_of Tryz.func91 rfl (by kernel_rfl) _ Tryz.ntmps91 (by simp) ?_
    repeat' first
      | (first | simp -implicitDefEqProofs only [h0, h1, h2, h3, h4, g0, ej, g1, hj, lineV, go_sem] | (refine And.intro ?_ ?_; omega) | (refine And.intro (shr_bd ?_ ?_) ?_; omega; omega) | refine sl_list rfl ?_ | refine sd_list rfl ?_ | refine sl_str ?_ | refine sd_str ?_)
      | refine callC (bel_c c 9) rfl rfl rfl rfl rfl ?_
      | refine callC (bel_c (belC c 9) _) rfl rfl rfl rfl rfl ?_
      | refine callL1 (fun d => LinesOf_c d t.g.x.b) rfl rfl rfl ?_
    exact fin_of (fun i => i) (fun i => i) ⟨by simp <;> omega, by simp <;> omega, by simp <;> omega, by simp <;> omega, by simp <;> omega⟩ (by simp <;> omega) rfl
noncomputable def actA {B : Bs} (c : Cr B) (t : Tb) : Ac := (l39Act_ex c t).choose
noncomputable def actK {B : Bs} (c : Cr B) (t : Tb) : Cr B := (l39Act_ex c t).choose_spec.choose
theorem act_okA {B : Bs} (c : Cr B) (t : Tb) : actOk (actA c t).k (actA c t).a (actA c t).b = true := (l39Act_ex c t).choose_spec.choose_spec.1
theorem act_cA {B : Bs} (c : Cr B) (t : Tb) : PC Tryz.prog 91 [(9000, crC c)] [.c (.p 9000 0), .a (tbL t)] (.s (.a (actC (actA c t)))) ⟨[(9000, crC (actK c t))], []⟩ := (l39Act_ex c t).choose_spec.choose_spec.2
noncomputable def goodsJ (t : Tb) : List Ln := jumpsOf t.g.x.b (nowOf t.g)
noncomputable def nextA {B : Bs} (c : Cr B) (t : Tb) : Ac × Cr B :=
  if (actA c t).k = 1 ∧ 0 < (goodsJ t).length then
    if 0 < belN (actK c t) 4 then
      (⟨1, ((goodsJ t)[(belN (belC (actK c t) 4) (goodsJ t).length).toNat]?.getD ⟨0, 0, 0⟩).f, ((goodsJ t)[(belN (belC (actK c t) 4) (goodsJ t).length).toNat]?.getD ⟨0, 0, 0⟩).t⟩, belC (belC (actK c t) 4) (goodsJ t).length)
    else (actA c t, belC (actK c t) 4)
  else (actA c t, actK c t)
theorem nextA_ok {B : Bs} {c : Cr B} {t : Tb} : actOk (nextA c t).1.k (nextA c t).1.a (nextA c t).1.b = true := by
  unfold nextA
  split
  · rename_i h
    split
    · have b1 := bel_rg (belC (actK c t) 4) (n := (goodsJ t).length) (by omega)
      have hj : (belN (belC (actK c t) 4) (goodsJ t).length).toNat < (goodsJ t).length := by omega
      have hm : (goodsJ t)[(belN (belC (actK c t) 4) (goodsJ t).length).toNat] ∈ goodsJ t := List.getElem_mem hj
      have hl := (jumps_mem hm).2.1
      rw [List.getElem?_eq_getElem hj]
      exact line_act hl
    · exact act_okA c t
  · exact act_okA c t
noncomputable def listA {B : Bs} : Nat → Tb × List Ac × Cr B → Tb × List Ac × Cr B
  | 0, s => s
  | k + 1, s => listA k (doT s.1 (nextA s.2.2 s.1).1, s.2.1 ++ [(nextA s.2.2 s.1).1], (nextA s.2.2 s.1).2)
structure LaOk {B : Bs} (i : Nat) (s : Tb × List Ac × Cr B) : Prop where
  t : tableOk s.1 = true
  len : s.2.1.length = i
  ok : ∀ a ∈ s.2.1, actOk a.k a.a a.b = true
theorem la_step {B : Bs} {i : Nat} {s : Tb × List Ac × Cr B} (h : LaOk i s) : LaOk (i + 1) (doT s.1 (nextA s.2.2 s.1).1, s.2.1 ++ [(nextA s.2.2 s.1).1], (nextA s.2.2 s.1).2) := by
  refine ⟨doT_ok h.t, by simp [h.len], fun a ha => ?_⟩
  rcases List.mem_append.1 ha with ha | ha
  · exact h.ok a ha
  · simp only [List.mem_singleton] at ha
    rw [ha]; exact nextA_ok
theorem listA_ok {B : Bs} : ∀ (k i : Nat) (s : Tb × List Ac × Cr B), LaOk i s → LaOk (i + k) (listA k s)
  | 0, i, s, h => h
  | k + 1, i, s, h => by
    have := listA_ok k (i + 1) _ (la_step h)
    have e : i + (k + 1) = i + 1 + k := by omega
    rw [e]; exact this
set_option maxRecDepth 20000 in
set_option maxHeartbeats 32000000 in
theorem l39List_ex {B : Bs} (c : Cr B) {t : Tb} (ht : tableOk t = true) : ∃ acts : List Ac, acts.length ≤ 15 ∧ (∀ a ∈ acts, actOk a.k a.a a.b = true) ∧ Drw 36 c [.a (tbL t)] (.s (.c (.l 3 (acts.map actV)))) := by
  have b0 := bel_rg c (n := 16) (by omega)
  obtain ⟨n, en⟩ : ∃ n : Nat, belN c 16 = n := ⟨(belN c 16).toNat, by omega⟩
  obtain ⟨F, eF⟩ : ∃ F, F = listA n (t, [], belC c 16) := ⟨_, rfl⟩
  have hF : LaOk (0 + n) F := by rw [eF]; exact listA_ok _ 0 _ ⟨ht, rfl, by simp⟩
  refine ⟨F.2.1, by rw [hF.len]; omega, hF.ok, F.2.2, ?_⟩
  refine pc_of Tryz.func36 rfl (by kernel_rfl) _ Tryz.ntmps36 (by simp) ?_
  repeat' first
    | (first | simp -implicitDefEqProofs only [en, go_sem] | (refine And.intro ?_ ?_; omega) | (refine And.intro (shr_bd ?_ ?_) ?_; omega; omega) | refine sl_list rfl ?_ | refine sd_list rfl ?_ | refine sl_str ?_ | refine sd_str ?_)
    | refine callC (bel_c c 16) rfl rfl rfl rfl rfl ?_
  refine loop_step (X := Nat × Tb × List Ac × Cr B) (fun x => ⟨66, [(0, .s (.c (.p 9000 0))), (3, .s (.c (.p 3 0))), (5, vO 11), (6, vN n), (7, vN x.1)], ⟨[(9000, crC x.2.2.2), (3, tbL x.2.1)], [(11, ⟨42, 3, x.2.2.1.map actV, true, true⟩)]⟩⟩)
    (fun x => x.1 ≤ n ∧ LaOk x.1 x.2 ∧ listA (n - x.1) x.2 = F) (fun x => n - x.1) (0, t, [], belC c 16) ⟨by simp, ⟨ht, rfl, by simp⟩, by simp [eF]⟩ (weak_pub (by simp -implicitDefEqProofs only [go_sem]; exact weak_of (fun i => i) (fun i => i) rfl ⟨by simp <;> omega, by simp <;> omega, by simp <;> omega, by simp <;> omega, by simp <;> omega⟩ (by simp <;> omega))) (fun x hx => ?_)
  obtain ⟨i, T, acs, d⟩ := x
  obtain ⟨hx1, hx2, hx3⟩ := hx
  have hT := tbS_of hx2.t
  have hlen := hx2.len
  have hjl := jumps_len (b := T.g.x.b) (p := nowOf T.g)
  have hnow := nowOf_le (g := T.g)
  have gi : GmIn T.g := hT.tb.g
  simp only at hx1 hx3 hlen hT
  by_cases hlt : i < n
  · have e0 : ((i : Int) < (n : Int)) = True := eq_true (by omega)
    have hk : n - i = (n - (i + 1)) + 1 := by omega
    rw [hk] at hx3
    have hst := la_step hx2
    simp only [listA] at hx3
    simp only at hst
    by_cases h1 : (actA d T).k = 1
    · obtain ⟨a', b', eA⟩ : ∃ a' b', actA d T = ⟨1, a', b'⟩ := ⟨(actA d T).a, (actA d T).b, by revert h1; generalize actA d T = q; intro h1; cases q; simp only at h1; subst h1; rfl⟩
      by_cases h2 : 0 < (goodsJ T).length
      · have g2 : ((0 : Int) < ((jumpsOf T.g.x.b (nowOf T.g)).length : Int)) = True := eq_true (by simp only [goodsJ] at h2; omega)
        by_cases h3 : 0 < belN (actK d T) 4
        · have g3 : ((0 : Int) < belN (actK d T) 4) = True := eq_true h3
          have b1 := bel_rg (belC (actK d T) 4) (n := (goodsJ T).length) (by omega)
          obtain ⟨j, ej⟩ : ∃ j : Nat, belN (belC (actK d T) 4) (goodsJ T).length = j := ⟨(belN (belC (actK d T) 4) (goodsJ T).length).toNat, by omega⟩
          have hj : j < (jumpsOf T.g.x.b (nowOf T.g)).length := by simp only [goodsJ] at b1 ej; omega
          have ej' : belN (belC (actK d T) 4) ((jumpsOf T.g.x.b (nowOf T.g)).length : Int) = j := ej
          have g1 := map_get (f := lineV) hj
          have en : nextA d T = (⟨1, (jumpsOf T.g.x.b (nowOf T.g))[j].f, (jumpsOf T.g.x.b (nowOf T.g))[j].t⟩, belC (belC (actK d T) 4) (jumpsOf T.g.x.b (nowOf T.g)).length) := by
            unfold nextA
            rw [if_pos ⟨h1, h2⟩, if_pos h3, ej, Int.toNat_natCast]
            simp only [goodsJ]
            rw [List.getElem?_eq_getElem hj]
            rfl
          rw [en] at hx3 hst
          generalize (jumpsOf T.g.x.b (nowOf T.g))[j] = l at g1 hx3 hst
          repeat' first
            | (first | simp -implicitDefEqProofs only [e0, h1, g2, g3, ej', g1, hj, lineV, go_sem] | (refine And.intro ?_ ?_; omega) | (refine And.intro (shr_bd ?_ ?_) ?_; omega; omega) | refine sl_list rfl ?_ | refine sd_list rfl ?_ | refine sl_str ?_ | refine sd_str ?_)
            | refine callC (act_cA d T) rfl rfl rfl rfl rfl ?_
            | refine draw_stepY Tryz.pl_follows (by kernel_rfl) ?_
            | refine callS (NowOf_c T.g gi) rfl rfl rfl ?_
            | refine callL1 (fun d => JumpsOf_c d T.g.x.b (nowOf T.g) hnow) rfl rfl rfl ?_
            | refine callC (bel_c (actK d T) 4) rfl rfl rfl rfl rfl ?_
            | refine callC (bel_c (belC (actK d T) 4) _) rfl rfl rfl rfl rfl ?_
            | refine callL2 (fun d e h => DoAct_c d e h T ⟨1, l.f, l.t⟩ hT) rfl rfl rfl ?_
          refine ⟨(i + 1, doT T ⟨1, l.f, l.t⟩, acs ++ [⟨1, l.f, l.t⟩], belC (belC (actK d T) 4) (jumpsOf T.g.x.b (nowOf T.g)).length), ⟨by simp only; omega, hst, hx3⟩, by simp only; omega, weak_see [58, 1058] (by simp -implicitDefEqProofs only [go_sem]; exact weak_of (fun i => i) (fun i => if i = 11 then 64 else i) rfl ⟨by simp [actV] <;> omega, by simp [actV] <;> omega, by simp [actV] <;> omega, by simp [actV] <;> omega, by simp [actV] <;> omega⟩ (by simp [actV] <;> omega))⟩
        · have g3 : ((0 : Int) < belN (actK d T) 4) = False := eq_false h3
          have en : nextA d T = (actA d T, belC (actK d T) 4) := by
            unfold nextA
            rw [if_pos ⟨h1, h2⟩, if_neg h3]
          rw [en, eA] at hx3 hst
          repeat' first
            | (first | simp -implicitDefEqProofs only [e0, eA, g2, g3, go_sem] | (refine And.intro ?_ ?_; omega) | (refine And.intro (shr_bd ?_ ?_) ?_; omega; omega) | refine sl_list rfl ?_ | refine sd_list rfl ?_ | refine sl_str ?_ | refine sd_str ?_)
            | refine callC (act_cA d T) rfl rfl rfl rfl rfl ?_
            | refine draw_stepY Tryz.pl_follows (by kernel_rfl) ?_
            | refine callS (NowOf_c T.g gi) rfl rfl rfl ?_
            | refine callL1 (fun d => JumpsOf_c d T.g.x.b (nowOf T.g) hnow) rfl rfl rfl ?_
            | refine callC (bel_c (actK d T) 4) rfl rfl rfl rfl rfl ?_
            | refine callL2 (fun d' e h => DoAct_c d' e h T ⟨1, a', b'⟩ hT) rfl rfl rfl ?_
          refine ⟨(i + 1, doT T ⟨1, a', b'⟩, acs ++ [⟨1, a', b'⟩], belC (actK d T) 4), ⟨by simp only; omega, hst, hx3⟩, by simp only; omega, weak_see [58, 1058] (by simp -implicitDefEqProofs only [go_sem]; exact weak_of (fun i => i) (fun i => if i = 11 then 64 else i) rfl ⟨by simp [actV] <;> omega, by simp [actV] <;> omega, by simp [actV] <;> omega, by simp [actV] <;> omega, by simp [actV] <;> omega⟩ (by simp [actV] <;> omega))⟩
      · have g2 : ((0 : Int) < ((jumpsOf T.g.x.b (nowOf T.g)).length : Int)) = False := eq_false (by simp only [goodsJ] at h2; omega)
        have en : nextA d T = (actA d T, actK d T) := by
          unfold nextA
          rw [if_neg (fun h => h2 h.2)]
        rw [en, eA] at hx3 hst
        repeat' first
          | (first | simp -implicitDefEqProofs only [e0, eA, g2, go_sem] | (refine And.intro ?_ ?_; omega) | (refine And.intro (shr_bd ?_ ?_) ?_; omega; omega) | refine sl_list rfl ?_ | refine sd_list rfl ?_ | refine sl_str ?_ | refine sd_str ?_)
          | refine callC (act_cA d T) rfl rfl rfl rfl rfl ?_
          | refine draw_stepY Tryz.pl_follows (by kernel_rfl) ?_
          | refine callS (NowOf_c T.g gi) rfl rfl rfl ?_
          | refine callL1 (fun d => JumpsOf_c d T.g.x.b (nowOf T.g) hnow) rfl rfl rfl ?_
          | refine callL2 (fun d' e h => DoAct_c d' e h T ⟨1, a', b'⟩ hT) rfl rfl rfl ?_
        refine ⟨(i + 1, doT T ⟨1, a', b'⟩, acs ++ [⟨1, a', b'⟩], actK d T), ⟨by simp only; omega, hst, hx3⟩, by simp only; omega, weak_see [58, 1058] (by simp -implicitDefEqProofs only [go_sem]; exact weak_of (fun i => i) (fun i => if i = 11 then 64 else i) rfl ⟨by simp [actV] <;> omega, by simp [actV] <;> omega, by simp [actV] <;> omega, by simp [actV] <;> omega, by simp [actV] <;> omega⟩ (by simp [actV] <;> omega))⟩
    · have g1 : ((actA d T).k = 1) = False := eq_false h1
      have en : nextA d T = (actA d T, actK d T) := by
        unfold nextA
        rw [if_neg (fun h => h1 h.1)]
      rw [en] at hx3 hst
      repeat' first
        | (first | simp -implicitDefEqProofs only [e0, g1, go_sem] | (refine And.intro ?_ ?_; omega) | (refine And.intro (shr_bd ?_ ?_) ?_; omega; omega) | refine sl_list rfl ?_ | refine sd_list rfl ?_ | refine sl_str ?_ | refine sd_str ?_)
        | refine callC (act_cA d T) rfl rfl rfl rfl rfl ?_
        | refine draw_stepY Tryz.pl_follows (by kernel_rfl) ?_
        | refine callS (NowOf_c T.g gi) rfl rfl rfl ?_
        | refine callL1 (fun d => JumpsOf_c d T.g.x.b (nowOf T.g) hnow) rfl rfl rfl ?_
        | refine callL2 (fun d' e h => DoAct_c d' e h T (actA d T) hT) rfl rfl rfl ?_
      refine ⟨(i + 1, doT T (actA d T), acs ++ [actA d T], actK d T), ⟨by simp only; omega, hst, hx3⟩, by simp only; omega, weak_see [58, 1058] (by simp -implicitDefEqProofs only [go_sem]; exact weak_of (fun i => i) (fun i => if i = 11 then 64 else i) rfl ⟨by simp [actV] <;> omega, by simp [actV] <;> omega, by simp [actV] <;> omega, by simp [actV] <;> omega, by simp [actV] <;> omega⟩ (by simp [actV] <;> omega))⟩
  · have e0 : ((i : Int) < (n : Int)) = False := eq_false (by omega)
    have hk : n - i = 0 := by omega
    rw [hk] at hx3
    simp only [listA] at hx3
    (repeat' (first | simp -implicitDefEqProofs only [e0, go_sem] | (refine And.intro ?_ ?_; omega) | (refine And.intro (shr_bd ?_ ?_) ?_; omega; omega) | refine sl_list rfl ?_ | refine sd_list rfl ?_ | refine sl_str ?_ | refine sd_str ?_))
    subst hx3
    refine fin_see ?_
    simp -implicitDefEqProofs only [go_sem]
    exact fin_of (fun i => i) (fun i => i) ⟨by simp <;> omega, by simp <;> omega, by simp <;> omega, by simp <;> omega, by simp <;> omega⟩ (by simp <;> omega) rfl
structure ActsOn (t : Tb) (acs : List Ac) : Prop where
  t : tableOk t = true
  len : acs.length ≤ 15
  ok : ∀ a ∈ acs, actOk a.k a.a a.b = true
set_option maxHeartbeats 4000000 in
theorem drawActs_ex (B : Bs) : ∃ (t : Tb) (acs : List Ac), ActsOn t acs ∧ PC Tryz.prog 8 [] [.c (.l 1 (B.l.map bV))] (.t [.a (tbL t), .c (.l 3 (acs.map actV))]) ⟨[], []⟩ := by
  obtain ⟨t, ht, c1, p1⟩ := l39Table_ex (newCr B)
  obtain ⟨acs, hl, ha, c2, p2⟩ := l39List_ex c1 ht
  refine ⟨t, acs, ⟨ht, hl, ha⟩, ?_⟩
  refine pc_of Tryz.func8 rfl (by kernel_rfl) _ Tryz.ntmps8 (by simp) ?_
  repeat' first
    | (first | simp -implicitDefEqProofs only [go_sem] | (refine And.intro ?_ ?_; omega) | (refine And.intro (shr_bd ?_ ?_) ?_; omega; omega) | refine sl_list rfl ?_ | refine sd_list rfl ?_ | refine sl_str ?_ | refine sd_str ?_)
    | refine callN (new_c B 9000) rfl rfl rfl rfl ?_
    | refine callC p1 rfl rfl rfl rfl rfl ?_
    | refine draw_stepY Tryz.pl_follows (by kernel_rfl) ?_
    | refine callC p2 rfl rfl rfl rfl rfl ?_
  exact fin_of (fun i => i) (fun i => i) ⟨by simp <;> omega, by simp <;> omega, by simp <;> omega, by simp <;> omega, by simp <;> omega⟩ (by simp <;> omega) rfl
end Go.Proofs.YtahnbliabllflaaGreatDoor
