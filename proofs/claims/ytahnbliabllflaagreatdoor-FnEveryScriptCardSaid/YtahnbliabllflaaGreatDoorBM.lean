/-
  What actsOf computes; the law on every script.
-/
import Derived.Test.YtahnbliabllflaaGreatDoorBJ
import Derived.Test.YtahnbliabllflaaGreatDoorSG
namespace Go.Proofs.YtahnbliabllflaaGreatDoor
open Go.PL
set_option linter.unusedSimpArgs false
set_option linter.unusedVariables false
def scL (l : List UInt8) : List Ac := (scR l).getD []
theorem scL_no {l : List UInt8} (h : scR l = none) : scL l = [] := by simp [scL, h]
theorem scL_ok {l : List UInt8} {az : List Ac} (h : scR l = some az) : scL l = az := by simp [scL, h]
set_option maxRecDepth 20000 in
set_option maxHeartbeats 16000000 in
theorem actsOf_c (d : Nat) (l : List UInt8) (hl : l.length ≤ 1048576) : PC Tryz.prog 22 [] [.c (.v (.string (sB l)))] (.t [.c (.o d), .c (.v (.bool (scOk l))), .c (.v (.bool true))]) ⟨[], [(d, ⟨42, 3, (scL l).map actV, false, true⟩)]⟩ := by
  have p1 := fun d => iRunScript_c d l hl
  have p2 := fun d => RunScript_c d l hl
  have sl := scT_len (l := l)
  have st := sameTexts_c (scT l) (by omega)
  cases hz0 : scR l with
  | none =>
    have e := scOk_no hz0
    have eL := scL_no hz0
    rw [e] at p1 p2
    rw [e, eL]
    have f0 : ((0 : Int) ≤ (l.length : Int)) = True := eq_true (by omega)
    refine pc_of Tryz.func22 rfl (by kernel_rfl) _ Tryz.ntmps22 (by simp) ?_
    repeat' first
      | (first | simp -implicitDefEqProofs only [go_sem] | (refine And.intro ?_ ?_; omega) | (refine And.intro (shr_bd ?_ ?_) ?_; omega; omega) | refine sl_list rfl ?_ | refine sd_list rfl ?_ | refine sl_str ?_ | refine sd_str ?_)
      | refine callL1 p1 rfl rfl rfl ?_
      | refine callL1 p2 rfl rfl rfl ?_
      | refine callS st rfl rfl rfl ?_
    refine loop_step (X := Unit) (fun _ => ⟨89, [(0, vS l), (5, vO 16), (7, vB false), (11, vN 0)], ⟨[], [(16, ⟨42, 3, [], false, true⟩)]⟩⟩)
      (fun _ => True) (fun _ => 0) () trivial (weak_of (fun i => i) (fun i => i) rfl ⟨by simp <;> omega, by simp <;> omega, by simp <;> omega, by simp <;> omega, by simp <;> omega⟩ (by simp <;> omega)) (fun x hx => ?_)
    (repeat' (first | simp -implicitDefEqProofs only [f0, go_sem] | (refine And.intro ?_ ?_; omega) | (refine And.intro (shr_bd ?_ ?_) ?_; omega; omega) | refine sl_list rfl ?_ | refine sd_list rfl ?_ | refine sl_str ?_ | refine sd_str ?_))
    exact fin_of (fun i => i) (fun i => 16) ⟨by simp <;> omega, by simp <;> omega, by simp <;> omega, by simp <;> omega, by simp <;> omega⟩ (by simp <;> omega) rfl
  | some az0 =>
    have e := scOk_ok hz0
    have eL := scL_ok hz0
    rw [e] at p1 p2
    rw [e, eL]
    obtain ⟨hl2, hA, h40⟩ := scR_iff hz0
    have hbad := fun y => scA_bad (ls := lns l) (l := y)
    have hno := scR_bad (l := l)
    refine pc_of Tryz.func22 rfl (by kernel_rfl) _ Tryz.ntmps22 (by simp) ?_
    repeat' first
      | (first | simp -implicitDefEqProofs only [go_sem] | (refine And.intro ?_ ?_; omega) | (refine And.intro (shr_bd ?_ ?_) ?_; omega; omega) | refine sl_list rfl ?_ | refine sd_list rfl ?_ | refine sl_str ?_ | refine sd_str ?_)
      | refine callL1 p1 rfl rfl rfl ?_
      | refine callL1 p2 rfl rfl rfl ?_
      | refine callS st rfl rfl rfl ?_
    refine loop_step (X := Nat × Nat × List Ac) (fun x => ⟨89, [(0, vS l), (5, vO 16), (7, vB true), (10, vS ((l.drop x.2.1).take (x.1 - x.2.1))), (11, vN x.1)], ⟨[], [(16, ⟨42, 3, x.2.2.map actV, false, true⟩)]⟩⟩)
      (fun x => LnAt l x.1 x.2.1 x.2.2) (fun x => l.length + 1 - x.1) (0, 0, []) (ln_start l) (weak_of (fun i => i) (fun i => i) rfl ⟨by simp <;> omega, by simp <;> omega, by simp <;> omega, by simp <;> omega, by simp <;> omega⟩ (by simp <;> omega)) (fun x hx => ?_)
    obtain ⟨i, b, az⟩ := x
    simp only at hx
    have hle := hx.le
    have hlen := hx.len
    by_cases h1 : l.length < i
    · have e0 : ((i : Int) ≤ l.length) = False := eq_false (by omega)
      have haz := ln_done hx h1
      rw [hA] at haz
      obtain rfl := Option.some.inj haz
      (repeat' (first | simp -implicitDefEqProofs only [e0, go_sem] | (refine And.intro ?_ ?_; omega) | (refine And.intro (shr_bd ?_ ?_) ?_; omega; omega) | refine sl_list rfl ?_ | refine sd_list rfl ?_ | refine sl_str ?_ | refine sd_str ?_))
      exact fin_of (fun i => i) (fun i => 16) ⟨by simp <;> omega, by simp <;> omega, by simp <;> omega, by simp <;> omega, by simp <;> omega⟩ (by simp <;> omega) rfl
    have e0 : ((i : Int) ≤ l.length) = True := eq_true (by omega)
    have hbi := hx.bi (by omega)
    by_cases h2 : i < l.length
    · have e1 : ((i : Int) < l.length) = True := eq_true (by omega)
      have g1 : l[i]? = some l[i] := List.getElem?_eq_getElem h2
      have st1 := ln_byte hx h2
      have n1 := cut_next h2 hbi
      have ec : (l.drop i).take (i + 1 - i) = [l[i]] := by
        rw [List.drop_eq_getElem_cons h2, Nat.add_sub_cancel_left]; rfl
      have t1 : ((i : Int) + 1).toNat = i + 1 := by omega
      have cl : ((l.drop b).take (i - b)).length ≤ 20000 := by rw [List.length_take, List.length_drop]; omega
      have hc0 : l[i] = 10 → ∀ c, l[i]? = some c → c = 10 := fun h c hc => by rw [g1] at hc; exact (Option.some.inj hc).symm.trans h
      generalize l[i] = c at g1 st1 hc0 n1 ec
      by_cases c3 : c = 10
      · have f3 : ((c.toNat : Int) = 10) = True := eq_true (by rw [c3]; rfl)
        have hc := hc0 c3
        have ym := ln_mem hx (by omega) hc
        have le := fun ys => ln_end (ys := ys) hx (by omega) hc
        have yl : ((l.drop b).take (i - b)).length ≤ 1048576 := by rw [List.length_take, List.length_drop]; omega
        have hb := hbad _ ym
        have cn : (l.drop (i + 1)).take (i + 1 - (i + 1)) = [] := by rw [Nat.sub_self, List.take_zero]
        generalize (l.drop b).take (i - b) = y at *
        have sf := fun d => iSplitFields_c d y yl
        have pc := iParseAct_c y yl
        have hpt : blank y = false → paB y = true := fun h => by
          cases hp : paB y with
          | true => rfl
          | false => rw [hno (hb h (paL_none hp))] at hz0; cases hz0
        cases hf : fldsOk y with
        | false =>
          have e := paL_some (hpt (blank_f hf))
          rw [paL_no hf] at e
          cases e
        | true =>
          rw [hf] at sf
          simp only [fldsR_ok hf] at sf
          by_cases hz : flds y = []
          · have hbl := blank_t hf hz
            have nx := le [] (scA_blank hbl) (by simp)
            rw [List.append_nil] at nx
            have zl : ((0 : Int) < ((flds y).length : Int)) = False := by rw [hz]; simp
            generalize flds y = F at *
            repeat' first
              | (first | simp -implicitDefEqProofs only [e0, e1, g1, f3, List.length_map, zl, go_sem] | (refine And.intro ?_ ?_; omega) | (refine And.intro (shr_bd ?_ ?_) ?_; omega; omega) | refine sl_list rfl ?_ | refine sd_list rfl ?_ | refine sl_str ?_ | refine sd_str ?_)
              | refine callL1 sf rfl rfl rfl ?_
            exact ⟨(i + 1, i + 1, az), nx, by simp only; omega, weak_of (fun i => i) (fun i => i) rfl ⟨by simp [cn] <;> omega, by simp [cn] <;> omega, by simp [cn] <;> omega, by simp [cn] <;> omega, by simp [cn] <;> omega⟩ (by simp [cn] <;> omega)⟩
          · have hbl := blank_n hz
            have hp := hpt hbl
            have zl : ((0 : Int) < ((flds y).length : Int)) = True := eq_true (by
              have : (flds y).length ≠ 0 := fun h => hz (List.eq_nil_of_length_eq_zero h)
              omega)
            generalize flds y = F at *
            rw [hp] at pc
            have nx := le [paA y] (scA_one hbl (paL_some hp)) (by simp)
            generalize paA y = a at *
            repeat' first
              | (first | simp -implicitDefEqProofs only [e0, e1, g1, f3, List.length_map, List.length_append, List.length_cons, List.length_nil, zl, go_sem] | (refine And.intro ?_ ?_; omega) | (refine And.intro (shr_bd ?_ ?_) ?_; omega; omega) | refine sl_list rfl ?_ | refine sd_list rfl ?_ | refine sl_str ?_ | refine sd_str ?_)
              | refine callL1 sf rfl rfl rfl ?_
              | refine callS pc rfl rfl rfl ?_
            exact ⟨(i + 1, i + 1, az ++ [a]), nx, by simp only; omega, weak_of (fun i => i) (fun i => if i = 16 then 86 else i) rfl ⟨by simp [List.map_append, actV, cn] <;> omega, by simp [List.map_append, actV, cn] <;> omega, by simp [List.map_append, actV, cn] <;> omega, by simp [List.map_append, actV, cn] <;> omega, by simp [List.map_append, actV, cn] <;> omega⟩ (by simp [List.map_append, actV, cn] <;> omega)⟩
      · have f3 := u8_10 c3
        repeat' first
          | (first | simp -implicitDefEqProofs only [e0, e1, g1, f3, t1, ec, List.length_append, List.length_cons, List.length_nil, go_sem] | (refine And.intro ?_ ?_; omega) | (refine And.intro (shr_bd ?_ ?_) ?_; omega; omega) | refine sl_list rfl ?_ | refine sd_list rfl ?_ | refine sl_str ?_ | refine sd_str ?_)
        exact ⟨(i + 1, b, az), st1 c3, by simp only; omega, weak_of (fun i => i) (fun i => i) rfl ⟨by simp [n1] <;> omega, by simp [n1] <;> omega, by simp [n1] <;> omega, by simp [n1] <;> omega, by simp [n1] <;> omega⟩ (by simp [n1] <;> omega)⟩
    · have e1 : ((i : Int) < l.length) = False := eq_false (by omega)
      have hc : ∀ c, l[i]? = some c → c = 10 := fun c hc => by
        rw [List.getElem?_eq_none (by omega)] at hc
        cases hc
      have il : i = l.length := by omega
      have ym := ln_mem hx (by omega) hc
      have le := fun ys => ln_end (ys := ys) hx (by omega) hc
      have yl : ((l.drop b).take (i - b)).length ≤ 1048576 := by rw [List.length_take, List.length_drop]; omega
      have hb := hbad _ ym
      have cn : (l.drop (i + 1)).take (i + 1 - (i + 1)) = [] := by rw [Nat.sub_self, List.take_zero]
      generalize (l.drop b).take (i - b) = y at *
      have sf := fun d => iSplitFields_c d y yl
      have pc := iParseAct_c y yl
      have hpt : blank y = false → paB y = true := fun h => by
        cases hp : paB y with
        | true => rfl
        | false => rw [hno (hb h (paL_none hp))] at hz0; cases hz0
      cases hf : fldsOk y with
      | false =>
        have e := paL_some (hpt (blank_f hf))
        rw [paL_no hf] at e
        cases e
      | true =>
        rw [hf] at sf
        simp only [fldsR_ok hf] at sf
        by_cases hz : flds y = []
        · have hbl := blank_t hf hz
          have nx := le [] (scA_blank hbl) (by simp)
          rw [List.append_nil] at nx
          have zl : ((0 : Int) < ((flds y).length : Int)) = False := by rw [hz]; simp
          generalize flds y = F at *
          repeat' first
            | (first | simp -implicitDefEqProofs only [e0, e1, List.length_map, zl, go_sem] | (refine And.intro ?_ ?_; omega) | (refine And.intro (shr_bd ?_ ?_) ?_; omega; omega) | refine sl_list rfl ?_ | refine sd_list rfl ?_ | refine sl_str ?_ | refine sd_str ?_)
            | refine callL1 sf rfl rfl rfl ?_
          exact ⟨(i + 1, i + 1, az), nx, by simp only; omega, weak_of (fun i => i) (fun i => i) rfl ⟨by simp [cn] <;> omega, by simp [cn] <;> omega, by simp [cn] <;> omega, by simp [cn] <;> omega, by simp [cn] <;> omega⟩ (by simp [cn] <;> omega)⟩
        · have hbl := blank_n hz
          have hp := hpt hbl
          have zl : ((0 : Int) < ((flds y).length : Int)) = True := eq_true (by
            have : (flds y).length ≠ 0 := fun h => hz (List.eq_nil_of_length_eq_zero h)
            omega)
          generalize flds y = F at *
          rw [hp] at pc
          have nx := le [paA y] (scA_one hbl (paL_some hp)) (by simp)
          generalize paA y = a at *
          repeat' first
            | (first | simp -implicitDefEqProofs only [e0, e1, List.length_map, List.length_append, List.length_cons, List.length_nil, zl, go_sem] | (refine And.intro ?_ ?_; omega) | (refine And.intro (shr_bd ?_ ?_) ?_; omega; omega) | refine sl_list rfl ?_ | refine sd_list rfl ?_ | refine sl_str ?_ | refine sd_str ?_)
            | refine callL1 sf rfl rfl rfl ?_
            | refine callS pc rfl rfl rfl ?_
          exact ⟨(i + 1, i + 1, az ++ [a]), nx, by simp only; omega, weak_of (fun i => i) (fun i => if i = 16 then 86 else i) rfl ⟨by simp [List.map_append, actV, cn] <;> omega, by simp [List.map_append, actV, cn] <;> omega, by simp [List.map_append, actV, cn] <;> omega, by simp [List.map_append, actV, cn] <;> omega, by simp [List.map_append, actV, cn] <;> omega⟩ (by simp [List.map_append, actV, cn] <;> omega)⟩
set_option maxRecDepth 20000 in
set_option maxHeartbeats 64000000 in
theorem lawEveryScript_c (l : List UInt8) : PC Tryz.prog 6 [] [.c (.v (.string (sB l)))] (vB true) ⟨[], []⟩ := by
  by_cases hn : (1048576 : Int) < l.length
  · refine pc_of Tryz.func6 rfl (by kernel_rfl) _ Tryz.ntmps6 (by simp) ?_
    (repeat' (first | simp -implicitDefEqProofs only [hn, go_sem] | (refine And.intro ?_ ?_; omega) | (refine And.intro (shr_bd ?_ ?_) ?_; omega; omega) | refine sl_list rfl ?_ | refine sd_list rfl ?_ | refine sl_str ?_ | refine sd_str ?_))
    exact fin_scal rfl rfl
  have hb0 : ((1048576 : Int) < (l.length : Int)) = False := eq_false hn
  have pa := fun d => actsOf_c d l (by omega)
  cases hz0 : scR l with
  | none =>
    simp only [scOk_no hz0] at pa
    refine pc_of Tryz.func6 rfl (by kernel_rfl) _ Tryz.ntmps6 (by simp) ?_
    repeat' first
      | (first | simp -implicitDefEqProofs only [hb0, go_sem] | (refine And.intro ?_ ?_; omega) | (refine And.intro (shr_bd ?_ ?_) ?_; omega; omega) | refine sl_list rfl ?_ | refine sd_list rfl ?_ | refine sl_str ?_ | refine sd_str ?_)
      | refine callL1 pa rfl rfl rfl ?_
    exact fin_scal rfl rfl
  | some acs =>
  simp only [scOk_ok hz0, scL_ok hz0] at pa
  obtain ⟨_, _, hl⟩ := scR_iff hz0
  have ht := smp_ok
  have j0 := smp_jr.1
  have r0 := smp_jr.2
  have sm := iSampleTable_c
  generalize openT smX 7 300 = t at *
  obtain ⟨s, p0, N0⟩ := topN ht
  have s1 := pos_le N0.ps
  have hg1 := (tbS_of ht).x.2
  refine pc_of Tryz.func6 rfl (by kernel_rfl) _ Tryz.ntmps6 (by simp) ?_
  repeat' first
    | (first | simp -implicitDefEqProofs only [hb0, go_sem] | (refine And.intro ?_ ?_; omega) | (refine And.intro (shr_bd ?_ ?_) ?_; omega; omega) | refine sl_list rfl ?_ | refine sd_list rfl ?_ | refine sl_str ?_ | refine sd_str ?_)
    | refine callL1 pa rfl rfl rfl ?_
    | refine callL2 (fun d e h => sm d e h) rfl rfl rfl ?_
  refine loop_step (X := Nat) (fun i => ⟨229, [(6, .s (.c (.p 6 0))), (3, vL 3 (acs.map actV)), (7, vN t.g.x.s), (8, .s (.c (.p 8 0))), (9, vN (runT t (acs.take i)).g.h), (10, vN i)], ⟨[(6, tbL (runT t (acs.take i))), (8, brdC t.g.x.b)], []⟩⟩)
    (fun i => i ≤ acs.length) (fun i => acs.length - i) 0 (by omega) (weak_see [23, 34, 1034] (by simp -implicitDefEqProofs only [go_sem]; exact weak_of (fun i => i) (fun i => i) rfl ⟨by simp [runT, j0, r0] <;> omega, by simp [runT, j0, r0] <;> omega, by simp [runT, j0, r0] <;> omega, by simp [runT, j0, r0] <;> omega, by simp [runT, j0, r0] <;> omega⟩ (by simp [runT, j0, r0] <;> omega))) (fun i hi => ?_)
  have hT := runT_ok (l := acs.take i) ht
  have tS := tbS_of hT
  have ex := runT_x (t := t) (l := acs.take i)
  obtain ⟨s', p, N⟩ := topN hT
  have es : s' = s := by have := N.st; rw [ex, N0.st] at this; omega
  subst es
  have xb : (runT t (acs.take i)).g.x.b = t.g.x.b := by rw [ex]
  have xg : (runT t (acs.take i)).g.x.g = t.g.x.g := by rw [ex]
  have xs : t.g.x.s = (s' : Int) := N0.st
  by_cases hlt : i < acs.length
  · have e0 : ((i : Int) < acs.length) = True := eq_true (by omega)
    have g1 := map_get (f := actV) hlt
    have n1 := runT_next (t := t) hlt
    have hT' := doT_ok (a := acs[i]) hT
    have tS' := tbS_of hT'
    have ex' := doT_x (t := runT t (acs.take i)) (a := acs[i])
    rw [ex] at ex'
    have dh := doT_h (t := runT t (acs.take i)) (a := acs[i])
    have hr := hint_reach (t := runT t (acs.take i)) (a := acs[i]) hT
    rw [xb] at hr
    have hg2 := tS.x.2
    obtain ⟨s2, q, M⟩ := topN hT'
    have es2 : s2 = s' := by have := M.st; rw [ex', N0.st] at this; omega
    subst es2
    have xb' : (doT (runT t (acs.take i)) acs[i]).g.x.b = t.g.x.b := by rw [ex']
    have hNh := N.h
    have hMlen := M.len
    have q1 := pos_le M.pos
    have m1 := M.now
    have m2 := M.ps
    have m3 := M.pos
    have m4 := M.sol
    have m5 := M.key
    have m6 := M.cnt
    have m7 := M.aud
    rw [xb'] at m2 m3 m4 m5
    rw [m1] at hr
    have m6' : ((pegs q : Int) = (pegs s2 : Int) - ((doT (runT t (acs.take i)) acs[i]).g.j.length : Int)) = True := eq_true m6
    have pq : pegs q ≤ 49 := cardN_le
    have ps : pegs s2 ≤ 49 := cardN_le
    have gT' : GmIn (doT (runT t (acs.take i)) acs[i]).g := tS'.tb.g
    have four : ∀ Q : Prop, ((acs[i].k = 2) = True → (doN (runT t (acs.take i)) acs[i] = 1) = True → (doT (runT t (acs.take i)) acs[i]).g.h = (runT t (acs.take i)).g.h + 1 → canReach t.g.x.b (q : Int) (runT t (acs.take i)).g.x.g = true → Q) →
        ((acs[i].k = 2) = True → (doN (runT t (acs.take i)) acs[i] = 1) = False → (doT (runT t (acs.take i)) acs[i]).g.h = (runT t (acs.take i)).g.h → True → Q) →
        ((acs[i].k = 2) = False → True → (doT (runT t (acs.take i)) acs[i]).g.h = (runT t (acs.take i)).g.h → True → Q) → Q := fun Q x y z => by
      by_cases k2 : acs[i].k = 2
      · by_cases n2 : doN (runT t (acs.take i)) acs[i] = 1
        · exact x (eq_true k2) (eq_true n2) (by rw [dh, if_pos ⟨k2, n2⟩]) (hr k2 n2)
        · exact y (eq_true k2) (eq_false n2) (by rw [dh, if_neg (fun h => n2 h.2)]) trivial
      · exact z (eq_false k2) trivial (by rw [dh, if_neg (fun h => k2 h.1)]) trivial
    have dI := fun d e h => iDoAct_c d e h (runT t (acs.take i)) acs[i] tS
    have dS := fun d e h => DoAct_c d e h (runT t (acs.take i)) acs[i] tS
    generalize doN (runT t (acs.take i)) acs[i] = nn at *
    generalize doT (runT t (acs.take i)) acs[i] = T' at *
    generalize acs[i] = a at *
    generalize runT t (acs.take i) = T at *
    apply four
    · intro kk nn hh rr
      repeat' first
        | (first | simp -implicitDefEqProofs only [e0, g1, hlt, actV, kk, nn, rr, hT', m1, m4, m5, m6', m7, xs, go_sem] | (refine And.intro ?_ ?_; omega) | (refine And.intro (shr_bd ?_ ?_) ?_; omega; omega) | refine sl_list rfl ?_ | refine sd_list rfl ?_ | refine sl_str ?_ | refine sd_str ?_)
        | refine draw_stepY Tryz.pl_follows (by kernel_rfl) ?_
        | refine callL2 dI rfl rfl rfl ?_
        | refine callL2 dS rfl rfl rfl ?_
        | refine callS (iTableOk_c T' tS'.tb) rfl rfl rfl ?_
        | refine callS (iAuditTable_c T' tS'.tb) rfl rfl rfl ?_
        | refine callS (SameJumps_c T'.g.j (by omega)) rfl rfl rfl ?_
        | refine ne_ckF (x := T'.c) (by kernel_rfl) ?_
        | refine callS (iNowOf_c T'.g gT') rfl rfl rfl ?_
        | refine callS (IsSol_c t.g.x.b (s2 : Int) (q : Int) T'.g.j (by omega) (by omega)) rfl rfl rfl ?_
        | refine callS (iSameKey_c t.g.x.b (s2 : Int) (q : Int) m2 m3) rfl rfl rfl ?_
        | refine callS (CountPegs_c t.g.x.b q m3 (by omega)) rfl rfl rfl ?_
        | refine callS (CountPegs_c t.g.x.b s2 m2 (by omega)) rfl rfl rfl ?_
        | refine callS (CanReach_c t.g.x.b (s2 : Int) T.g.x.g (by omega) (by omega)) rfl rfl rfl ?_
        | refine callS (CanReach_c t.g.x.b (q : Int) T.g.x.g (by omega) (by omega)) rfl rfl rfl ?_
      cases hcr : canReach t.g.x.b (s2 : Int) T.g.x.g
      all_goals
        repeat' first
          | (first | simp -implicitDefEqProofs only [e0, g1, hlt, actV, kk, nn, rr, hT', m1, m4, m5, m6', m7, xs, go_sem] | (refine And.intro ?_ ?_; omega) | (refine And.intro (shr_bd ?_ ?_) ?_; omega; omega) | refine sl_list rfl ?_ | refine sd_list rfl ?_ | refine sl_str ?_ | refine sd_str ?_)
          | refine draw_stepY Tryz.pl_follows (by kernel_rfl) ?_
          | refine callL2 dI rfl rfl rfl ?_
          | refine callL2 dS rfl rfl rfl ?_
          | refine callS (iTableOk_c T' tS'.tb) rfl rfl rfl ?_
          | refine callS (iAuditTable_c T' tS'.tb) rfl rfl rfl ?_
          | refine callS (SameJumps_c T'.g.j (by omega)) rfl rfl rfl ?_
          | refine ne_ckF (x := T'.c) (by kernel_rfl) ?_
          | refine callS (iNowOf_c T'.g gT') rfl rfl rfl ?_
          | refine callS (IsSol_c t.g.x.b (s2 : Int) (q : Int) T'.g.j (by omega) (by omega)) rfl rfl rfl ?_
          | refine callS (iSameKey_c t.g.x.b (s2 : Int) (q : Int) m2 m3) rfl rfl rfl ?_
          | refine callS (CountPegs_c t.g.x.b q m3 (by omega)) rfl rfl rfl ?_
          | refine callS (CountPegs_c t.g.x.b s2 m2 (by omega)) rfl rfl rfl ?_
          | refine callS (CanReach_c t.g.x.b (s2 : Int) T.g.x.g (by omega) (by omega)) rfl rfl rfl ?_
          | refine callS (CanReach_c t.g.x.b (q : Int) T.g.x.g (by omega) (by omega)) rfl rfl rfl ?_
      all_goals exact ⟨i + 1, by omega, by omega, weak_see [67, 1067] (by simp -implicitDefEqProofs only [go_sem]; exact weak_of (fun i => i) (fun i => i) rfl ⟨by simp [n1, hh, xs] <;> omega, by simp [n1, hh, xs] <;> omega, by simp [n1, hh, xs] <;> omega, by simp [n1, hh, xs] <;> omega, by simp [n1, hh, xs] <;> omega⟩ (by simp [n1, hh, xs] <;> omega))⟩
    · intro kk nn hh _
      repeat' first
        | (first | simp -implicitDefEqProofs only [e0, g1, hlt, actV, kk, nn, hT', m1, m4, m5, m6', m7, xs, go_sem] | (refine And.intro ?_ ?_; omega) | (refine And.intro (shr_bd ?_ ?_) ?_; omega; omega) | refine sl_list rfl ?_ | refine sd_list rfl ?_ | refine sl_str ?_ | refine sd_str ?_)
        | refine draw_stepY Tryz.pl_follows (by kernel_rfl) ?_
        | refine callL2 dI rfl rfl rfl ?_
        | refine callL2 dS rfl rfl rfl ?_
        | refine callS (iTableOk_c T' tS'.tb) rfl rfl rfl ?_
        | refine callS (iAuditTable_c T' tS'.tb) rfl rfl rfl ?_
        | refine callS (SameJumps_c T'.g.j (by omega)) rfl rfl rfl ?_
        | refine ne_ckF (x := T'.c) (by kernel_rfl) ?_
        | refine callS (iNowOf_c T'.g gT') rfl rfl rfl ?_
        | refine callS (IsSol_c t.g.x.b (s2 : Int) (q : Int) T'.g.j (by omega) (by omega)) rfl rfl rfl ?_
        | refine callS (iSameKey_c t.g.x.b (s2 : Int) (q : Int) m2 m3) rfl rfl rfl ?_
        | refine callS (CountPegs_c t.g.x.b q m3 (by omega)) rfl rfl rfl ?_
        | refine callS (CountPegs_c t.g.x.b s2 m2 (by omega)) rfl rfl rfl ?_
        | refine callS (CanReach_c t.g.x.b (s2 : Int) T.g.x.g (by omega) (by omega)) rfl rfl rfl ?_
      cases hcr : canReach t.g.x.b (s2 : Int) T.g.x.g
      all_goals
        repeat' first
          | (first | simp -implicitDefEqProofs only [e0, g1, hlt, actV, kk, nn, hT', m1, m4, m5, m6', m7, xs, go_sem] | (refine And.intro ?_ ?_; omega) | (refine And.intro (shr_bd ?_ ?_) ?_; omega; omega) | refine sl_list rfl ?_ | refine sd_list rfl ?_ | refine sl_str ?_ | refine sd_str ?_)
          | refine draw_stepY Tryz.pl_follows (by kernel_rfl) ?_
          | refine callL2 dI rfl rfl rfl ?_
          | refine callL2 dS rfl rfl rfl ?_
          | refine callS (iTableOk_c T' tS'.tb) rfl rfl rfl ?_
          | refine callS (iAuditTable_c T' tS'.tb) rfl rfl rfl ?_
          | refine callS (SameJumps_c T'.g.j (by omega)) rfl rfl rfl ?_
          | refine ne_ckF (x := T'.c) (by kernel_rfl) ?_
          | refine callS (iNowOf_c T'.g gT') rfl rfl rfl ?_
          | refine callS (IsSol_c t.g.x.b (s2 : Int) (q : Int) T'.g.j (by omega) (by omega)) rfl rfl rfl ?_
          | refine callS (iSameKey_c t.g.x.b (s2 : Int) (q : Int) m2 m3) rfl rfl rfl ?_
          | refine callS (CountPegs_c t.g.x.b q m3 (by omega)) rfl rfl rfl ?_
          | refine callS (CountPegs_c t.g.x.b s2 m2 (by omega)) rfl rfl rfl ?_
          | refine callS (CanReach_c t.g.x.b (s2 : Int) T.g.x.g (by omega) (by omega)) rfl rfl rfl ?_
      all_goals exact ⟨i + 1, by omega, by omega, weak_see [67, 1067] (by simp -implicitDefEqProofs only [go_sem]; exact weak_of (fun i => i) (fun i => i) rfl ⟨by simp [n1, hh, xs] <;> omega, by simp [n1, hh, xs] <;> omega, by simp [n1, hh, xs] <;> omega, by simp [n1, hh, xs] <;> omega, by simp [n1, hh, xs] <;> omega⟩ (by simp [n1, hh, xs] <;> omega))⟩
    · intro kk _ hh _
      repeat' first
        | (first | simp -implicitDefEqProofs only [e0, g1, hlt, actV, kk, hT', m1, m4, m5, m6', m7, xs, go_sem] | (refine And.intro ?_ ?_; omega) | (refine And.intro (shr_bd ?_ ?_) ?_; omega; omega) | refine sl_list rfl ?_ | refine sd_list rfl ?_ | refine sl_str ?_ | refine sd_str ?_)
        | refine draw_stepY Tryz.pl_follows (by kernel_rfl) ?_
        | refine callL2 dI rfl rfl rfl ?_
        | refine callL2 dS rfl rfl rfl ?_
        | refine callS (iTableOk_c T' tS'.tb) rfl rfl rfl ?_
        | refine callS (iAuditTable_c T' tS'.tb) rfl rfl rfl ?_
        | refine callS (SameJumps_c T'.g.j (by omega)) rfl rfl rfl ?_
        | refine ne_ckF (x := T'.c) (by kernel_rfl) ?_
        | refine callS (iNowOf_c T'.g gT') rfl rfl rfl ?_
        | refine callS (IsSol_c t.g.x.b (s2 : Int) (q : Int) T'.g.j (by omega) (by omega)) rfl rfl rfl ?_
        | refine callS (iSameKey_c t.g.x.b (s2 : Int) (q : Int) m2 m3) rfl rfl rfl ?_
        | refine callS (CountPegs_c t.g.x.b q m3 (by omega)) rfl rfl rfl ?_
        | refine callS (CountPegs_c t.g.x.b s2 m2 (by omega)) rfl rfl rfl ?_
        | refine callS (CanReach_c t.g.x.b (s2 : Int) T.g.x.g (by omega) (by omega)) rfl rfl rfl ?_
      cases hcr : canReach t.g.x.b (s2 : Int) T.g.x.g
      all_goals
        repeat' first
          | (first | simp -implicitDefEqProofs only [e0, g1, hlt, actV, kk, hT', m1, m4, m5, m6', m7, xs, go_sem] | (refine And.intro ?_ ?_; omega) | (refine And.intro (shr_bd ?_ ?_) ?_; omega; omega) | refine sl_list rfl ?_ | refine sd_list rfl ?_ | refine sl_str ?_ | refine sd_str ?_)
          | refine draw_stepY Tryz.pl_follows (by kernel_rfl) ?_
          | refine callL2 dI rfl rfl rfl ?_
          | refine callL2 dS rfl rfl rfl ?_
          | refine callS (iTableOk_c T' tS'.tb) rfl rfl rfl ?_
          | refine callS (iAuditTable_c T' tS'.tb) rfl rfl rfl ?_
          | refine callS (SameJumps_c T'.g.j (by omega)) rfl rfl rfl ?_
          | refine ne_ckF (x := T'.c) (by kernel_rfl) ?_
          | refine callS (iNowOf_c T'.g gT') rfl rfl rfl ?_
          | refine callS (IsSol_c t.g.x.b (s2 : Int) (q : Int) T'.g.j (by omega) (by omega)) rfl rfl rfl ?_
          | refine callS (iSameKey_c t.g.x.b (s2 : Int) (q : Int) m2 m3) rfl rfl rfl ?_
          | refine callS (CountPegs_c t.g.x.b q m3 (by omega)) rfl rfl rfl ?_
          | refine callS (CountPegs_c t.g.x.b s2 m2 (by omega)) rfl rfl rfl ?_
          | refine callS (CanReach_c t.g.x.b (s2 : Int) T.g.x.g (by omega) (by omega)) rfl rfl rfl ?_
      all_goals exact ⟨i + 1, by omega, by omega, weak_see [67, 1067] (by simp -implicitDefEqProofs only [go_sem]; exact weak_of (fun i => i) (fun i => i) rfl ⟨by simp [n1, hh, xs] <;> omega, by simp [n1, hh, xs] <;> omega, by simp [n1, hh, xs] <;> omega, by simp [n1, hh, xs] <;> omega, by simp [n1, hh, xs] <;> omega⟩ (by simp [n1, hh, xs] <;> omega))⟩
  · have e0 : ((i : Int) < acs.length) = False := eq_false (by omega)
    have m1 := N.now
    have m2 := N.und
    have m7 := N.aud
    rw [xb] at m2
    have u1 : (undoAll t.g.x.b (p : Int) (runT t (acs.take i)).g.j).isSome = true := by rw [m2]; rfl
    have u2 : undoAI t.g.x.b (p : Int) (runT t (acs.take i)).g.j = (s' : Int) := by simp [undoAI, m2]
    have q1 := pos_le N.pos
    have hlen := N.len
    have gT : GmIn (runT t (acs.take i)).g := tS.tb.g
    repeat' first
      | (first | simp -implicitDefEqProofs only [e0, m1, m7, u1, u2, xs, go_sem] | (refine And.intro ?_ ?_; omega) | (refine And.intro (shr_bd ?_ ?_) ?_; omega; omega) | refine sl_list rfl ?_ | refine sd_list rfl ?_ | refine sl_str ?_ | refine sd_str ?_)
      | refine draw_stepY Tryz.pl_follows (by kernel_rfl) ?_
      | refine callS (iNowOf_c (runT t (acs.take i)).g gT) rfl rfl rfl ?_
      | refine callS (iUndoAll_c t.g.x.b (p : Int) (runT t (acs.take i)).g.j (by omega) (by omega)) rfl rfl rfl ?_
      | refine callS (iAuditTable_c (runT t (acs.take i)) tS.tb) rfl rfl rfl ?_
    all_goals exact fin_scal rfl rfl
theorem fnEveryScript.law_c {c : C} (h : TC (.z .s) c) : PC Tryz.prog 6 [] [.c c] (vB true) ⟨[], []⟩ := by
  obtain ⟨s, rfl, _⟩ := tc_s h
  rw [sB_of s]
  exact lawEveryScript_c _
end Go.Proofs.YtahnbliabllflaaGreatDoor
