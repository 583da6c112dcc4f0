/-
  What spec.RunScript computes; the law on RunScript.
-/
import Derived.Test.YtahnbliabllflaaGreatDoorBI
import Derived.Test.YtahnbliabllflaaGreatDoorBB
namespace Go.Proofs.YtahnbliabllflaaGreatDoor
open Go.PL
set_option linter.unusedSimpArgs false
set_option linter.unusedVariables false
theorem u8_10 {c : UInt8} (h : ¬ c = 10) : ((c.toNat : Int) = 10) = False := by
  refine eq_false fun e => h ?_
  have : c.toNat = (10 : UInt8).toNat := by
    have e2 : (10 : UInt8).toNat = 10 := rfl
    omega
  exact UInt8.toNat_inj.1 this
theorem scT_len {l : List UInt8} : (scT l).length ≤ 52 := by
  unfold scT
  split
  · rename_i az h
    obtain ⟨_, h1, h2⟩ := scR_iff h
    obtain ⟨q1, q2⟩ := runQ smp_ok (l := az) h2
    have fl := fmtT_len (t := runsT (openT smX 7 300) az)
    have nl : (runsN (openT smX 7 300) az).length = az.length := by rw [q2, runN_len]
    rw [outS, List.length_append, List.length_map]; omega
  · simp
set_option maxRecDepth 20000 in
set_option maxHeartbeats 16000000 in
theorem RunScript_c (d : Nat) (l : List UInt8) (hl : l.length ≤ 1048576) : PC Tryz.prog 11 [] [.c (.v (.string (sB l)))] (.t [.c (.o d), .c (.v (.bool (scOk l)))]) ⟨[], [(d, ⟨9, 1, (scT l).map sV, false, true⟩)]⟩ := by
  by_cases h6 : 20000 < l.length
  · have e6 : ((20000 : Int) < (l.length : Int)) = True := eq_true (by omega)
    have e := scR_long (l := l) (by omega)
    rw [scT_no e, scOk_no e]
    refine pc_of Tryz.func11 rfl (by kernel_rfl) _ Tryz.ntmps11 (by simp) ?_
    (repeat' (first | simp -implicitDefEqProofs only [e6, go_sem] | (refine And.intro ?_ ?_; omega) | (refine And.intro (shr_bd ?_ ?_) ?_; omega; omega) | refine sl_list rfl ?_ | refine sd_list rfl ?_ | refine sl_str ?_ | refine sd_str ?_))
    exact fin_of (fun i => i) (fun i => 17) ⟨by simp <;> omega, by simp <;> omega, by simp <;> omega, by simp <;> omega, by simp <;> omega⟩ (by simp <;> omega) rfl
  have e6 : ((20000 : Int) < (l.length : Int)) = False := eq_false (by omega)
  have hbad := fun y => scA_bad (ls := lns l) (l := y)
  have hmany := fun az => scR_many (l := l) (az := az)
  have hok := fun az => scR_ok (l := l) (az := az) (by omega)
  have hno := scR_bad (l := l)
  refine pc_of Tryz.func11 rfl (by kernel_rfl) _ Tryz.ntmps11 (by simp) ?_
  (repeat' (first | simp -implicitDefEqProofs only [e6, go_sem] | (refine And.intro ?_ ?_; omega) | (refine And.intro (shr_bd ?_ ?_) ?_; omega; omega) | refine sl_list rfl ?_ | refine sd_list rfl ?_ | refine sl_str ?_ | refine sd_str ?_))
  refine loop_step (X := Nat × Nat × List Ac) (fun x => ⟨97, [(0, vS l), (4, vO 17), (5, vO 22), (6, vN x.2.1), (7, vN x.1)], ⟨[], [(17, ⟨9, 1, [], false, true⟩), (22, ⟨42, 3, x.2.2.map actV, false, true⟩)]⟩⟩)
    (fun x => LnAt l x.1 x.2.1 x.2.2) (fun x => l.length + 1 - x.1) (0, 0, []) (ln_start l) (weak_of (fun i => i) (fun i => i) rfl ⟨by simp <;> omega, by simp <;> omega, by simp <;> omega, by simp <;> omega, by simp <;> omega⟩ (by simp <;> omega)) (fun x hx => ?_)
  obtain ⟨i, b, az⟩ := x
  simp only at hx
  have hle := hx.le
  have hlen := hx.len
  by_cases h1 : l.length < i
  · have e0 : ((i : Int) ≤ l.length) = False := eq_false (by omega)
    have haz := ln_done hx h1
    by_cases h40 : 40 < az.length
    · have e1 : ((40 : Int) < (az.length : Int)) = True := eq_true (by omega)
      have e := hmany az haz (by omega)
      rw [scT_no e, scOk_no e]
      (repeat' (first | simp -implicitDefEqProofs only [e0, e1, List.length_map, go_sem] | (refine And.intro ?_ ?_; omega) | (refine And.intro (shr_bd ?_ ?_) ?_; omega; omega) | refine sl_list rfl ?_ | refine sd_list rfl ?_ | refine sl_str ?_ | refine sd_str ?_))
      exact fin_of (fun i => i) (fun i => 17) ⟨by simp <;> omega, by simp <;> omega, by simp <;> omega, by simp <;> omega, by simp <;> omega⟩ (by simp <;> omega) rfl
    have e1 : ((40 : Int) < (az.length : Int)) = False := eq_false (by omega)
    have e := hok az haz (by omega)
    have so := smp_ok
    have j0 := smp_jr.1
    have r0 := smp_jr.2
    have s1 := SampleTable_c
    have om := outS_map (az := az)
    rw [scT_ok e, scOk_ok e, om]
    obtain ⟨q1, q2⟩ := runQ so (l := az) (by omega)
    have hx := runT_ok (l := az) so
    rw [← q1] at hx
    have nn := runN_nn (l := az) so (scA_ok haz)
    rw [← q2] at nn
    have nl : (runsN (openT smX 7 300) az).length = az.length := by rw [q2, runN_len]
    have p1 := fun d e f h1 h2 h3 => RunActs_c d e f h1 h2 h3 (openT smX 7 300) az (tbS_of so) (by omega)
    have pf := fun d => FormatTable_c d (runsT (openT smX 7 300) az) (tbS_of hx)
    have fl := fmtT_len (t := runsT (openT smX 7 300) az)
    simp only [tbL, j0, r0, List.map_nil] at p1
    generalize runsN (openT smX 7 300) az = NS at *
    generalize runsT (openT smX 7 300) az = RT at *
    generalize openT smX 7 300 = T at *
    repeat' first
      | (first | simp -implicitDefEqProofs only [e0, e1, List.length_map, go_sem] | (refine And.intro ?_ ?_; omega) | (refine And.intro (shr_bd ?_ ?_) ?_; omega; omega) | refine sl_list rfl ?_ | refine sd_list rfl ?_ | refine sl_str ?_ | refine sd_str ?_)
      | refine callL2 (fun d e h => s1 d e h) rfl rfl rfl ?_
      | refine callL3 p1 rfl rfl rfl ?_
    refine loop_step (X := Nat) (fun j => ⟨97, [(13, .s (.c (.p 13 0))), (14, vO 2075), (15, vO 78), (16, vN j)], ⟨[(13, tbC RT (.o 75) (.o 1075))], [(78, ⟨9, 1, numsT (NS.take j), false, true⟩), (75, ⟨86, 3, RT.g.j.map lineV, false, true⟩), (1075, ⟨140, 4, RT.r.map recV, false, true⟩), (2075, ⟨3, 1, NS.map iV, false, true⟩)]⟩⟩)
      (fun j => j ≤ NS.length) (fun j => NS.length - j) 0 (by omega) (weak_of (fun i => i) (fun i => i) rfl ⟨by simp [numsT_nil] <;> omega, by simp [numsT_nil] <;> omega, by simp [numsT_nil] <;> omega, by simp [numsT_nil] <;> omega, by simp [numsT_nil] <;> omega⟩ (by simp [numsT_nil] <;> omega)) (fun j hj => ?_)
    have tk : (NS.take j).length = j := List.length_take_of_le hj
    by_cases hl2 : j < NS.length
    · have f0 : ((j : Int) < (NS.length : Int)) = True := eq_true (by omega)
      have g1 := map_get (f := iV) hl2
      have yl := nn _ (List.getElem_mem hl2)
      have n1 := numsT_next hl2
      generalize NS[j] = y at *
      have fi : PC Tryz.prog 47 [] [.c (.v (.int .i64 y))] (vS (itoa y)) ⟨[], []⟩ := by
        have := FormatInt_c y.toNat (by omega)
        rwa [Int.toNat_of_nonneg yl.1] at this
      repeat' first
        | (first | simp -implicitDefEqProofs only [f0, g1, hl2, numsT_len, tk, List.length_append, List.length_cons, List.length_nil, go_sem] | (refine And.intro ?_ ?_; omega) | (refine And.intro (shr_bd ?_ ?_) ?_; omega; omega) | refine sl_list rfl ?_ | refine sd_list rfl ?_ | refine sl_str ?_ | refine sd_str ?_)
        | refine callS fi rfl rfl rfl ?_
      exact ⟨j + 1, by omega, by omega, weak_of (fun i => i) (fun i => if i = 78 then 92 else i) rfl ⟨by simp [n1, sV] <;> omega, by simp [n1, sV] <;> omega, by simp [n1, sV] <;> omega, by simp [n1, sV] <;> omega, by simp [n1, sV] <;> omega⟩ (by simp [n1, sV] <;> omega)⟩
    · have f0 : ((j : Int) < (NS.length : Int)) = False := eq_false (by omega)
      obtain rfl : j = NS.length := by omega
      have et : numsT (NS.take NS.length) = (NS.map itoa).map sV := by rw [List.take_length]; rfl
      rw [et]
      repeat' first
        | (first | simp -implicitDefEqProofs only [f0, List.length_map, List.length_append, go_sem] | (refine And.intro ?_ ?_; omega) | (refine And.intro (shr_bd ?_ ?_) ?_; omega; omega) | refine sl_list rfl ?_ | refine sd_list rfl ?_ | refine sl_str ?_ | refine sd_str ?_)
        | refine callL1 pf rfl rfl rfl ?_
      exact fin_of (fun i => i) (fun i => 96) ⟨by simp <;> omega, by simp <;> omega, by simp <;> omega, by simp <;> omega, by simp <;> omega⟩ (by simp <;> omega) rfl
  have e0 : ((i : Int) ≤ l.length) = True := eq_true (by omega)
  have hbi := hx.bi (by omega)
  by_cases h2 : i < l.length
  · have e1 : ((i : Int) < l.length) = True := eq_true (by omega)
    have g1 : l[i]? = some l[i] := List.getElem?_eq_getElem h2
    have st1 := ln_byte hx h2
    have hc0 : l[i] = 10 → ∀ c, l[i]? = some c → c = 10 := fun h c hc => by rw [g1] at hc; exact (Option.some.inj hc).symm.trans h
    generalize l[i] = c at g1 st1 hc0
    by_cases c3 : c = 10
    · have f3 : ((c.toNat : Int) = 10) = True := eq_true (by rw [c3]; rfl)
      have hc := hc0 c3
      have ym := ln_mem hx (by omega) hc
      have le := fun ys => ln_end (ys := ys) hx (by omega) hc
      have yl : ((l.drop b).take (i - b)).length ≤ 1048576 := by rw [List.length_take, List.length_drop]; omega
      have hb := hbad _ ym
      generalize ey : (l.drop b).take (i - b) = y at *
      have sf := fun d => SplitFields_c d y yl
      have pc := ParseAct_c y yl
      cases hf : fldsOk y with
      | false =>
        have hbl := blank_f hf
        rw [hf] at sf
        cases hp : paB y with
        | false =>
          rw [hp] at pc
          have e := hno (hb hbl (paL_none hp))
          rw [scT_no e, scOk_no e]
          repeat' first
            | (first | simp -implicitDefEqProofs only [e0, e1, g1, f3, ey, List.length_map, go_sem] | (refine And.intro ?_ ?_; omega) | (refine And.intro (shr_bd ?_ ?_) ?_; omega; omega) | refine sl_list rfl ?_ | refine sd_list rfl ?_ | refine sl_str ?_ | refine sd_str ?_)
            | refine callL1 sf rfl rfl rfl ?_
            | refine callS pc rfl rfl rfl ?_
          exact fin_of (fun i => i) (fun i => 17) ⟨by simp <;> omega, by simp <;> omega, by simp <;> omega, by simp <;> omega, by simp <;> omega⟩ (by simp <;> omega) rfl
        | true =>
          have e := paL_some hp
          rw [paL_no hf] at e
          cases e
      | true =>
        rw [hf] at sf
        simp only [fldsR_ok hf] at sf
        by_cases hz : flds y = []
        · have hbl := blank_t hf hz
          have nx := le [] (scA_blank hbl) (by simp)
          rw [List.append_nil] at nx
          have zl : (((flds y).length : Int) = 0) = True := by rw [hz]; simp
          generalize flds y = F at *
          repeat' first
            | (first | simp -implicitDefEqProofs only [e0, e1, g1, f3, ey, List.length_map, zl, go_sem] | (refine And.intro ?_ ?_; omega) | (refine And.intro (shr_bd ?_ ?_) ?_; omega; omega) | refine sl_list rfl ?_ | refine sd_list rfl ?_ | refine sl_str ?_ | refine sd_str ?_)
            | refine callL1 sf rfl rfl rfl ?_
          exact ⟨(i + 1, i + 1, az), nx, by simp only; omega, weak_of (fun i => i) (fun i => i) rfl ⟨by simp <;> omega, by simp <;> omega, by simp <;> omega, by simp <;> omega, by simp <;> omega⟩ (by simp <;> omega)⟩
        · have hbl := blank_n hz
          have zl : (((flds y).length : Int) = 0) = False := eq_false fun h => hz (List.eq_nil_of_length_eq_zero (by omega))
          generalize flds y = F at *
          cases hp : paB y with
          | false =>
            rw [hp] at pc
            have e := hno (hb hbl (paL_none hp))
            rw [scT_no e, scOk_no e]
            repeat' first
              | (first | simp -implicitDefEqProofs only [e0, e1, g1, f3, ey, List.length_map, zl, go_sem] | (refine And.intro ?_ ?_; omega) | (refine And.intro (shr_bd ?_ ?_) ?_; omega; omega) | refine sl_list rfl ?_ | refine sd_list rfl ?_ | refine sl_str ?_ | refine sd_str ?_)
              | refine callL1 sf rfl rfl rfl ?_
              | refine callS pc rfl rfl rfl ?_
            exact fin_of (fun i => i) (fun i => 17) ⟨by simp <;> omega, by simp <;> omega, by simp <;> omega, by simp <;> omega, by simp <;> omega⟩ (by simp <;> omega) rfl
          | true =>
            rw [hp] at pc
            have nx := le [paA y] (scA_one hbl (paL_some hp)) (by simp)
            generalize paA y = a at *
            repeat' first
              | (first | simp -implicitDefEqProofs only [e0, e1, g1, f3, ey, List.length_map, List.length_append, List.length_cons, List.length_nil, zl, go_sem] | (refine And.intro ?_ ?_; omega) | (refine And.intro (shr_bd ?_ ?_) ?_; omega; omega) | refine sl_list rfl ?_ | refine sd_list rfl ?_ | refine sl_str ?_ | refine sd_str ?_)
              | refine callL1 sf rfl rfl rfl ?_
              | refine callS pc rfl rfl rfl ?_
            exact ⟨(i + 1, i + 1, az ++ [a]), nx, by simp only; omega, weak_of (fun i => i) (fun i => if i = 22 then 67 else i) rfl ⟨by simp [List.map_append, actV] <;> omega, by simp [List.map_append, actV] <;> omega, by simp [List.map_append, actV] <;> omega, by simp [List.map_append, actV] <;> omega, by simp [List.map_append, actV] <;> omega⟩ (by simp [List.map_append, actV] <;> omega)⟩
    · have f3 := u8_10 c3
      (repeat' (first | simp -implicitDefEqProofs only [e0, e1, g1, f3, go_sem] | (refine And.intro ?_ ?_; omega) | (refine And.intro (shr_bd ?_ ?_) ?_; omega; omega) | refine sl_list rfl ?_ | refine sd_list rfl ?_ | refine sl_str ?_ | refine sd_str ?_))
      exact ⟨(i + 1, b, az), st1 c3, by simp only; omega, weak_of (fun i => i) (fun i => i) rfl ⟨by simp <;> omega, by simp <;> omega, by simp <;> omega, by simp <;> omega, by simp <;> omega⟩ (by simp <;> omega)⟩
  · have e1 : ((i : Int) < l.length) = False := eq_false (by omega)
    have hc : ∀ c, l[i]? = some c → c = 10 := fun c hc => by
      rw [List.getElem?_eq_none (by omega)] at hc
      cases hc
    have il : i = l.length := by omega
    have ym := ln_mem hx (by omega) hc
    have le := fun ys => ln_end (ys := ys) hx (by omega) hc
    have yl : ((l.drop b).take (i - b)).length ≤ 1048576 := by rw [List.length_take, List.length_drop]; omega
    have hb := hbad _ ym
    generalize ey : (l.drop b).take (i - b) = y at *
    have sf := fun d => SplitFields_c d y yl
    have pc := ParseAct_c y yl
    cases hf : fldsOk y with
    | false =>
      have hbl := blank_f hf
      rw [hf] at sf
      cases hp : paB y with
      | false =>
        rw [hp] at pc
        have e := hno (hb hbl (paL_none hp))
        rw [scT_no e, scOk_no e]
        repeat' first
          | (first | simp -implicitDefEqProofs only [e0, e1, ey, List.length_map, go_sem] | (refine And.intro ?_ ?_; omega) | (refine And.intro (shr_bd ?_ ?_) ?_; omega; omega) | refine sl_list rfl ?_ | refine sd_list rfl ?_ | refine sl_str ?_ | refine sd_str ?_)
          | refine callL1 sf rfl rfl rfl ?_
          | refine callS pc rfl rfl rfl ?_
        exact fin_of (fun i => i) (fun i => 17) ⟨by simp <;> omega, by simp <;> omega, by simp <;> omega, by simp <;> omega, by simp <;> omega⟩ (by simp <;> omega) rfl
      | true =>
        have e := paL_some hp
        rw [paL_no hf] at e
        cases e
    | true =>
      rw [hf] at sf
      simp only [fldsR_ok hf] at sf
      by_cases hz : flds y = []
      · have hbl := blank_t hf hz
        have nx := le [] (scA_blank hbl) (by simp)
        rw [List.append_nil] at nx
        have zl : (((flds y).length : Int) = 0) = True := by rw [hz]; simp
        generalize flds y = F at *
        repeat' first
          | (first | simp -implicitDefEqProofs only [e0, e1, ey, List.length_map, zl, go_sem] | (refine And.intro ?_ ?_; omega) | (refine And.intro (shr_bd ?_ ?_) ?_; omega; omega) | refine sl_list rfl ?_ | refine sd_list rfl ?_ | refine sl_str ?_ | refine sd_str ?_)
          | refine callL1 sf rfl rfl rfl ?_
        exact ⟨(i + 1, i + 1, az), nx, by simp only; omega, weak_of (fun i => i) (fun i => i) rfl ⟨by simp <;> omega, by simp <;> omega, by simp <;> omega, by simp <;> omega, by simp <;> omega⟩ (by simp <;> omega)⟩
      · have hbl := blank_n hz
        have zl : (((flds y).length : Int) = 0) = False := eq_false fun h => hz (List.eq_nil_of_length_eq_zero (by omega))
        generalize flds y = F at *
        cases hp : paB y with
        | false =>
          rw [hp] at pc
          have e := hno (hb hbl (paL_none hp))
          rw [scT_no e, scOk_no e]
          repeat' first
            | (first | simp -implicitDefEqProofs only [e0, e1, ey, List.length_map, zl, go_sem] | (refine And.intro ?_ ?_; omega) | (refine And.intro (shr_bd ?_ ?_) ?_; omega; omega) | refine sl_list rfl ?_ | refine sd_list rfl ?_ | refine sl_str ?_ | refine sd_str ?_)
            | refine callL1 sf rfl rfl rfl ?_
            | refine callS pc rfl rfl rfl ?_
          exact fin_of (fun i => i) (fun i => 17) ⟨by simp <;> omega, by simp <;> omega, by simp <;> omega, by simp <;> omega, by simp <;> omega⟩ (by simp <;> omega) rfl
        | true =>
          rw [hp] at pc
          have nx := le [paA y] (scA_one hbl (paL_some hp)) (by simp)
          generalize paA y = a at *
          repeat' first
            | (first | simp -implicitDefEqProofs only [e0, e1, ey, List.length_map, List.length_append, List.length_cons, List.length_nil, zl, go_sem] | (refine And.intro ?_ ?_; omega) | (refine And.intro (shr_bd ?_ ?_) ?_; omega; omega) | refine sl_list rfl ?_ | refine sd_list rfl ?_ | refine sl_str ?_ | refine sd_str ?_)
            | refine callL1 sf rfl rfl rfl ?_
            | refine callS pc rfl rfl rfl ?_
          exact ⟨(i + 1, i + 1, az ++ [a]), nx, by simp only; omega, weak_of (fun i => i) (fun i => if i = 22 then 67 else i) rfl ⟨by simp [List.map_append, actV] <;> omega, by simp [List.map_append, actV] <;> omega, by simp [List.map_append, actV] <;> omega, by simp [List.map_append, actV] <;> omega, by simp [List.map_append, actV] <;> omega⟩ (by simp [List.map_append, actV] <;> omega)⟩
set_option maxHeartbeats 16000000 in
theorem lawRunScript_c (l : List UInt8) : PC Tryz.prog 4 [] [.c (.v (.string (sB l)))] (vB true) ⟨[], []⟩ := by
  by_cases hs : (1048576 : Int) < l.length
  · refine pc_of Tryz.func4 rfl (by kernel_rfl) _ Tryz.ntmps4 (by simp) ?_
    (repeat' (first | simp -implicitDefEqProofs only [hs, go_sem] | (refine And.intro ?_ ?_; omega) | (refine And.intro (shr_bd ?_ ?_) ?_; omega; omega) | refine sl_list rfl ?_ | refine sd_list rfl ?_ | refine sl_str ?_ | refine sd_str ?_))
    exact fin_scal rfl rfl
  · have h0 : ((1048576 : Int) < (l.length : Int)) = False := eq_false hs
    have fl := scT_len (l := l)
    have e2 : (1 + ((scT l).length : Int) < 0) = False := by simp; omega
    refine pc_of Tryz.func4 rfl (by kernel_rfl) _ Tryz.ntmps4 (by simp) ?_
    repeat' first
      | (first | simp -implicitDefEqProofs only [h0, e2, go_sem] | (refine And.intro ?_ ?_; omega) | (refine And.intro (shr_bd ?_ ?_) ?_; omega; omega) | refine sl_list rfl ?_ | refine sd_list rfl ?_ | refine sl_str ?_ | refine sd_str ?_)
      | refine callL1 (fun d => RunScript_c d l (by omega)) rfl rfl rfl ?_
      | refine callL1 (fun d => iRunScript_c d l (by omega)) rfl rfl rfl ?_
      | refine callS (eqStringS_c (scT l) (by omega)) rfl rfl rfl ?_
      | refine callI (markStringS_c 21 (scT l) (by omega)) ⟨⟨rfl, rfl, rfl⟩, rfl, trivial⟩ rfl rfl rfl ?_
      | refine callS (heldStringS_c (scT l).length (by omega)) rfl rfl rfl ?_
    all_goals exact fin_scal rfl rfl
theorem fnExactRunScript.law_c {c : C} (h : TC (.z .s) c) : PC Tryz.prog 4 [] [.c c] (vB true) ⟨[], []⟩ := by
  obtain ⟨s, rfl, _⟩ := tc_s h
  rw [sB_of s]
  exact lawRunScript_c _
end Go.Proofs.YtahnbliabllflaaGreatDoor
