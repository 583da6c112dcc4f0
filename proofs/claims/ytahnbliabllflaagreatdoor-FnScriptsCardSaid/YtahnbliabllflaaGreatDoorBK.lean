/-
  The laws on acts' texts and on scripts.
-/
import Derived.Test.YtahnbliabllflaaGreatDoorBI
import Derived.Test.YtahnbliabllflaaGreatDoorB1
import Derived.Test.YtahnbliabllflaaGreatDoorBB
import Derived.Test.YtahnbliabllflaaGreatDoorDA
import Derived.Test.YtahnbliabllflaaGreatDoorSD
namespace Go.Proofs.YtahnbliabllflaaGreatDoor
open Go.PL
set_option linter.unusedSimpArgs false
set_option linter.unusedVariables false
theorem ne_acF {t : TypeId} {K : Value → Prop} {x : Ac} (hs : intS Tryz.prog t 3 = true) (hK : K (.bool false)) : binR Tryz.prog .neq t K (.s (.a (actC x))) (.s (.a (actC x))) :=
  ne_ints [x.k, x.a, x.b] [x.k, x.a, x.b] 3 hs rfl rfl (by simpa using hK)
set_option maxHeartbeats 8000000 in
theorem lawActTexts_c (bs : List Nat) (hbs : ∀ b ∈ bs, b ≤ 255) : PC Tryz.prog 3 [] [.c (.l 1 (bs.map bV))] (vB true) ⟨[], []⟩ := by
  by_cases hn : (1048576 : Int) < bs.length
  · refine pc_of Tryz.func3 rfl (by kernel_rfl) _ Tryz.ntmps3 (by simp) ?_
    repeat' first
      | (first | simp -implicitDefEqProofs only [hn, go_sem] | (refine And.intro ?_ ?_; omega) | (refine And.intro (shr_bd ?_ ?_) ?_; omega; omega) | refine sl_list rfl ?_ | refine sd_list rfl ?_ | refine sl_str ?_ | refine sd_str ?_)
      | refine callS (lawBig_c bs) rfl rfl rfl ?_
    exact fin_scal rfl rfl
  obtain ⟨t, acs, ⟨ht, hl, hac⟩, pd⟩ := drawActs_ex ⟨bs, hbs, by omega⟩
  have hb0 : ((1048576 : Int) < bs.length) = False := eq_false hn
  refine pc_of Tryz.func3 rfl (by kernel_rfl) _ Tryz.ntmps3 (by simp) ?_
  repeat' first
    | (first | simp -implicitDefEqProofs only [hb0, go_sem] | (refine And.intro ?_ ?_; omega) | (refine And.intro (shr_bd ?_ ?_) ?_; omega; omega) | refine sl_list rfl ?_ | refine sd_list rfl ?_ | refine sl_str ?_ | refine sd_str ?_)
    | refine callS (lawBig_c bs) rfl rfl rfl ?_
    | refine callV pd rfl rfl rfl ?_
  refine loop_step (X := Nat) (fun i => ⟨52, [(4, vL 3 (acs.map actV)), (5, vN i)], ⟨[], []⟩⟩)
    (fun i => i ≤ acs.length) (fun i => acs.length - i) 0 (by omega) (weak_of (fun i => i) (fun i => i) rfl ⟨by simp <;> omega, by simp <;> omega, by simp <;> omega, by simp <;> omega, by simp <;> omega⟩ (by simp <;> omega)) (fun i hi => ?_)
  by_cases hlt : i < acs.length
  · have e0 : ((i : Int) < acs.length) = True := eq_true (by omega)
    have g1 := map_get (f := actV) hlt
    have ha := hac _ (List.getElem_mem hlt)
    generalize acs[i] = a at *
    have al := actT_len (a := a)
    have fa := iFormatAct_c a
    rw [ha] at fa
    obtain ⟨h1, _, _⟩ := paL_text ha [32, 32] [32] rfl rfl (by simp)
    have ec : [32, 32] ++ actT a ++ [32] = 32 :: 32 :: (actT a ++ [32]) := by simp
    rw [ec] at h1
    have pc := iParseAct_c (32 :: 32 :: (actT a ++ [32])) (by simp only [List.length_cons, List.length_append, List.length_nil]; omega)
    rw [paA_ok h1, paB_ok h1] at pc
    generalize actT a = w at *
    repeat' first
      | (first | simp -implicitDefEqProofs only [e0, g1, hlt, actV, List.length_cons, List.length_append, List.length_nil, go_sem] | (refine And.intro ?_ ?_; omega) | (refine And.intro (shr_bd ?_ ?_) ?_; omega; omega) | refine sl_list rfl ?_ | refine sd_list rfl ?_ | refine sl_str ?_ | refine sd_str ?_)
      | refine callS fa rfl rfl rfl ?_
      | refine callS pc rfl rfl rfl ?_
      | refine draw_stepY Tryz.pl_follows (by kernel_rfl) ?_
      | refine ne_acF (x := a) (by kernel_rfl) ?_
    exact ⟨i + 1, by omega, by omega, weak_of (fun i => i) (fun i => i) rfl ⟨by simp <;> omega, by simp <;> omega, by simp <;> omega, by simp <;> omega, by simp <;> omega⟩ (by simp <;> omega)⟩
  · have e0 : ((i : Int) < acs.length) = False := eq_false (by omega)
    (repeat' (first | simp -implicitDefEqProofs only [e0, go_sem] | (refine And.intro ?_ ?_; omega) | (refine And.intro (shr_bd ?_ ?_) ?_; omega; omega) | refine sl_list rfl ?_ | refine sd_list rfl ?_ | refine sl_str ?_ | refine sd_str ?_))
    exact fin_scal rfl rfl
theorem fnActTexts.law_c {c : C} (h : TC (.l 1 false [.i .u8]) c) : PC Tryz.prog 3 [] [.c c] (vB true) ⟨[], []⟩ := by
  obtain ⟨bs, rfl, hb⟩ := lawBytes_of h
  exact lawActTexts_c bs hb
theorem scrOk_of {l : List Ac} (h : ∀ a ∈ l, actOk a.k a.a a.b = true) (hl : l.length ≤ 40) : scrOk l = true := by
  unfold scrOk
  rw [Bool.and_eq_true, decide_eq_true_eq, List.all_eq_true]
  exact ⟨hl, h⟩
set_option maxRecDepth 20000 in
set_option maxHeartbeats 16000000 in
theorem lawScripts_c (bs : List Nat) (hbs : ∀ b ∈ bs, b ≤ 255) : PC Tryz.prog 5 [] [.c (.l 1 (bs.map bV))] (vB true) ⟨[], []⟩ := by
  by_cases hn : (1048576 : Int) < bs.length
  · refine pc_of Tryz.func5 rfl (by kernel_rfl) _ Tryz.ntmps5 (by simp) ?_
    repeat' first
      | (first | simp -implicitDefEqProofs only [hn, go_sem] | (refine And.intro ?_ ?_; omega) | (refine And.intro (shr_bd ?_ ?_) ?_; omega; omega) | refine sl_list rfl ?_ | refine sd_list rfl ?_ | refine sl_str ?_ | refine sd_str ?_)
      | refine callS (lawBig_c bs) rfl rfl rfl ?_
    exact fin_scal rfl rfl
  obtain ⟨t, acs, ⟨ht, hl, hac⟩, pd⟩ := drawActs_ex ⟨bs, hbs, by omega⟩
  have hb0 : ((1048576 : Int) < bs.length) = False := eq_false hn
  have so := smp_ok
  have j0 := smp_jr.1
  have r0 := smp_jr.2
  have s1 := iSampleTable_c
  have ps := iScriptText_c acs
  have ok := scrOk_of hac (by omega)
  have er : scrR acs = scrT acs := by simp [scrR, ok]
  rw [er, ok] at ps
  have es : scR (scrT acs) = some acs := scR_text hac (by omega)
  have sl := scrT_len acs
  have pr := fun d => iRunScript_c d (scrT acs) (by omega)
  rw [scT_ok es, scOk_ok es] at pr
  have st := sameTexts_c (outS acs)
  obtain ⟨q1, q2⟩ := runQ so (l := acs) (by omega)
  have hx := runT_ok (l := acs) so
  rw [← q1] at hx
  have nn := runN_nn (l := acs) so hac
  rw [← q2] at nn
  have nl : (runsN (openT smX 7 300) acs).length = acs.length := by rw [q2, runN_len]
  have p1 := fun d e f h1 h2 h3 => iRunActs_c d e f h1 h2 h3 (openT smX 7 300) acs (tbS_of so) (by omega)
  have pf := fun d => iFormatTable_c d (runsT (openT smX 7 300) acs) (tbS_of hx)
  have fl := fmtT_len (t := runsT (openT smX 7 300) acs)
  have ol : (outS acs).length ≤ 4194304 := by rw [outS, List.length_append, List.length_map]; omega
  have st := st ol
  have om := outS_map (az := acs)
  rw [om] at st
  simp only [om] at pr
  simp only [tbL, j0, r0, List.map_nil] at p1
  generalize scrT acs = TX at *
  generalize runsN (openT smX 7 300) acs = NS at *
  generalize runsT (openT smX 7 300) acs = RT at *
  generalize openT smX 7 300 = T at *
  obtain ⟨LV, eLV⟩ : ∃ LV, LV = (NS.map itoa).map sV ++ (fmtT RT).map sV := ⟨_, rfl⟩
  simp only [← eLV] at st pr
  refine pc_of Tryz.func5 rfl (by kernel_rfl) _ Tryz.ntmps5 (by simp) ?_
  repeat' first
    | (first | simp -implicitDefEqProofs only [hb0, go_sem] | (refine And.intro ?_ ?_; omega) | (refine And.intro (shr_bd ?_ ?_) ?_; omega; omega) | refine sl_list rfl ?_ | refine sd_list rfl ?_ | refine sl_str ?_ | refine sd_str ?_)
    | refine callS (lawBig_c bs) rfl rfl rfl ?_
    | refine callV pd rfl rfl rfl ?_
    | refine callS ps rfl rfl rfl ?_
    | refine callL1 pr rfl rfl rfl ?_
    | refine callL2 (fun d e h => s1 d e h) rfl rfl rfl ?_
    | refine callL3 p1 rfl rfl rfl ?_
  refine loop_step (X := Nat) (fun j => ⟨64, [(6, vB true), (7, vO 27), (8, vB true), (9, .s (.c (.p 9 0))), (10, vO 2033), (11, vO 36), (12, vN j)], ⟨[(9, tbC RT (.o 33) (.o 1033))], [(36, ⟨9, 1, numsT (NS.take j), false, true⟩), (33, ⟨86, 3, RT.g.j.map lineV, false, true⟩), (1033, ⟨140, 4, RT.r.map recV, false, true⟩), (2033, ⟨3, 1, NS.map iV, false, true⟩), (27, ⟨9, 1, LV, false, true⟩)]⟩⟩)
    (fun j => j ≤ NS.length) (fun j => NS.length - j) 0 (by omega) (weak_of (fun i => i) (fun i => i) rfl ⟨by simp [numsT_nil] <;> omega, by simp [numsT_nil] <;> omega, by simp [numsT_nil] <;> omega, by simp [numsT_nil] <;> omega, by simp [numsT_nil] <;> omega⟩ (by simp [numsT_nil] <;> omega)) (fun j hj => ?_)
  have tk : (NS.take j).length = j := List.length_take_of_le hj
  by_cases hl2 : j < NS.length
  · have f0 : ((j : Int) < (NS.length : Int)) = True := eq_true (by omega)
    have g1 := map_get (f := iV) hl2
    have yl := nn _ (List.getElem_mem hl2)
    have n1 := numsT_next hl2
    generalize NS[j] = y at *
    repeat' first
      | (first | simp -implicitDefEqProofs only [f0, g1, hl2, numsT_len, tk, List.length_append, List.length_cons, List.length_nil, go_sem] | (refine And.intro ?_ ?_; omega) | (refine And.intro (shr_bd ?_ ?_) ?_; omega; omega) | refine sl_list rfl ?_ | refine sd_list rfl ?_ | refine sl_str ?_ | refine sd_str ?_)
      | refine callS (iFormatInt_c y (by omega) (by omega)) rfl rfl rfl ?_
    exact ⟨j + 1, by omega, by omega, weak_of (fun i => i) (fun i => if i = 36 then 50 else i) rfl ⟨by simp [n1, sV] <;> omega, by simp [n1, sV] <;> omega, by simp [n1, sV] <;> omega, by simp [n1, sV] <;> omega, by simp [n1, sV] <;> omega⟩ (by simp [n1, sV] <;> omega)⟩
  · have f0 : ((j : Int) < (NS.length : Int)) = False := eq_false (by omega)
    obtain rfl : j = NS.length := by omega
    have et : numsT (NS.take NS.length) = (NS.map itoa).map sV := by rw [List.take_length]; rfl
    rw [et]
    have eLV2 := eLV.symm
    repeat' first
      | (first | simp -implicitDefEqProofs only [f0, List.length_map, List.length_append, eLV2, go_sem] | (refine And.intro ?_ ?_; omega) | (refine And.intro (shr_bd ?_ ?_) ?_; omega; omega) | refine sl_list rfl ?_ | refine sd_list rfl ?_ | refine sl_str ?_ | refine sd_str ?_)
      | refine callL1 pf rfl rfl rfl ?_
      | refine callS st rfl rfl rfl ?_
    exact fin_scal rfl rfl
theorem fnScripts.law_c {c : C} (h : TC (.l 1 false [.i .u8]) c) : PC Tryz.prog 5 [] [.c c] (vB true) ⟨[], []⟩ := by
  obtain ⟨bs, rfl, hb⟩ := lawBytes_of h
  exact lawScripts_c bs hb
end Go.Proofs.YtahnbliabllflaaGreatDoor
