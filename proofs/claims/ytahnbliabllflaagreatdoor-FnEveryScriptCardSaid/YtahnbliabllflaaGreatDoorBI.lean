/-
  strings.Split at a line feed, as a contract.
  What the functions compute that run a script's text.
-/
import Derived.Test.YtahnbliabllflaaGreatDoorBE
import Derived.Shelf.Strings.SplitShaped
import Derived.Test.YtahnbliabllflaaGreatDoorBB
import Derived.Test.YtahnbliabllflaaGreatDoorT1
import Derived.Test.YtahnbliabllflaaGreatDoorZ1
namespace Go.Proofs.YtahnbliabllflaaGreatDoor
open Go.PL Go.RowKit
set_option linter.unusedSimpArgs false
theorem heap_max {g0 : Gh} {pk : Pk} {g : Gh} {h : Hp} (hk : HeapOk g0 pk g h) : ∃ m, g.w.cell? ⟨0, 0, none⟩ = some (.int .i64 m) := by
  obtain ⟨rows, ht, hb⟩ := hk.table
  obtain ⟨m, r, hm⟩ := TabP_max ht
  obtain ⟨ty, fz, hblk⟩ := hb _ hm
  exact ⟨m, by rw [cell_of_row _ _ _ _ _ _ hblk]; rfl⟩
theorem map_str : ∀ L : List (List UInt8), (L.map sB).map Value.string = L.map sV
  | [] => rfl
  | x :: L => by rw [List.map_cons, List.map_cons, List.map_cons, map_str L]
theorem libSplit_c (d : Nat) (l : List UInt8) (hl : l.length ≤ 1048576) : PC Tryz.prog 49 [] [.c (.v (.string (sB l))), .c (.v (.string (sB [10])))] (.s (.c (.o d))) ⟨[], [(d, ⟨9, 1, (lns l).map sV, false, true⟩)]⟩ := by
  have hn := lns_len (l := l)
  refine pc_libL d ⟨_, Tryz.func49, by kernel_rfl, by kernel_rfl⟩ (fun x hx => ?_) (fun x hx => ?_) (by rw [List.length_map]; exact Nat.le_trans (by omega) (show 1048577 ≤ maxLen by decide)) (flat_sV _) fun g cargs hk ha => ?_
  · obtain ⟨y, _, rfl⟩ := List.mem_map.1 hx; rfl
  · obtain ⟨y, _, rfl⟩ := List.mem_map.1 hx; rfl
  · obtain ⟨u, v, rfl, hu, hv⟩ := args_2 ha
    have hu : u = .string (sB l) := hu
    have hv : v = .string (sB [10]) := hv
    subst hu hv
    obtain ⟨m, hm⟩ := heap_max hk
    have c := Any.strings_Split { Tryz.laysM146 with } Tryz.laysM146.i9 (sB l) (sB [10]) m g.w (by rw [sB_size]; omega) hm (by decide)
    rw [splitB_lns, map_str, countB_lns] at c
    rw [List.length_map]
    exact c
end Go.Proofs.YtahnbliabllflaaGreatDoor
namespace Go.Proofs.YtahnbliabllflaaGreatDoor
open Go.PL
set_option linter.unusedSimpArgs false
set_option linter.unusedVariables false
theorem smp_ok : tableOk (openT smX 7 300) = true := by kernel_rfl
theorem smp_jr : (openT smX 7 300).g.j = [] ∧ (openT smX 7 300).r = [] := by
  constructor <;> (unfold openT; split <;> rfl)
theorem runQ {t : Tb} {l : List Ac} (ht : tableOk t = true) (hl : l.length ≤ 40) : runsT t l = runT t l ∧ runsN t l = runN t l := by
  have ho : runOk t l = true := by simp [runOk, ht, hl]
  exact ⟨by simp [runsT, ho], by simp [runsN, ho]⟩
theorem now_nn {t : Tb} (ht : tableOk t = true) : 0 ≤ nowOf t.g ∧ nowOf t.g ≤ 562949953421311 := by
  obtain ⟨hg, _⟩ := tableOk_iff.1 ht
  have hg2 := hg
  simp only [gameOk, Bool.and_eq_true] at hg2
  obtain ⟨hx, _, _, hs⟩ := hg2
  obtain ⟨r, hr⟩ := Option.isSome_iff_exists.1 hs
  simp only [puzzleOk, Bool.and_eq_true] at hx
  have hr2 := hr
  unfold playAll at hr2
  split at hr2
  · have hp := playF_pos hx.2.1 hr2
    have h1 := pos_le hp
    obtain ⟨_, r0, _⟩ := pos_sub hp
    unfold nowOf
    rw [if_pos hg]
    simp only [playI, hr, Option.getD_some]
    omega
  · cases hr2
theorem b2i_nn (b : Bool) : 0 ≤ b2i b ∧ b2i b ≤ 562949953421311 := by unfold b2i; split <;> omega
theorem doN_nn {t : Tb} {a : Ac} (ht : tableOk t = true) (ha : actOk a.k a.a a.b = true) : 0 ≤ doN t a ∧ doN t a ≤ 562949953421311 := by
  have h0 := now_nn ht
  unfold doN
  rw [if_pos ⟨ht, ha⟩]
  repeat' split
  · exact b2i_nn _
  · exact b2i_nn _
  · exact b2i_nn _
  · exact b2i_nn _
  · exact b2i_nn _
  · exact h0
theorem runN_nn : ∀ {l : List Ac} {t : Tb}, tableOk t = true → (∀ a ∈ l, actOk a.k a.a a.b = true) → ∀ x ∈ runN t l, 0 ≤ x ∧ x ≤ 562949953421311
  | [], _, _, _, x, h => by simp [runN] at h
  | a :: l, t, ht, ha, x, h => by
    simp only [runN, List.mem_cons] at h
    rcases h with rfl | h
    · exact doN_nn ht (ha a (by simp))
    · exact runN_nn (doT_ok (a := a) ht) (fun b hb => ha b (by simp [hb])) x h
noncomputable def outS (az : List Ac) : List (List UInt8) := (runsN (openT smX 7 300) az).map itoa ++ fmtT (runsT (openT smX 7 300) az)
noncomputable def scT (l : List UInt8) : List (List UInt8) := match scR l with
  | some az => outS az
  | none => []
def scOk (l : List UInt8) : Bool := (scR l).isSome
theorem scT_no {l : List UInt8} (h : scR l = none) : scT l = [] := by simp [scT, h]
theorem scOk_no {l : List UInt8} (h : scR l = none) : scOk l = false := by simp [scOk, h]
theorem scT_ok {l : List UInt8} {az : List Ac} (h : scR l = some az) : scT l = outS az := by simp [scT, h]
theorem scOk_ok {l : List UInt8} {az : List Ac} (h : scR l = some az) : scOk l = true := by simp [scOk, h]
theorem scA_next {L : List (List UInt8)} {i : Nat} {az ys : List Ac} (h : i < L.length) (h1 : scA (L.take i) = some az) (h2 : scA [L[i]] = some ys) : scA (L.take (i + 1)) = some (az ++ ys) := by
  rw [List.take_succ_eq_append_getElem h]
  exact scA_app _ _ h1 h2
theorem blank_f {l : List UInt8} (h : fldsOk l = false) : blank l = false := by simp [blank, h]
theorem blank_t {l : List UInt8} (h : fldsOk l = true) (h2 : flds l = []) : blank l = true := by simp [blank, h, h2]
theorem blank_n {l : List UInt8} (h2 : ¬ flds l = []) : blank l = false := by simp [blank, h2]
theorem paL_none {l : List UInt8} (h : paB l = false) : paL l = none := by
  unfold paB at h
  cases e : paL l with
  | none => rfl
  | some a => rw [e] at h; cases h
theorem paL_some {l : List UInt8} (h : paB l = true) : paL l = some (paA l) := by
  unfold paB at h
  cases e : paL l with
  | none => rw [e] at h; cases h
  | some a => rw [paA_ok e]
theorem outS_map {az : List Ac} : (outS az).map sV = ((runsN (openT smX 7 300) az).map itoa).map sV ++ (fmtT (runsT (openT smX 7 300) az)).map sV := by rw [outS, List.map_append]
def numsT (ns : List Int) : List Value := (ns.map itoa).map sV
theorem numsT_len {ns : List Int} : (numsT ns).length = ns.length := by simp [numsT]
theorem numsT_nil : numsT [] = [] := rfl
theorem numsT_next {ns : List Int} {j : Nat} (h : j < ns.length) : numsT (ns.take (j + 1)) = numsT (ns.take j) ++ [sV (itoa ns[j])] := by
  unfold numsT
  rw [List.take_succ_eq_append_getElem h, List.map_append, List.map_append]; rfl
set_option maxRecDepth 20000 in
set_option maxHeartbeats 16000000 in
theorem iRunScript_c (d : Nat) (l : List UInt8) (hl : l.length ≤ 1048576) : PC Tryz.prog 12 [] [.c (.v (.string (sB l)))] (.t [.c (.o d), .c (.v (.bool (scOk l)))]) ⟨[], [(d, ⟨9, 1, (scT l).map sV, false, true⟩)]⟩ := by
  by_cases h6 : 20000 < l.length
  · have e6 : ((20000 : Int) < (l.length : Int)) = True := eq_true (by omega)
    have e := scR_long (l := l) (by omega)
    rw [scT_no e, scOk_no e]
    refine pc_of Tryz.func12 rfl (by kernel_rfl) _ Tryz.ntmps12 (by simp) ?_
    (repeat' (first | simp -implicitDefEqProofs only [e6, go_sem] | (refine And.intro ?_ ?_; omega) | (refine And.intro (shr_bd ?_ ?_) ?_; omega; omega) | refine sl_list rfl ?_ | refine sd_list rfl ?_ | refine sl_str ?_ | refine sd_str ?_))
    refine fin_adopt (pv' := .t [.c (.o 999), .c (.v (.bool false))]) 999 9 1 rfl (by omega) (by simp [adPV, adVs, adV1, adC]) ?_
    exact fin_of (fun i => i) (fun i => 999) ⟨by simp <;> omega, by simp <;> omega, by simp <;> omega, by simp <;> omega, by simp <;> omega⟩ (by simp <;> omega) rfl
  have e6 : ((20000 : Int) < (l.length : Int)) = False := eq_false (by omega)
  have nL := lns_len (l := l)
  have wL := lnsG_wl l []
  have hbad := fun y => scA_bad (ls := lns l) (l := y)
  have hmany := fun az => scR_many (l := l) (az := az)
  have hok := fun az => scR_ok (l := l) (az := az) (by omega)
  have hno := scR_bad (l := l)
  have spl := fun d => libSplit_c d l hl
  have wL : ∀ w ∈ lns l, w.length ≤ 1048576 := fun w hw => by have := wL w hw; simp at this; omega
  generalize lns l = L at *
  refine pc_of Tryz.func12 rfl (by kernel_rfl) _ Tryz.ntmps12 (by simp) ?_
  repeat' first
    | (first | simp -implicitDefEqProofs only [e6, List.length_map, go_sem] | (refine And.intro ?_ ?_; omega) | (refine And.intro (shr_bd ?_ ?_) ?_; omega; omega) | refine sl_list rfl ?_ | refine sd_list rfl ?_ | refine sl_str ?_ | refine sd_str ?_)
    | refine callL1 spl rfl rfl rfl ?_
  refine loop_step (X := Nat × List Ac) (fun x => ⟨75, [(4, vO 18), (20, vO 20), (21, vN L.length), (22, vN x.1)], ⟨[], [(18, ⟨42, 3, x.2.map actV, false, true⟩), (20, ⟨9, 1, L.map sV, false, true⟩)]⟩⟩)
    (fun x => x.1 ≤ L.length ∧ scA (L.take x.1) = some x.2) (fun x => L.length - x.1) (0, []) ⟨by simp, by simp [scA]⟩ (weak_of (fun i => i) (fun i => i) rfl ⟨by simp <;> omega, by simp <;> omega, by simp <;> omega, by simp <;> omega, by simp <;> omega⟩ (by simp <;> omega)) (fun x hx => ?_)
  obtain ⟨i, az⟩ := x
  obtain ⟨hi, haz⟩ := hx
  simp only at hi haz
  have azl := scA_len haz
  rw [List.length_take_of_le hi] at azl
  by_cases hlt : i < L.length
  · have e0 : ((i : Int) < (L.length : Int)) = True := eq_true (by omega)
    have g1 := map_get (f := sV) hlt
    have yl := wL _ (List.getElem_mem hlt)
    have hb := hbad _ (List.getElem_mem hlt)
    have nx := fun ys => scA_next (ys := ys) hlt haz
    generalize L[i] = y at *
    have sf := fun d => iSplitFields_c d y yl
    have pc := iParseAct_c y yl
    cases hf : fldsOk y with
    | false =>
      have hbl := blank_f hf
      rw [hf] at sf
      cases hp : paB y with
      | false =>
        rw [hp] at pc
        have e := hno (hb hbl (paL_none hp))
        rw [scT_no e, scOk_no e]
        repeat' first
          | (first | simp -implicitDefEqProofs only [e0, g1, hlt, List.length_map, go_sem] | (refine And.intro ?_ ?_; omega) | (refine And.intro (shr_bd ?_ ?_) ?_; omega; omega) | refine sl_list rfl ?_ | refine sd_list rfl ?_ | refine sl_str ?_ | refine sd_str ?_)
          | refine callL1 sf rfl rfl rfl ?_
          | refine callS pc rfl rfl rfl ?_
        refine fin_adopt (pv' := .t [.c (.o 999), .c (.v (.bool false))]) 999 9 1 rfl (by omega) (by simp [adPV, adVs, adV1, adC]) ?_
        exact fin_of (fun i => i) (fun i => 999) ⟨by simp <;> omega, by simp <;> omega, by simp <;> omega, by simp <;> omega, by simp <;> omega⟩ (by simp <;> omega) rfl
      | true => 
        have e := paL_some hp
        rw [paL_no hf] at e
        cases e
    | true =>
      rw [hf] at sf
      simp only [fldsR_ok hf] at sf
      by_cases hz : flds y = []
      · have hbl := blank_t hf hz
        have nx := nx [] (scA_blank hbl)
        rw [List.append_nil] at nx
        have zl : (((flds y).length : Int) = 0) = True := by rw [hz]; simp
        generalize flds y = F at *
        repeat' first
          | (first | simp -implicitDefEqProofs only [e0, g1, hlt, List.length_map, zl, go_sem] | (refine And.intro ?_ ?_; omega) | (refine And.intro (shr_bd ?_ ?_) ?_; omega; omega) | refine sl_list rfl ?_ | refine sd_list rfl ?_ | refine sl_str ?_ | refine sd_str ?_)
          | refine callL1 sf rfl rfl rfl ?_
        exact ⟨(i + 1, az), ⟨by simp only; omega, nx⟩, by simp only; omega, weak_of (fun i => i) (fun i => i) rfl ⟨by simp <;> omega, by simp <;> omega, by simp <;> omega, by simp <;> omega, by simp <;> omega⟩ (by simp <;> omega)⟩
      · have hbl := blank_n hz
        have zl : (((flds y).length : Int) = 0) = False := eq_false fun h => hz (List.eq_nil_of_length_eq_zero (by omega))
        generalize flds y = F at *
        cases hp : paB y with
        | false =>
          rw [hp] at pc
          have e := hno (hb hbl (paL_none hp))
          rw [scT_no e, scOk_no e]
          repeat' first
            | (first | simp -implicitDefEqProofs only [e0, g1, hlt, List.length_map, zl, go_sem] | (refine And.intro ?_ ?_; omega) | (refine And.intro (shr_bd ?_ ?_) ?_; omega; omega) | refine sl_list rfl ?_ | refine sd_list rfl ?_ | refine sl_str ?_ | refine sd_str ?_)
            | refine callL1 sf rfl rfl rfl ?_
            | refine callS pc rfl rfl rfl ?_
          refine fin_adopt (pv' := .t [.c (.o 999), .c (.v (.bool false))]) 999 9 1 rfl (by omega) (by simp [adPV, adVs, adV1, adC]) ?_
          exact fin_of (fun i => i) (fun i => 999) ⟨by simp <;> omega, by simp <;> omega, by simp <;> omega, by simp <;> omega, by simp <;> omega⟩ (by simp <;> omega) rfl
        | true =>
          rw [hp] at pc
          have nx := nx [paA y] (scA_one hbl (paL_some hp))
          generalize paA y = a at *
          repeat' first
            | (first | simp -implicitDefEqProofs only [e0, g1, hlt, List.length_map, List.length_append, List.length_cons, List.length_nil, zl, go_sem] | (refine And.intro ?_ ?_; omega) | (refine And.intro (shr_bd ?_ ?_) ?_; omega; omega) | refine sl_list rfl ?_ | refine sd_list rfl ?_ | refine sl_str ?_ | refine sd_str ?_)
            | refine callL1 sf rfl rfl rfl ?_
            | refine callS pc rfl rfl rfl ?_
          exact ⟨(i + 1, az ++ [a]), ⟨by simp only; omega, nx⟩, by simp only; omega, weak_of (fun i => i) (fun i => if i = 18 then 47 else i) rfl ⟨by simp [List.map_append, actV] <;> omega, by simp [List.map_append, actV] <;> omega, by simp [List.map_append, actV] <;> omega, by simp [List.map_append, actV] <;> omega, by simp [List.map_append, actV] <;> omega⟩ (by simp [List.map_append, actV] <;> omega)⟩
  have e0 : ((i : Int) < (L.length : Int)) = False := eq_false (by omega)
  obtain rfl : i = L.length := by omega
  rw [List.take_length] at haz
  by_cases h40 : 40 < az.length
  · have e1 : ((40 : Int) < (az.length : Int)) = True := eq_true (by omega)
    have e := hmany az haz (by omega)
    rw [scT_no e, scOk_no e]
    (repeat' (first | simp -implicitDefEqProofs only [e0, e1, List.length_map, go_sem] | (refine And.intro ?_ ?_; omega) | (refine And.intro (shr_bd ?_ ?_) ?_; omega; omega) | refine sl_list rfl ?_ | refine sd_list rfl ?_ | refine sl_str ?_ | refine sd_str ?_))
    refine fin_adopt (pv' := .t [.c (.o 999), .c (.v (.bool false))]) 999 9 1 rfl (by omega) (by simp [adPV, adVs, adV1, adC]) ?_
    exact fin_of (fun i => i) (fun i => 999) ⟨by simp <;> omega, by simp <;> omega, by simp <;> omega, by simp <;> omega, by simp <;> omega⟩ (by simp <;> omega) rfl
  have e1 : ((40 : Int) < (az.length : Int)) = False := eq_false (by omega)
  have e := hok az haz (by omega)
  have so := smp_ok
  have j0 := smp_jr.1
  have r0 := smp_jr.2
  have s1 := iSampleTable_c
  have om := outS_map (az := az)
  rw [scT_ok e, scOk_ok e, om]
  obtain ⟨q1, q2⟩ := runQ so (l := az) (by omega)
  have hx := runT_ok (l := az) so
  rw [← q1] at hx
  have nn := runN_nn (l := az) so (scA_ok haz)
  rw [← q2] at nn
  have nl : (runsN (openT smX 7 300) az).length = az.length := by rw [q2, runN_len]
  have p1 := fun d e f h1 h2 h3 => iRunActs_c d e f h1 h2 h3 (openT smX 7 300) az (tbS_of so) (by omega)
  have pf := fun d => iFormatTable_c d (runsT (openT smX 7 300) az) (tbS_of hx)
  have fl := fmtT_len (t := runsT (openT smX 7 300) az)
  simp only [tbL, j0, r0, List.map_nil] at p1
  generalize runsN (openT smX 7 300) az = NS at *
  generalize runsT (openT smX 7 300) az = RT at *
  generalize openT smX 7 300 = T at *
  repeat' first
    | (first | simp -implicitDefEqProofs only [e0, e1, List.length_map, go_sem] | (refine And.intro ?_ ?_; omega) | (refine And.intro (shr_bd ?_ ?_) ?_; omega; omega) | refine sl_list rfl ?_ | refine sd_list rfl ?_ | refine sl_str ?_ | refine sd_str ?_)
    | refine callL2 (fun d e h => s1 d e h) rfl rfl rfl ?_
    | refine callL3 p1 rfl rfl rfl ?_
  refine loop_step (X := Nat) (fun j => ⟨75, [(10, .s (.c (.p 10 0))), (12, vO 58), (59, vO 2055), (60, vN NS.length), (61, vN j)], ⟨[(10, tbC RT (.o 55) (.o 1055))], [(58, ⟨9, 1, numsT (NS.take j), false, true⟩), (55, ⟨86, 3, RT.g.j.map lineV, false, true⟩), (1055, ⟨140, 4, RT.r.map recV, false, true⟩), (2055, ⟨3, 1, NS.map iV, false, true⟩)]⟩⟩)
    (fun j => j ≤ NS.length) (fun j => NS.length - j) 0 (by omega) (weak_of (fun i => i) (fun i => i) rfl ⟨by simp [numsT_nil] <;> omega, by simp [numsT_nil] <;> omega, by simp [numsT_nil] <;> omega, by simp [numsT_nil] <;> omega, by simp [numsT_nil] <;> omega⟩ (by simp [numsT_nil] <;> omega)) (fun j hj => ?_)
  have tk : (NS.take j).length = j := List.length_take_of_le hj
  by_cases hl2 : j < NS.length
  · have f0 : ((j : Int) < (NS.length : Int)) = True := eq_true (by omega)
    have g1 := map_get (f := iV) hl2
    have yl := nn _ (List.getElem_mem hl2)
    have n1 := numsT_next hl2
    generalize NS[j] = y at *
    repeat' first
      | (first | simp -implicitDefEqProofs only [f0, g1, hl2, numsT_len, tk, List.length_append, List.length_cons, List.length_nil, go_sem] | (refine And.intro ?_ ?_; omega) | (refine And.intro (shr_bd ?_ ?_) ?_; omega; omega) | refine sl_list rfl ?_ | refine sd_list rfl ?_ | refine sl_str ?_ | refine sd_str ?_)
      | refine callS (iFormatInt_c y (by omega) (by omega)) rfl rfl rfl ?_
    exact ⟨j + 1, by omega, by omega, weak_of (fun i => i) (fun i => if i = 58 then 69 else i) rfl ⟨by simp [n1, sV] <;> omega, by simp [n1, sV] <;> omega, by simp [n1, sV] <;> omega, by simp [n1, sV] <;> omega, by simp [n1, sV] <;> omega⟩ (by simp [n1, sV] <;> omega)⟩
  · have f0 : ((j : Int) < (NS.length : Int)) = False := eq_false (by omega)
    obtain rfl : j = NS.length := by omega
    have et : numsT (NS.take NS.length) = (NS.map itoa).map sV := by rw [List.take_length]; rfl
    rw [et]
    repeat' first
      | (first | simp -implicitDefEqProofs only [f0, List.length_map, List.length_append, go_sem] | (refine And.intro ?_ ?_; omega) | (refine And.intro (shr_bd ?_ ?_) ?_; omega; omega) | refine sl_list rfl ?_ | refine sd_list rfl ?_ | refine sl_str ?_ | refine sd_str ?_)
      | refine callL1 pf rfl rfl rfl ?_
    exact fin_of (fun i => i) (fun i => 74) ⟨by simp <;> omega, by simp <;> omega, by simp <;> omega, by simp <;> omega, by simp <;> omega⟩ (by simp <;> omega) rfl
end Go.Proofs.YtahnbliabllflaaGreatDoor
