/-
  What the functions compute that read fields and numbers.
-/
import Derived.Test.YtlplopaahflcpaaDoorBE
namespace Go.Proofs.YtlplopaahflcpaaDoor
open Go.PL
set_option linter.unusedSimpArgs false
set_option linter.unusedVariables false
/-- a contract's result, seen otherwise -/
theorem pc_fin {P : Program} {f : FuncId} {args : List V1} {pv r : PV} {h h' : Hp} (hc : PC P f [] args pv h) (hf : Fin ⟨[], []⟩ h pv h' r) : PC P f [] args r h' := by
  refine ⟨⟨hc.ok.1, fun g cargs hk wf ha => ?_⟩⟩
  refine (hc.ok.2 g cargs hk wf ha).mono fun e w' hx => ?_
  obtain ⟨g', v, rfl, rfl, h1, h2, h3⟩ := hx
  obtain ⟨g2, e2, h4, h5, h6⟩ := hf g g' v h1 h2 h3
  exact ⟨g2, v, rfl, e2, h4, h5, h6⟩
theorem u8_32 {c : UInt8} (h : ¬ c = 32) : ((c.toNat : Int) = 32) = False := by
  refine eq_false fun e => h ?_
  have : c.toNat = (32 : UInt8).toNat := by
    have e2 : (32 : UInt8).toNat = 32 := rfl
    omega
  exact UInt8.toNat_inj.1 this
set_option maxHeartbeats 4000000 in
theorem SplitFields_c (d : Nat) (l : List UInt8) (hl : l.length ≤ 1048576) : PC Tryd.prog 7 [] [.c (.v (.string (sB l)))] (.t [.c (.o d), .c (.v (.bool (fldsOk l)))]) ⟨[], [(d, ⟨9, 1, (fldsR l).map sV, false, true⟩)]⟩ := by
  by_cases h6 : 600 < l.length
  · have e6 : ((600 : Int) < (l.length : Int)) = True := eq_true (by omega)
    have e : fldsOk l = false := by
      have : ¬ l.length ≤ 600 := by omega
      simp [fldsOk, this]
    rw [e, fldsR_no e]
    refine pc_of Tryd.func7 rfl (by kernel_rfl) _ Tryd.ntmps7 (by simp) ?_
    (repeat' (first | simp -implicitDefEqProofs only [e6, go_sem] | (refine And.intro ?_ ?_; omega) | (refine And.intro (shr_bd ?_ ?_) ?_; omega; omega) | refine sl_list rfl ?_ | refine sd_list rfl ?_ | refine sl_str ?_ | refine sd_str ?_))
    exact fin_of (fun i => i) (fun i => 7) ⟨by simp [boxesR, listsR, csR, renC, keyC, optK, fnd, envR, St.get, keyPV, keyV1, renPV, renV1, hasKey, made_zero] <;> omega, by simp [boxesR, listsR, csR, renC, keyC, optK, fnd, envR, St.get, keyPV, keyV1, renPV, renV1, hasKey, made_zero] <;> omega, by simp [boxesR, listsR, csR, renC, keyC, optK, fnd, envR, St.get, keyPV, keyV1, renPV, renV1, hasKey, made_zero] <;> omega, by simp [boxesR, listsR, csR, renC, keyC, optK, fnd, envR, St.get, keyPV, keyV1, renPV, renV1, hasKey, made_zero] <;> omega, by simp [boxesR, listsR, csR, renC, keyC, optK, fnd, envR, St.get, keyPV, keyV1, renPV, renV1, hasKey, made_zero] <;> omega⟩ (by simp [boxesR, listsR, csR, renC, keyC, optK, fnd, envR, St.get, keyPV, keyV1, renPV, renV1, hasKey, made_zero] <;> omega) rfl
  have e6 : ((600 : Int) < (l.length : Int)) = False := eq_false (by omega)
  refine pc_of Tryd.func7 rfl (by kernel_rfl) _ Tryd.ntmps7 (by simp) ?_
  (repeat' (first | simp -implicitDefEqProofs only [e6, go_sem] | (refine And.intro ?_ ?_; omega) | (refine And.intro (shr_bd ?_ ?_) ?_; omega; omega) | refine sl_list rfl ?_ | refine sd_list rfl ?_ | refine sl_str ?_ | refine sd_str ?_))
  refine loop_step (X := Nat × Nat × List (List UInt8)) (fun x => ⟨62, [(0, vS l), (4, vO 7), (5, vN x.2.1), (6, vN x.1)], ⟨[], [(7, ⟨9, 1, x.2.2.map sV, false, true⟩)]⟩⟩)
    (fun x => FldAt l x.1 x.2.1 x.2.2) (fun x => l.length + 1 - x.1) (0, 0, []) (fld_start l) (weak_of (fun i => i) (fun i => i) rfl ⟨by simp [boxesR, listsR, csR, renC, keyC, optK, fnd, envR, St.get, keyPV, keyV1, renPV, renV1, hasKey, made_zero] <;> omega, by simp [boxesR, listsR, csR, renC, keyC, optK, fnd, envR, St.get, keyPV, keyV1, renPV, renV1, hasKey, made_zero] <;> omega, by simp [boxesR, listsR, csR, renC, keyC, optK, fnd, envR, St.get, keyPV, keyV1, renPV, renV1, hasKey, made_zero] <;> omega, by simp [boxesR, listsR, csR, renC, keyC, optK, fnd, envR, St.get, keyPV, keyV1, renPV, renV1, hasKey, made_zero] <;> omega, by simp [boxesR, listsR, csR, renC, keyC, optK, fnd, envR, St.get, keyPV, keyV1, renPV, renV1, hasKey, made_zero] <;> omega⟩ (by simp [boxesR, listsR, csR, renC, keyC, optK, fnd, envR, St.get, keyPV, keyV1, renPV, renV1, hasKey, made_zero] <;> omega)) (fun x hx => ?_)
  obtain ⟨i, b, out⟩ := x
  simp only at hx
  have hle := hx.le
  have hlen := hx.len
  by_cases h1 : l.length < i
  · have e0 : ((i : Int) ≤ l.length) = False := eq_false (by omega)
    obtain ⟨eo, eall⟩ := fld_done hx h1
    by_cases h24 : 24 < out.length
    · have e2 : ((24 : Int) < (out.length : Int)) = True := eq_true (by omega)
      have e : fldsOk l = false := by
        have : ¬ (flds l).length ≤ 24 := by rw [← eo]; omega
        simp [fldsOk, this]
      rw [e, fldsR_no e]
      (repeat' (first | simp -implicitDefEqProofs only [e0, e2, List.length_map, go_sem] | (refine And.intro ?_ ?_; omega) | (refine And.intro (shr_bd ?_ ?_) ?_; omega; omega) | refine sl_list rfl ?_ | refine sd_list rfl ?_ | refine sl_str ?_ | refine sd_str ?_))
      exact fin_of (fun i => i) (fun i => 60) ⟨by simp [boxesR, listsR, csR, renC, keyC, optK, fnd, envR, St.get, keyPV, keyV1, renPV, renV1, hasKey, made_zero] <;> omega, by simp [boxesR, listsR, csR, renC, keyC, optK, fnd, envR, St.get, keyPV, keyV1, renPV, renV1, hasKey, made_zero] <;> omega, by simp [boxesR, listsR, csR, renC, keyC, optK, fnd, envR, St.get, keyPV, keyV1, renPV, renV1, hasKey, made_zero] <;> omega, by simp [boxesR, listsR, csR, renC, keyC, optK, fnd, envR, St.get, keyPV, keyV1, renPV, renV1, hasKey, made_zero] <;> omega, by simp [boxesR, listsR, csR, renC, keyC, optK, fnd, envR, St.get, keyPV, keyV1, renPV, renV1, hasKey, made_zero] <;> omega⟩ (by simp [boxesR, listsR, csR, renC, keyC, optK, fnd, envR, St.get, keyPV, keyV1, renPV, renV1, hasKey, made_zero] <;> omega) rfl
    · have e2 : ((24 : Int) < (out.length : Int)) = False := eq_false (by omega)
      have e : fldsOk l = true := by
        have h3 : (flds l).length ≤ 24 := by rw [← eo]; omega
        have h4 : l.length ≤ 600 := by omega
        rw [fldsOk, eall]; simp [h3, h4]
      rw [e, fldsR_ok e, ← eo]
      (repeat' (first | simp -implicitDefEqProofs only [e0, e2, List.length_map, go_sem] | (refine And.intro ?_ ?_; omega) | (refine And.intro (shr_bd ?_ ?_) ?_; omega; omega) | refine sl_list rfl ?_ | refine sd_list rfl ?_ | refine sl_str ?_ | refine sd_str ?_))
      exact fin_of (fun i => i) (fun i => 7) ⟨by simp [boxesR, listsR, csR, renC, keyC, optK, fnd, envR, St.get, keyPV, keyV1, renPV, renV1, hasKey, made_zero] <;> omega, by simp [boxesR, listsR, csR, renC, keyC, optK, fnd, envR, St.get, keyPV, keyV1, renPV, renV1, hasKey, made_zero] <;> omega, by simp [boxesR, listsR, csR, renC, keyC, optK, fnd, envR, St.get, keyPV, keyV1, renPV, renV1, hasKey, made_zero] <;> omega, by simp [boxesR, listsR, csR, renC, keyC, optK, fnd, envR, St.get, keyPV, keyV1, renPV, renV1, hasKey, made_zero] <;> omega, by simp [boxesR, listsR, csR, renC, keyC, optK, fnd, envR, St.get, keyPV, keyV1, renPV, renV1, hasKey, made_zero] <;> omega⟩ (by simp [boxesR, listsR, csR, renC, keyC, optK, fnd, envR, St.get, keyPV, keyV1, renPV, renV1, hasKey, made_zero] <;> omega) rfl
  have e0 : ((i : Int) ≤ l.length) = True := eq_true (by omega)
  have hb := hx.bi (by omega)
  by_cases h2 : i < l.length
  · have e1 : ((i : Int) < l.length) = True := eq_true (by omega)
    have g1 : l[i]? = some l[i] := List.getElem?_eq_getElem h2
    have bad := fld_bad h2
    have st1 := fld_word hx h2
    have st2 := fld_end hx h2
    have st3 := fld_skip hx h2
    generalize l[i] = c at g1 bad st1 st2 st3
    by_cases c1 : c.toNat < 32
    · have f1 : ((c.toNat : Int) < 32) = True := eq_true (by omega)
      have e := bad (by simp [okB]; omega)
      rw [e, fldsR_no e]
      (repeat' (first | simp -implicitDefEqProofs only [e0, e1, g1, f1, go_sem] | (refine And.intro ?_ ?_; omega) | (refine And.intro (shr_bd ?_ ?_) ?_; omega; omega) | refine sl_list rfl ?_ | refine sd_list rfl ?_ | refine sl_str ?_ | refine sd_str ?_))
      exact fin_of (fun i => i) (fun i => 34) ⟨by simp [boxesR, listsR, csR, renC, keyC, optK, fnd, envR, St.get, keyPV, keyV1, renPV, renV1, hasKey, made_zero] <;> omega, by simp [boxesR, listsR, csR, renC, keyC, optK, fnd, envR, St.get, keyPV, keyV1, renPV, renV1, hasKey, made_zero] <;> omega, by simp [boxesR, listsR, csR, renC, keyC, optK, fnd, envR, St.get, keyPV, keyV1, renPV, renV1, hasKey, made_zero] <;> omega, by simp [boxesR, listsR, csR, renC, keyC, optK, fnd, envR, St.get, keyPV, keyV1, renPV, renV1, hasKey, made_zero] <;> omega, by simp [boxesR, listsR, csR, renC, keyC, optK, fnd, envR, St.get, keyPV, keyV1, renPV, renV1, hasKey, made_zero] <;> omega⟩ (by simp [boxesR, listsR, csR, renC, keyC, optK, fnd, envR, St.get, keyPV, keyV1, renPV, renV1, hasKey, made_zero] <;> omega) rfl
    have f1 : ((c.toNat : Int) < 32) = False := eq_false (by omega)
    by_cases c2 : 126 < c.toNat
    · have f2 : ((126 : Int) < (c.toNat : Int)) = True := eq_true (by omega)
      have e := bad (by simp [okB]; omega)
      rw [e, fldsR_no e]
      (repeat' (first | simp -implicitDefEqProofs only [e0, e1, g1, f1, f2, go_sem] | (refine And.intro ?_ ?_; omega) | (refine And.intro (shr_bd ?_ ?_) ?_; omega; omega) | refine sl_list rfl ?_ | refine sd_list rfl ?_ | refine sl_str ?_ | refine sd_str ?_))
      exact fin_of (fun i => i) (fun i => 34) ⟨by simp [boxesR, listsR, csR, renC, keyC, optK, fnd, envR, St.get, keyPV, keyV1, renPV, renV1, hasKey, made_zero] <;> omega, by simp [boxesR, listsR, csR, renC, keyC, optK, fnd, envR, St.get, keyPV, keyV1, renPV, renV1, hasKey, made_zero] <;> omega, by simp [boxesR, listsR, csR, renC, keyC, optK, fnd, envR, St.get, keyPV, keyV1, renPV, renV1, hasKey, made_zero] <;> omega, by simp [boxesR, listsR, csR, renC, keyC, optK, fnd, envR, St.get, keyPV, keyV1, renPV, renV1, hasKey, made_zero] <;> omega, by simp [boxesR, listsR, csR, renC, keyC, optK, fnd, envR, St.get, keyPV, keyV1, renPV, renV1, hasKey, made_zero] <;> omega⟩ (by simp [boxesR, listsR, csR, renC, keyC, optK, fnd, envR, St.get, keyPV, keyV1, renPV, renV1, hasKey, made_zero] <;> omega) rfl
    have f2 : ((126 : Int) < (c.toNat : Int)) = False := eq_false (by omega)
    have hok : okB c = true := by simp [okB]; omega
    by_cases c3 : c = 32
    · have f3 : ((c.toNat : Int) = 32) = True := eq_true (by rw [c3]; rfl)
      by_cases hbi : b < i
      · have f4 : ((b : Int) < (i : Int)) = True := eq_true (by omega)
        repeat' first
          | (first | simp -implicitDefEqProofs only [e0, e1, g1, f1, f2, f3, f4, List.length_map, List.length_append, List.map_append, List.length_cons, List.length_nil, go_sem] | (refine And.intro ?_ ?_; omega) | (refine And.intro (shr_bd ?_ ?_) ?_; omega; omega) | refine sl_list rfl ?_ | refine sd_list rfl ?_ | refine sl_str ?_ | refine sd_str ?_)
        exact ⟨(i + 1, i + 1, out ++ [(l.drop b).take (i - b)]), st2 hok c3 hbi, by simp only; omega, weak_of (fun i => i) (fun i => if i = 7 then 54 else i) rfl ⟨by simp [boxesR, listsR, csR, renC, keyC, optK, fnd, envR, St.get, keyPV, keyV1, renPV, renV1, hasKey, made_zero, List.map_append, sV] <;> omega, by simp [boxesR, listsR, csR, renC, keyC, optK, fnd, envR, St.get, keyPV, keyV1, renPV, renV1, hasKey, made_zero, List.map_append, sV] <;> omega, by simp [boxesR, listsR, csR, renC, keyC, optK, fnd, envR, St.get, keyPV, keyV1, renPV, renV1, hasKey, made_zero, List.map_append, sV] <;> omega, by simp [boxesR, listsR, csR, renC, keyC, optK, fnd, envR, St.get, keyPV, keyV1, renPV, renV1, hasKey, made_zero, List.map_append, sV] <;> omega, by simp [boxesR, listsR, csR, renC, keyC, optK, fnd, envR, St.get, keyPV, keyV1, renPV, renV1, hasKey, made_zero, List.map_append, sV] <;> omega⟩ (by simp [boxesR, listsR, csR, renC, keyC, optK, fnd, envR, St.get, keyPV, keyV1, renPV, renV1, hasKey, made_zero, List.map_append, sV] <;> omega)⟩
      · have f4 : ((b : Int) < (i : Int)) = False := eq_false (by omega)
        (repeat' (first | simp -implicitDefEqProofs only [e0, e1, g1, f1, f2, f3, f4, go_sem] | (refine And.intro ?_ ?_; omega) | (refine And.intro (shr_bd ?_ ?_) ?_; omega; omega) | refine sl_list rfl ?_ | refine sd_list rfl ?_ | refine sl_str ?_ | refine sd_str ?_))
        exact ⟨(i + 1, i + 1, out), st3 hok c3 hbi, by simp only; omega, weak_of (fun i => i) (fun i => i) rfl ⟨by simp [boxesR, listsR, csR, renC, keyC, optK, fnd, envR, St.get, keyPV, keyV1, renPV, renV1, hasKey, made_zero] <;> omega, by simp [boxesR, listsR, csR, renC, keyC, optK, fnd, envR, St.get, keyPV, keyV1, renPV, renV1, hasKey, made_zero] <;> omega, by simp [boxesR, listsR, csR, renC, keyC, optK, fnd, envR, St.get, keyPV, keyV1, renPV, renV1, hasKey, made_zero] <;> omega, by simp [boxesR, listsR, csR, renC, keyC, optK, fnd, envR, St.get, keyPV, keyV1, renPV, renV1, hasKey, made_zero] <;> omega, by simp [boxesR, listsR, csR, renC, keyC, optK, fnd, envR, St.get, keyPV, keyV1, renPV, renV1, hasKey, made_zero] <;> omega⟩ (by simp [boxesR, listsR, csR, renC, keyC, optK, fnd, envR, St.get, keyPV, keyV1, renPV, renV1, hasKey, made_zero] <;> omega)⟩
    · have f3 := u8_32 c3
      (repeat' (first | simp -implicitDefEqProofs only [e0, e1, g1, f1, f2, f3, go_sem] | (refine And.intro ?_ ?_; omega) | (refine And.intro (shr_bd ?_ ?_) ?_; omega; omega) | refine sl_list rfl ?_ | refine sd_list rfl ?_ | refine sl_str ?_ | refine sd_str ?_))
      exact ⟨(i + 1, b, out), st1 hok c3, by simp only; omega, weak_of (fun i => i) (fun i => i) rfl ⟨by simp [boxesR, listsR, csR, renC, keyC, optK, fnd, envR, St.get, keyPV, keyV1, renPV, renV1, hasKey, made_zero] <;> omega, by simp [boxesR, listsR, csR, renC, keyC, optK, fnd, envR, St.get, keyPV, keyV1, renPV, renV1, hasKey, made_zero] <;> omega, by simp [boxesR, listsR, csR, renC, keyC, optK, fnd, envR, St.get, keyPV, keyV1, renPV, renV1, hasKey, made_zero] <;> omega, by simp [boxesR, listsR, csR, renC, keyC, optK, fnd, envR, St.get, keyPV, keyV1, renPV, renV1, hasKey, made_zero] <;> omega, by simp [boxesR, listsR, csR, renC, keyC, optK, fnd, envR, St.get, keyPV, keyV1, renPV, renV1, hasKey, made_zero] <;> omega⟩ (by simp [boxesR, listsR, csR, renC, keyC, optK, fnd, envR, St.get, keyPV, keyV1, renPV, renV1, hasKey, made_zero] <;> omega)⟩
  · have e1 : ((i : Int) < l.length) = False := eq_false (by omega)
    obtain rfl : i = l.length := by omega
    by_cases hbi : b < l.length
    · have f4 : ((b : Int) < (l.length : Int)) = True := eq_true (by omega)
      have st := fld_last hx hbi
      repeat' first
        | (first | simp -implicitDefEqProofs only [e0, e1, f4, List.length_map, List.length_append, List.map_append, List.length_cons, List.length_nil, go_sem] | (refine And.intro ?_ ?_; omega) | (refine And.intro (shr_bd ?_ ?_) ?_; omega; omega) | refine sl_list rfl ?_ | refine sd_list rfl ?_ | refine sl_str ?_ | refine sd_str ?_)
      exact ⟨(l.length + 1, l.length + 1, out ++ [(l.drop b).take (l.length - b)]), st, by simp only; omega, weak_of (fun i => i) (fun i => if i = 7 then 54 else i) rfl ⟨by simp [boxesR, listsR, csR, renC, keyC, optK, fnd, envR, St.get, keyPV, keyV1, renPV, renV1, hasKey, made_zero, List.map_append, sV] <;> omega, by simp [boxesR, listsR, csR, renC, keyC, optK, fnd, envR, St.get, keyPV, keyV1, renPV, renV1, hasKey, made_zero, List.map_append, sV] <;> omega, by simp [boxesR, listsR, csR, renC, keyC, optK, fnd, envR, St.get, keyPV, keyV1, renPV, renV1, hasKey, made_zero, List.map_append, sV] <;> omega, by simp [boxesR, listsR, csR, renC, keyC, optK, fnd, envR, St.get, keyPV, keyV1, renPV, renV1, hasKey, made_zero, List.map_append, sV] <;> omega, by simp [boxesR, listsR, csR, renC, keyC, optK, fnd, envR, St.get, keyPV, keyV1, renPV, renV1, hasKey, made_zero, List.map_append, sV] <;> omega⟩ (by simp [boxesR, listsR, csR, renC, keyC, optK, fnd, envR, St.get, keyPV, keyV1, renPV, renV1, hasKey, made_zero, List.map_append, sV] <;> omega)⟩
    · have f4 : ((b : Int) < (l.length : Int)) = False := eq_false (by omega)
      have st := fld_none hx hbi
      (repeat' (first | simp -implicitDefEqProofs only [e0, e1, f4, go_sem] | (refine And.intro ?_ ?_; omega) | (refine And.intro (shr_bd ?_ ?_) ?_; omega; omega) | refine sl_list rfl ?_ | refine sd_list rfl ?_ | refine sl_str ?_ | refine sd_str ?_))
      exact ⟨(l.length + 1, l.length + 1, out), st, by simp only; omega, weak_of (fun i => i) (fun i => i) rfl ⟨by simp [boxesR, listsR, csR, renC, keyC, optK, fnd, envR, St.get, keyPV, keyV1, renPV, renV1, hasKey, made_zero] <;> omega, by simp [boxesR, listsR, csR, renC, keyC, optK, fnd, envR, St.get, keyPV, keyV1, renPV, renV1, hasKey, made_zero] <;> omega, by simp [boxesR, listsR, csR, renC, keyC, optK, fnd, envR, St.get, keyPV, keyV1, renPV, renV1, hasKey, made_zero] <;> omega, by simp [boxesR, listsR, csR, renC, keyC, optK, fnd, envR, St.get, keyPV, keyV1, renPV, renV1, hasKey, made_zero] <;> omega, by simp [boxesR, listsR, csR, renC, keyC, optK, fnd, envR, St.get, keyPV, keyV1, renPV, renV1, hasKey, made_zero] <;> omega⟩ (by simp [boxesR, listsR, csR, renC, keyC, optK, fnd, envR, St.get, keyPV, keyV1, renPV, renV1, hasKey, made_zero] <;> omega)⟩
set_option maxHeartbeats 4000000 in
theorem iSplitFields_c (d : Nat) (l : List UInt8) (hl : l.length ≤ 1048576) : PC Tryd.prog 11 [] [.c (.v (.string (sB l)))] (.t [.c (.o d), .c (.v (.bool (fldsOk l)))]) ⟨[], [(d, ⟨9, 1, (fldsR l).map sV, false, true⟩)]⟩ := by
  by_cases h6 : 600 < l.length
  · have e6 : ((600 : Int) < (l.length : Int)) = True := eq_true (by omega)
    have e : fldsOk l = false := by
      have : ¬ l.length ≤ 600 := by omega
      simp [fldsOk, this]
    rw [e, fldsR_no e]
    refine pc_of Tryd.func11 rfl (by kernel_rfl) _ Tryd.ntmps11 (by simp) ?_
    (repeat' (first | simp -implicitDefEqProofs only [e6, go_sem] | (refine And.intro ?_ ?_; omega) | (refine And.intro (shr_bd ?_ ?_) ?_; omega; omega) | refine sl_list rfl ?_ | refine sd_list rfl ?_ | refine sl_str ?_ | refine sd_str ?_))
    refine fin_adopt (pv' := .t [.c (.o 999), .c (.v (.bool false))]) 999 9 1 rfl (by omega) (by simp [adPV, adVs, adV1, adC]) ?_
    exact fin_of (fun i => i) (fun i => 999) ⟨by simp [boxesR, listsR, csR, renC, keyC, optK, fnd, envR, St.get, keyPV, keyV1, renPV, renV1, hasKey, made_zero] <;> omega, by simp [boxesR, listsR, csR, renC, keyC, optK, fnd, envR, St.get, keyPV, keyV1, renPV, renV1, hasKey, made_zero] <;> omega, by simp [boxesR, listsR, csR, renC, keyC, optK, fnd, envR, St.get, keyPV, keyV1, renPV, renV1, hasKey, made_zero] <;> omega, by simp [boxesR, listsR, csR, renC, keyC, optK, fnd, envR, St.get, keyPV, keyV1, renPV, renV1, hasKey, made_zero] <;> omega, by simp [boxesR, listsR, csR, renC, keyC, optK, fnd, envR, St.get, keyPV, keyV1, renPV, renV1, hasKey, made_zero] <;> omega⟩ (by simp [boxesR, listsR, csR, renC, keyC, optK, fnd, envR, St.get, keyPV, keyV1, renPV, renV1, hasKey, made_zero] <;> omega) rfl
  have e6 : ((600 : Int) < (l.length : Int)) = False := eq_false (by omega)
  refine pc_of Tryd.func11 rfl (by kernel_rfl) _ Tryd.ntmps11 (by simp) ?_
  (repeat' (first | simp -implicitDefEqProofs only [e6, go_sem] | (refine And.intro ?_ ?_; omega) | (refine And.intro (shr_bd ?_ ?_) ?_; omega; omega) | refine sl_list rfl ?_ | refine sd_list rfl ?_ | refine sl_str ?_ | refine sd_str ?_))
  refine loop_step (X := Nat × Nat × List (List UInt8)) (fun x => ⟨59, [(0, vS l), (4, vO 10), (5, vN x.2.1), (6, vN x.1)], ⟨[], [(10, ⟨9, 1, x.2.2.map sV, false, true⟩)]⟩⟩)
    (fun x => FldAt l x.1 x.2.1 x.2.2) (fun x => l.length + 1 - x.1) (0, 0, []) (fld_start l) (weak_of (fun i => i) (fun i => i) rfl ⟨by simp [boxesR, listsR, csR, renC, keyC, optK, fnd, envR, St.get, keyPV, keyV1, renPV, renV1, hasKey, made_zero] <;> omega, by simp [boxesR, listsR, csR, renC, keyC, optK, fnd, envR, St.get, keyPV, keyV1, renPV, renV1, hasKey, made_zero] <;> omega, by simp [boxesR, listsR, csR, renC, keyC, optK, fnd, envR, St.get, keyPV, keyV1, renPV, renV1, hasKey, made_zero] <;> omega, by simp [boxesR, listsR, csR, renC, keyC, optK, fnd, envR, St.get, keyPV, keyV1, renPV, renV1, hasKey, made_zero] <;> omega, by simp [boxesR, listsR, csR, renC, keyC, optK, fnd, envR, St.get, keyPV, keyV1, renPV, renV1, hasKey, made_zero] <;> omega⟩ (by simp [boxesR, listsR, csR, renC, keyC, optK, fnd, envR, St.get, keyPV, keyV1, renPV, renV1, hasKey, made_zero] <;> omega)) (fun x hx => ?_)
  obtain ⟨i, b, out⟩ := x
  simp only at hx
  have hle := hx.le
  have hlen := hx.len
  by_cases h1 : l.length < i
  · have e0 : ((i : Int) ≤ l.length) = False := eq_false (by omega)
    obtain ⟨eo, eall⟩ := fld_done hx h1
    by_cases h24 : 24 < out.length
    · have e2 : ((24 : Int) < (out.length : Int)) = True := eq_true (by omega)
      have e : fldsOk l = false := by
        have : ¬ (flds l).length ≤ 24 := by rw [← eo]; omega
        simp [fldsOk, this]
      rw [e, fldsR_no e]
      (repeat' (first | simp -implicitDefEqProofs only [e0, e2, List.length_map, go_sem] | (refine And.intro ?_ ?_; omega) | (refine And.intro (shr_bd ?_ ?_) ?_; omega; omega) | refine sl_list rfl ?_ | refine sd_list rfl ?_ | refine sl_str ?_ | refine sd_str ?_))
      refine fin_adopt (pv' := .t [.c (.o 999), .c (.v (.bool false))]) 999 9 1 rfl (by omega) (by simp [adPV, adVs, adV1, adC]) ?_
      exact fin_of (fun i => i) (fun i => 999) ⟨by simp [boxesR, listsR, csR, renC, keyC, optK, fnd, envR, St.get, keyPV, keyV1, renPV, renV1, hasKey, made_zero] <;> omega, by simp [boxesR, listsR, csR, renC, keyC, optK, fnd, envR, St.get, keyPV, keyV1, renPV, renV1, hasKey, made_zero] <;> omega, by simp [boxesR, listsR, csR, renC, keyC, optK, fnd, envR, St.get, keyPV, keyV1, renPV, renV1, hasKey, made_zero] <;> omega, by simp [boxesR, listsR, csR, renC, keyC, optK, fnd, envR, St.get, keyPV, keyV1, renPV, renV1, hasKey, made_zero] <;> omega, by simp [boxesR, listsR, csR, renC, keyC, optK, fnd, envR, St.get, keyPV, keyV1, renPV, renV1, hasKey, made_zero] <;> omega⟩ (by simp [boxesR, listsR, csR, renC, keyC, optK, fnd, envR, St.get, keyPV, keyV1, renPV, renV1, hasKey, made_zero] <;> omega) rfl
    · have e2 : ((24 : Int) < (out.length : Int)) = False := eq_false (by omega)
      have e : fldsOk l = true := by
        have h3 : (flds l).length ≤ 24 := by rw [← eo]; omega
        have h4 : l.length ≤ 600 := by omega
        rw [fldsOk, eall]; simp [h3, h4]
      rw [e, fldsR_ok e, ← eo]
      (repeat' (first | simp -implicitDefEqProofs only [e0, e2, List.length_map, go_sem] | (refine And.intro ?_ ?_; omega) | (refine And.intro (shr_bd ?_ ?_) ?_; omega; omega) | refine sl_list rfl ?_ | refine sd_list rfl ?_ | refine sl_str ?_ | refine sd_str ?_))
      exact fin_of (fun i => i) (fun i => 10) ⟨by simp [boxesR, listsR, csR, renC, keyC, optK, fnd, envR, St.get, keyPV, keyV1, renPV, renV1, hasKey, made_zero] <;> omega, by simp [boxesR, listsR, csR, renC, keyC, optK, fnd, envR, St.get, keyPV, keyV1, renPV, renV1, hasKey, made_zero] <;> omega, by simp [boxesR, listsR, csR, renC, keyC, optK, fnd, envR, St.get, keyPV, keyV1, renPV, renV1, hasKey, made_zero] <;> omega, by simp [boxesR, listsR, csR, renC, keyC, optK, fnd, envR, St.get, keyPV, keyV1, renPV, renV1, hasKey, made_zero] <;> omega, by simp [boxesR, listsR, csR, renC, keyC, optK, fnd, envR, St.get, keyPV, keyV1, renPV, renV1, hasKey, made_zero] <;> omega⟩ (by simp [boxesR, listsR, csR, renC, keyC, optK, fnd, envR, St.get, keyPV, keyV1, renPV, renV1, hasKey, made_zero] <;> omega) rfl
  have e0 : ((i : Int) ≤ l.length) = True := eq_true (by omega)
  have hb := hx.bi (by omega)
  by_cases h2 : i < l.length
  · have e1 : ((i : Int) < l.length) = True := eq_true (by omega)
    have e5 : ((i : Int) = l.length) = False := eq_false (by omega)
    have g1 : l[i]? = some l[i] := List.getElem?_eq_getElem h2
    have bad := fld_bad h2
    have st1 := fld_word hx h2
    have st2 := fld_end hx h2
    have st3 := fld_skip hx h2
    generalize l[i] = c at g1 bad st1 st2 st3
    by_cases c1 : c.toNat < 32
    · have f1 : ((c.toNat : Int) < 32) = True := eq_true (by omega)
      have e := bad (by simp [okB]; omega)
      rw [e, fldsR_no e]
      (repeat' (first | simp -implicitDefEqProofs only [e0, e1, g1, f1, go_sem] | (refine And.intro ?_ ?_; omega) | (refine And.intro (shr_bd ?_ ?_) ?_; omega; omega) | refine sl_list rfl ?_ | refine sd_list rfl ?_ | refine sl_str ?_ | refine sd_str ?_))
      refine fin_adopt (pv' := .t [.c (.o 999), .c (.v (.bool false))]) 999 9 1 rfl (by omega) (by simp [adPV, adVs, adV1, adC]) ?_
      exact fin_of (fun i => i) (fun i => 999) ⟨by simp [boxesR, listsR, csR, renC, keyC, optK, fnd, envR, St.get, keyPV, keyV1, renPV, renV1, hasKey, made_zero] <;> omega, by simp [boxesR, listsR, csR, renC, keyC, optK, fnd, envR, St.get, keyPV, keyV1, renPV, renV1, hasKey, made_zero] <;> omega, by simp [boxesR, listsR, csR, renC, keyC, optK, fnd, envR, St.get, keyPV, keyV1, renPV, renV1, hasKey, made_zero] <;> omega, by simp [boxesR, listsR, csR, renC, keyC, optK, fnd, envR, St.get, keyPV, keyV1, renPV, renV1, hasKey, made_zero] <;> omega, by simp [boxesR, listsR, csR, renC, keyC, optK, fnd, envR, St.get, keyPV, keyV1, renPV, renV1, hasKey, made_zero] <;> omega⟩ (by simp [boxesR, listsR, csR, renC, keyC, optK, fnd, envR, St.get, keyPV, keyV1, renPV, renV1, hasKey, made_zero] <;> omega) rfl
    have f1 : ((c.toNat : Int) < 32) = False := eq_false (by omega)
    by_cases c2 : 126 < c.toNat
    · have f2 : ((126 : Int) < (c.toNat : Int)) = True := eq_true (by omega)
      have e := bad (by simp [okB]; omega)
      rw [e, fldsR_no e]
      (repeat' (first | simp -implicitDefEqProofs only [e0, e1, g1, f1, f2, go_sem] | (refine And.intro ?_ ?_; omega) | (refine And.intro (shr_bd ?_ ?_) ?_; omega; omega) | refine sl_list rfl ?_ | refine sd_list rfl ?_ | refine sl_str ?_ | refine sd_str ?_))
      refine fin_adopt (pv' := .t [.c (.o 999), .c (.v (.bool false))]) 999 9 1 rfl (by omega) (by simp [adPV, adVs, adV1, adC]) ?_
      exact fin_of (fun i => i) (fun i => 999) ⟨by simp [boxesR, listsR, csR, renC, keyC, optK, fnd, envR, St.get, keyPV, keyV1, renPV, renV1, hasKey, made_zero] <;> omega, by simp [boxesR, listsR, csR, renC, keyC, optK, fnd, envR, St.get, keyPV, keyV1, renPV, renV1, hasKey, made_zero] <;> omega, by simp [boxesR, listsR, csR, renC, keyC, optK, fnd, envR, St.get, keyPV, keyV1, renPV, renV1, hasKey, made_zero] <;> omega, by simp [boxesR, listsR, csR, renC, keyC, optK, fnd, envR, St.get, keyPV, keyV1, renPV, renV1, hasKey, made_zero] <;> omega, by simp [boxesR, listsR, csR, renC, keyC, optK, fnd, envR, St.get, keyPV, keyV1, renPV, renV1, hasKey, made_zero] <;> omega⟩ (by simp [boxesR, listsR, csR, renC, keyC, optK, fnd, envR, St.get, keyPV, keyV1, renPV, renV1, hasKey, made_zero] <;> omega) rfl
    have f2 : ((126 : Int) < (c.toNat : Int)) = False := eq_false (by omega)
    have hok : okB c = true := by simp [okB]; omega
    by_cases c3 : c = 32
    · have f3 : ((c.toNat : Int) = 32) = True := eq_true (by rw [c3]; rfl)
      by_cases hbi : b < i
      · have f4 : ((b : Int) < (i : Int)) = True := eq_true (by omega)
        repeat' first
          | (first | simp -implicitDefEqProofs only [e0, e1, e5, g1, f1, f2, f3, f4, List.length_map, List.length_append, List.map_append, List.length_cons, List.length_nil, go_sem] | (refine And.intro ?_ ?_; omega) | (refine And.intro (shr_bd ?_ ?_) ?_; omega; omega) | refine sl_list rfl ?_ | refine sd_list rfl ?_ | refine sl_str ?_ | refine sd_str ?_)
        exact ⟨(i + 1, i + 1, out ++ [(l.drop b).take (i - b)]), st2 hok c3 hbi, by simp only; omega, weak_of (fun i => i) (fun i => if i = 10 then 52 else i) rfl ⟨by simp [boxesR, listsR, csR, renC, keyC, optK, fnd, envR, St.get, keyPV, keyV1, renPV, renV1, hasKey, made_zero, List.map_append, sV] <;> omega, by simp [boxesR, listsR, csR, renC, keyC, optK, fnd, envR, St.get, keyPV, keyV1, renPV, renV1, hasKey, made_zero, List.map_append, sV] <;> omega, by simp [boxesR, listsR, csR, renC, keyC, optK, fnd, envR, St.get, keyPV, keyV1, renPV, renV1, hasKey, made_zero, List.map_append, sV] <;> omega, by simp [boxesR, listsR, csR, renC, keyC, optK, fnd, envR, St.get, keyPV, keyV1, renPV, renV1, hasKey, made_zero, List.map_append, sV] <;> omega, by simp [boxesR, listsR, csR, renC, keyC, optK, fnd, envR, St.get, keyPV, keyV1, renPV, renV1, hasKey, made_zero, List.map_append, sV] <;> omega⟩ (by simp [boxesR, listsR, csR, renC, keyC, optK, fnd, envR, St.get, keyPV, keyV1, renPV, renV1, hasKey, made_zero, List.map_append, sV] <;> omega)⟩
      · have f4 : ((b : Int) < (i : Int)) = False := eq_false (by omega)
        (repeat' (first | simp -implicitDefEqProofs only [e0, e1, e5, g1, f1, f2, f3, f4, go_sem] | (refine And.intro ?_ ?_; omega) | (refine And.intro (shr_bd ?_ ?_) ?_; omega; omega) | refine sl_list rfl ?_ | refine sd_list rfl ?_ | refine sl_str ?_ | refine sd_str ?_))
        exact ⟨(i + 1, i + 1, out), st3 hok c3 hbi, by simp only; omega, weak_of (fun i => i) (fun i => i) rfl ⟨by simp [boxesR, listsR, csR, renC, keyC, optK, fnd, envR, St.get, keyPV, keyV1, renPV, renV1, hasKey, made_zero] <;> omega, by simp [boxesR, listsR, csR, renC, keyC, optK, fnd, envR, St.get, keyPV, keyV1, renPV, renV1, hasKey, made_zero] <;> omega, by simp [boxesR, listsR, csR, renC, keyC, optK, fnd, envR, St.get, keyPV, keyV1, renPV, renV1, hasKey, made_zero] <;> omega, by simp [boxesR, listsR, csR, renC, keyC, optK, fnd, envR, St.get, keyPV, keyV1, renPV, renV1, hasKey, made_zero] <;> omega, by simp [boxesR, listsR, csR, renC, keyC, optK, fnd, envR, St.get, keyPV, keyV1, renPV, renV1, hasKey, made_zero] <;> omega⟩ (by simp [boxesR, listsR, csR, renC, keyC, optK, fnd, envR, St.get, keyPV, keyV1, renPV, renV1, hasKey, made_zero] <;> omega)⟩
    · have f3 := u8_32 c3
      (repeat' (first | simp -implicitDefEqProofs only [e0, e1, e5, g1, f1, f2, f3, go_sem] | (refine And.intro ?_ ?_; omega) | (refine And.intro (shr_bd ?_ ?_) ?_; omega; omega) | refine sl_list rfl ?_ | refine sd_list rfl ?_ | refine sl_str ?_ | refine sd_str ?_))
      exact ⟨(i + 1, b, out), st1 hok c3, by simp only; omega, weak_of (fun i => i) (fun i => i) rfl ⟨by simp [boxesR, listsR, csR, renC, keyC, optK, fnd, envR, St.get, keyPV, keyV1, renPV, renV1, hasKey, made_zero] <;> omega, by simp [boxesR, listsR, csR, renC, keyC, optK, fnd, envR, St.get, keyPV, keyV1, renPV, renV1, hasKey, made_zero] <;> omega, by simp [boxesR, listsR, csR, renC, keyC, optK, fnd, envR, St.get, keyPV, keyV1, renPV, renV1, hasKey, made_zero] <;> omega, by simp [boxesR, listsR, csR, renC, keyC, optK, fnd, envR, St.get, keyPV, keyV1, renPV, renV1, hasKey, made_zero] <;> omega, by simp [boxesR, listsR, csR, renC, keyC, optK, fnd, envR, St.get, keyPV, keyV1, renPV, renV1, hasKey, made_zero] <;> omega⟩ (by simp [boxesR, listsR, csR, renC, keyC, optK, fnd, envR, St.get, keyPV, keyV1, renPV, renV1, hasKey, made_zero] <;> omega)⟩
  · have e1 : ((i : Int) < l.length) = False := eq_false (by omega)
    obtain rfl : i = l.length := by omega
    by_cases hbi : b < l.length
    · have f4 : ((b : Int) < (l.length : Int)) = True := eq_true (by omega)
      have st := fld_last hx hbi
      repeat' first
        | (first | simp -implicitDefEqProofs only [e0, e1, f4, List.length_map, List.length_append, List.map_append, List.length_cons, List.length_nil, go_sem] | (refine And.intro ?_ ?_; omega) | (refine And.intro (shr_bd ?_ ?_) ?_; omega; omega) | refine sl_list rfl ?_ | refine sd_list rfl ?_ | refine sl_str ?_ | refine sd_str ?_)
      exact ⟨(l.length + 1, l.length + 1, out ++ [(l.drop b).take (l.length - b)]), st, by simp only; omega, weak_of (fun i => i) (fun i => if i = 10 then 52 else i) rfl ⟨by simp [boxesR, listsR, csR, renC, keyC, optK, fnd, envR, St.get, keyPV, keyV1, renPV, renV1, hasKey, made_zero, List.map_append, sV] <;> omega, by simp [boxesR, listsR, csR, renC, keyC, optK, fnd, envR, St.get, keyPV, keyV1, renPV, renV1, hasKey, made_zero, List.map_append, sV] <;> omega, by simp [boxesR, listsR, csR, renC, keyC, optK, fnd, envR, St.get, keyPV, keyV1, renPV, renV1, hasKey, made_zero, List.map_append, sV] <;> omega, by simp [boxesR, listsR, csR, renC, keyC, optK, fnd, envR, St.get, keyPV, keyV1, renPV, renV1, hasKey, made_zero, List.map_append, sV] <;> omega, by simp [boxesR, listsR, csR, renC, keyC, optK, fnd, envR, St.get, keyPV, keyV1, renPV, renV1, hasKey, made_zero, List.map_append, sV] <;> omega⟩ (by simp [boxesR, listsR, csR, renC, keyC, optK, fnd, envR, St.get, keyPV, keyV1, renPV, renV1, hasKey, made_zero, List.map_append, sV] <;> omega)⟩
    · have f4 : ((b : Int) < (l.length : Int)) = False := eq_false (by omega)
      have st := fld_none hx hbi
      (repeat' (first | simp -implicitDefEqProofs only [e0, e1, f4, go_sem] | (refine And.intro ?_ ?_; omega) | (refine And.intro (shr_bd ?_ ?_) ?_; omega; omega) | refine sl_list rfl ?_ | refine sd_list rfl ?_ | refine sl_str ?_ | refine sd_str ?_))
      exact ⟨(l.length + 1, l.length + 1, out), st, by simp only; omega, weak_of (fun i => i) (fun i => i) rfl ⟨by simp [boxesR, listsR, csR, renC, keyC, optK, fnd, envR, St.get, keyPV, keyV1, renPV, renV1, hasKey, made_zero] <;> omega, by simp [boxesR, listsR, csR, renC, keyC, optK, fnd, envR, St.get, keyPV, keyV1, renPV, renV1, hasKey, made_zero] <;> omega, by simp [boxesR, listsR, csR, renC, keyC, optK, fnd, envR, St.get, keyPV, keyV1, renPV, renV1, hasKey, made_zero] <;> omega, by simp [boxesR, listsR, csR, renC, keyC, optK, fnd, envR, St.get, keyPV, keyV1, renPV, renV1, hasKey, made_zero] <;> omega, by simp [boxesR, listsR, csR, renC, keyC, optK, fnd, envR, St.get, keyPV, keyV1, renPV, renV1, hasKey, made_zero] <;> omega⟩ (by simp [boxesR, listsR, csR, renC, keyC, optK, fnd, envR, St.get, keyPV, keyV1, renPV, renV1, hasKey, made_zero] <;> omega)⟩
theorem see_flds (b : Bool) (xs : List Value) : Fin ⟨[], []⟩ ⟨[], [(0, ⟨9, 1, xs, false, true⟩)]⟩ (.t [.c (.o 0), .c (.v (.bool b))]) ⟨[], []⟩ (.t [.c (.l 1 xs), .c (.v (.bool b))]) := by
  refine fin_see ?_
  simp -implicitDefEqProofs only [go_sem]
  exact fin_of (fun i => i) (fun i => i) ⟨by simp [boxesR, listsR, csR, renC, keyC, optK, fnd, envR, St.get, keyPV, keyV1, renPV, renV1, hasKey, made_zero] <;> omega, by simp [boxesR, listsR, csR, renC, keyC, optK, fnd, envR, St.get, keyPV, keyV1, renPV, renV1, hasKey, made_zero] <;> omega, by simp [boxesR, listsR, csR, renC, keyC, optK, fnd, envR, St.get, keyPV, keyV1, renPV, renV1, hasKey, made_zero] <;> omega, by simp [boxesR, listsR, csR, renC, keyC, optK, fnd, envR, St.get, keyPV, keyV1, renPV, renV1, hasKey, made_zero] <;> omega, by simp [boxesR, listsR, csR, renC, keyC, optK, fnd, envR, St.get, keyPV, keyV1, renPV, renV1, hasKey, made_zero] <;> omega⟩ (by simp [boxesR, listsR, csR, renC, keyC, optK, fnd, envR, St.get, keyPV, keyV1, renPV, renV1, hasKey, made_zero] <;> omega) rfl
theorem SplitFields_v (l : List UInt8) (hl : l.length ≤ 1048576) : PC Tryd.prog 7 [] [.c (.v (.string (sB l)))] (.t [.c (.l 1 ((fldsR l).map sV)), .c (.v (.bool (fldsOk l)))]) ⟨[], []⟩ := pc_fin (SplitFields_c 0 l hl) (see_flds _ _)
theorem iSplitFields_v (l : List UInt8) (hl : l.length ≤ 1048576) : PC Tryd.prog 11 [] [.c (.v (.string (sB l)))] (.t [.c (.l 1 ((fldsR l).map sV)), .c (.v (.bool (fldsOk l)))]) ⟨[], []⟩ := pc_fin (iSplitFields_c 0 l hl) (see_flds _ _)
/-! ### numbers -/
theorem iParseUint_c (l : List UInt8) (hl : l.length ≤ 1048576) : PC Tryd.prog 12 [] [.c (.v (.string (sB l)))] (.t [.c (.v (.int .i64 ((pU l).getD 0))), .c (.v (.bool (pU l).isSome))]) ⟨[], []⟩ := by
  refine pc_lib ⟨_, Tryd.func12, by kernel_rfl, by kernel_rfl⟩ fun g cargs hk ha => ?_
  obtain ⟨u, rfl, hu⟩ := args_1 ha
  have hu : u = .string (sB l) := hu
  subst hu
  exact (parse_calls l (by omega) hk).mono fun e w' ⟨he, hb⟩ => ⟨⟨_, he, fun _ _ => ⟨_, rfl, rfl, rfl, trivial⟩⟩, hb⟩
set_option maxHeartbeats 4000000 in
theorem ParseUint_c (l : List UInt8) (hl : l.length ≤ 1048576) : PC Tryd.prog 16 [] [.c (.v (.string (sB l)))] (.t [.c (.v (.int .i64 ((pU l).getD 0))), .c (.v (.bool (pU l).isSome))]) ⟨[], []⟩ := by
  by_cases h6 : 10 < l.length
  · have e6 : ((10 : Int) < (l.length : Int)) = True := eq_true (by omega)
    rw [pU_long h6]
    refine pc_of Tryd.func16 rfl (by kernel_rfl) _ Tryd.ntmps16 (by simp) ?_
    (repeat' (first | simp -implicitDefEqProofs only [e6, go_sem] | (refine And.intro ?_ ?_; omega) | (refine And.intro (shr_bd ?_ ?_) ?_; omega; omega) | refine sl_list rfl ?_ | refine sd_list rfl ?_ | refine sl_str ?_ | refine sd_str ?_))
    exact fin_scal rfl rfl
  have e6 : ((10 : Int) < (l.length : Int)) = False := eq_false (by omega)
  refine pc_of Tryd.func16 rfl (by kernel_rfl) _ Tryd.ntmps16 (by simp) ?_
  (repeat' (first | simp -implicitDefEqProofs only [e6, go_sem] | (refine And.intro ?_ ?_; omega) | (refine And.intro (shr_bd ?_ ?_) ?_; omega; omega) | refine sl_list rfl ?_ | refine sd_list rfl ?_ | refine sl_str ?_ | refine sd_str ?_))
  refine loop_step (X := Nat × Nat) (fun x => ⟨42, [(0, vS l), (4, vN x.2), (5, vN x.1)], ⟨[], []⟩⟩)
    (fun x => x.1 ≤ l.length ∧ Lib.decFrom 0 (l.take x.1) = some x.2 ∧ x.2 < 10 ^ x.1) (fun x => l.length - x.1) (0, 0) ⟨by simp, by simp [Lib.decFrom], by simp⟩ (weak_of (fun i => i) (fun i => i) rfl ⟨by simp [boxesR, listsR, csR, renC, keyC, optK, fnd, envR, St.get, keyPV, keyV1, renPV, renV1, hasKey, made_zero] <;> omega, by simp [boxesR, listsR, csR, renC, keyC, optK, fnd, envR, St.get, keyPV, keyV1, renPV, renV1, hasKey, made_zero] <;> omega, by simp [boxesR, listsR, csR, renC, keyC, optK, fnd, envR, St.get, keyPV, keyV1, renPV, renV1, hasKey, made_zero] <;> omega, by simp [boxesR, listsR, csR, renC, keyC, optK, fnd, envR, St.get, keyPV, keyV1, renPV, renV1, hasKey, made_zero] <;> omega, by simp [boxesR, listsR, csR, renC, keyC, optK, fnd, envR, St.get, keyPV, keyV1, renPV, renV1, hasKey, made_zero] <;> omega⟩ (by simp [boxesR, listsR, csR, renC, keyC, optK, fnd, envR, St.get, keyPV, keyV1, renPV, renV1, hasKey, made_zero] <;> omega)) (fun x hx => ?_)
  obtain ⟨i, n⟩ := x
  obtain ⟨hi, hd, hn⟩ := hx
  simp only at hi hd hn
  have hp : 10 ^ i ≤ 10 ^ 10 := Nat.pow_le_pow_right (by omega) (by omega)
  have hp2 : (10 : Nat) ^ 10 = 10000000000 := by decide
  by_cases h2 : i < l.length
  · have e1 : ((i : Int) < l.length) = True := eq_true (by omega)
    have g1 : l[i]? = some l[i] := List.getElem?_eq_getElem h2
    have bad := pU_bad g1
    have nx := Lib.decFrom_take l i 0 n l[i] (l[i].toNat - 48) hd g1
    generalize l[i] = c at g1 bad nx
    by_cases c1 : c.toNat < 48
    · have f1 : ((c.toNat : Int) < 48) = True := eq_true (by omega)
      rw [bad (by omega)]
      (repeat' (first | simp -implicitDefEqProofs only [e1, g1, f1, go_sem] | (refine And.intro ?_ ?_; omega) | (refine And.intro (shr_bd ?_ ?_) ?_; omega; omega) | refine sl_list rfl ?_ | refine sd_list rfl ?_ | refine sl_str ?_ | refine sd_str ?_))
      exact fin_scal rfl rfl
    have f1 : ((c.toNat : Int) < 48) = False := eq_false (by omega)
    by_cases c2 : 57 < c.toNat
    · have f2 : ((57 : Int) < (c.toNat : Int)) = True := eq_true (by omega)
      rw [bad (by omega)]
      (repeat' (first | simp -implicitDefEqProofs only [e1, g1, f1, f2, go_sem] | (refine And.intro ?_ ?_; omega) | (refine And.intro (shr_bd ?_ ?_) ?_; omega; omega) | refine sl_list rfl ?_ | refine sd_list rfl ?_ | refine sl_str ?_ | refine sd_str ?_))
      exact fin_scal rfl rfl
    have f2 : ((57 : Int) < (c.toNat : Int)) = False := eq_false (by omega)
    have hdv : Lib.digitVal c = some (c.toNat - 48) := by
      unfold Lib.digitVal
      rw [if_pos (by omega)]
    have nx := nx hdv
    have e5 : (10 * (n : Int) + (c.toNat : Int) - 48) = ((n * 10 + (c.toNat - 48) : Nat) : Int) := by omega
    have hps : (10 : Nat) ^ (i + 1) = 10 ^ i * 10 := Nat.pow_succ ..
    (repeat' (first | simp -implicitDefEqProofs only [e1, g1, f1, f2, go_sem] | (refine And.intro ?_ ?_; omega) | (refine And.intro (shr_bd ?_ ?_) ?_; omega; omega) | refine sl_list rfl ?_ | refine sd_list rfl ?_ | refine sl_str ?_ | refine sd_str ?_))
    exact ⟨(i + 1, n * 10 + (c.toNat - 48)), ⟨by simp only; omega, nx, by simp only; omega⟩, by simp only; omega, weak_of (fun i => i) (fun i => i) rfl ⟨by simp [boxesR, listsR, csR, renC, keyC, optK, fnd, envR, St.get, keyPV, keyV1, renPV, renV1, hasKey, made_zero, e5] <;> omega, by simp [boxesR, listsR, csR, renC, keyC, optK, fnd, envR, St.get, keyPV, keyV1, renPV, renV1, hasKey, made_zero, e5] <;> omega, by simp [boxesR, listsR, csR, renC, keyC, optK, fnd, envR, St.get, keyPV, keyV1, renPV, renV1, hasKey, made_zero, e5] <;> omega, by simp [boxesR, listsR, csR, renC, keyC, optK, fnd, envR, St.get, keyPV, keyV1, renPV, renV1, hasKey, made_zero, e5] <;> omega, by simp [boxesR, listsR, csR, renC, keyC, optK, fnd, envR, St.get, keyPV, keyV1, renPV, renV1, hasKey, made_zero, e5] <;> omega⟩ (by simp [boxesR, listsR, csR, renC, keyC, optK, fnd, envR, St.get, keyPV, keyV1, renPV, renV1, hasKey, made_zero, e5] <;> omega)⟩
  · have e1 : ((i : Int) < l.length) = False := eq_false (by omega)
    obtain rfl : i = l.length := by omega
    rw [List.take_length] at hd
    have e := pU_row hd
    by_cases c1 : (1000000000 : Int) < n
    · have f1 : ((1000000000 : Int) < (n : Int)) = True := eq_true c1
      have e2 : pU l = none := by rw [e, if_neg (fun h => by omega)]
      rw [e2]
      (repeat' (first | simp -implicitDefEqProofs only [e1, f1, go_sem] | (refine And.intro ?_ ?_; omega) | (refine And.intro (shr_bd ?_ ?_) ?_; omega; omega) | refine sl_list rfl ?_ | refine sd_list rfl ?_ | refine sl_str ?_ | refine sd_str ?_))
      exact fin_scal rfl rfl
    have f1 : ((1000000000 : Int) < (n : Int)) = False := eq_false c1
    by_cases c2 : itoa (n : Int) = l
    · have e2 : pU l = some (n : Int) := by rw [e, if_pos ⟨by omega, c2⟩]
      have f2 : (itoa (n : Int) = l) = True := eq_true c2
      rw [e2]
      repeat' first
        | (first | simp -implicitDefEqProofs only [e1, f1, f2, go_sem] | (refine And.intro ?_ ?_; omega) | (refine And.intro (shr_bd ?_ ?_) ?_; omega; omega) | refine sl_list rfl ?_ | refine sd_list rfl ?_ | refine sl_str ?_ | refine sd_str ?_)
        | refine callS (FormatInt_c n (by omega)) rfl rfl rfl ?_
      exact fin_scal rfl rfl
    · have e2 : pU l = none := by rw [e, if_neg (fun h => c2 h.2)]
      have f2 : (itoa (n : Int) = l) = False := eq_false c2
      rw [e2]
      repeat' first
        | (first | simp -implicitDefEqProofs only [e1, f1, f2, go_sem] | (refine And.intro ?_ ?_; omega) | (refine And.intro (shr_bd ?_ ?_) ?_; omega; omega) | refine sl_list rfl ?_ | refine sd_list rfl ?_ | refine sl_str ?_ | refine sd_str ?_)
        | refine callS (FormatInt_c n (by omega)) rfl rfl rfl ?_
      exact fin_scal rfl rfl
theorem l40Number_c (l : List UInt8) (hl : l.length ≤ 1048576) : PC Tryd.prog 9 [] [.c (.v (.string (sB l)))] (.s (.c (.v (.int .i64 (l40 l))))) ⟨[], []⟩ := by
  match l, hl with
  | [], hl =>
    refine pc_of Tryd.func9 rfl (by kernel_rfl) _ Tryd.ntmps9 (by simp) ?_
    repeat' first
      | (first | simp -implicitDefEqProofs only [go_sem] | (refine And.intro ?_ ?_; omega) | (refine And.intro (shr_bd ?_ ?_) ?_; omega; omega) | refine sl_list rfl ?_ | refine sd_list rfl ?_ | refine sl_str ?_ | refine sd_str ?_)
      | refine callS (ParseUint_c [] hl) rfl rfl rfl ?_
    exact fin_scal rfl rfl
  | [x], hl =>
    have e : l40 [x] = (pU [x]).getD 0 := by
      unfold l40
      split
      · rename_i h; simp at h
      · rfl
    rw [e]
    refine pc_of Tryd.func9 rfl (by kernel_rfl) _ Tryd.ntmps9 (by simp) ?_
    repeat' first
      | (first | simp -implicitDefEqProofs only [go_sem] | (refine And.intro ?_ ?_; omega) | (refine And.intro (shr_bd ?_ ?_) ?_; omega; omega) | refine sl_list rfl ?_ | refine sd_list rfl ?_ | refine sl_str ?_ | refine sd_str ?_)
      | refine callS (ParseUint_c [x] hl) rfl rfl rfl ?_
    exact fin_scal rfl rfl
  | x :: c :: r, hl =>
    have e0 : ((1 : Int) < ((x :: c :: r).length : Int)) = True := eq_true (by simp only [List.length_cons]; omega)
    have hl2 : (c :: r).length ≤ 1048576 := by simp only [List.length_cons] at hl ⊢; omega
    have g1 : (x :: c :: r)[0]? = some x := rfl
    have ec : ((x :: c :: r).drop 1).take ((x :: c :: r).length - 1) = c :: r := by
      rw [List.drop_succ_cons, List.drop_zero]
      exact List.take_of_length_le (by simp only [List.length_cons]; omega)
    by_cases h : x = 45
    · have e1 : ((x.toNat : Int) = 45) = True := eq_true (by rw [h]; rfl)
      have e : l40 (x :: c :: r) = -((pU (c :: r)).getD 0) := by rw [h]; rfl
      have hb := pU_bd (l := c :: r)
      rw [e]
      generalize x :: c :: r = L at *
      have hlp : 1 ≤ L.length := by
        have : ((1 : Int) < (L.length : Int)) := of_eq_true e0
        omega
      refine pc_of Tryd.func9 rfl (by kernel_rfl) _ Tryd.ntmps9 (by simp) ?_
      repeat' first
        | (first | simp -implicitDefEqProofs only [e0, e1, g1, ec, go_sem] | (refine And.intro ?_ ?_; omega) | (refine And.intro (shr_bd ?_ ?_) ?_; omega; omega) | refine sl_list rfl ?_ | refine sd_list rfl ?_ | refine sl_str ?_ | refine sd_str ?_)
        | refine callS (ParseUint_c (c :: r) hl2) rfl rfl rfl ?_
      exact fin_scal rfl rfl
    · have e1 : ((x.toNat : Int) = 45) = False := by
        refine eq_false fun e => h ?_
        have e2 : (45 : UInt8).toNat = 45 := rfl
        exact UInt8.toNat_inj.1 (by omega)
      have e : l40 (x :: c :: r) = (pU (x :: c :: r)).getD 0 := by
        unfold l40
        split
        · rename_i h2
          exact absurd (List.cons.inj h2).1 h
        · rfl
      rw [e]
      generalize x :: c :: r = L at *
      refine pc_of Tryd.func9 rfl (by kernel_rfl) _ Tryd.ntmps9 (by simp) ?_
      repeat' first
        | (first | simp -implicitDefEqProofs only [e0, e1, g1, go_sem] | (refine And.intro ?_ ?_; omega) | (refine And.intro (shr_bd ?_ ?_) ?_; omega; omega) | refine sl_list rfl ?_ | refine sd_list rfl ?_ | refine sl_str ?_ | refine sd_str ?_)
        | refine callS (ParseUint_c L hl) rfl rfl rfl ?_
      exact fin_scal rfl rfl
end Go.Proofs.YtlplopaahflcpaaDoor
