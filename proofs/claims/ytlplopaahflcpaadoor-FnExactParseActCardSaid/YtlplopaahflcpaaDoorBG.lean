/-
  What the functions compute that read an act in a line; the law on it.
-/
import Derived.Test.YtlplopaahflcpaaDoorBF
import Derived.Test.YtlplopaahflcpaaDoorB3
namespace Go.Proofs.YtlplopaahflcpaaDoor
open Go.PL
set_option linter.unusedSimpArgs false
set_option linter.unusedVariables false
theorem paL_no {l : List UInt8} (h : fldsOk l = false) : paL l = none := by simp [paL, h]
theorem paL_ok {l : List UInt8} (h : fldsOk l = true) : paL l = pa (flds l) := by simp [paL, h]
theorem paA_no {l : List UInt8} (h : paL l = none) : paA l = noA := by simp [paA, h]
theorem paB_no {l : List UInt8} (h : paL l = none) : paB l = false := by simp [paB, h]
theorem paA_ok {l : List UInt8} {a : Ac} (h : paL l = some a) : paA l = a := by simp [paA, h]
theorem paB_ok {l : List UInt8} {a : Ac} (h : paL l = some a) : paB l = true := by simp [paB, h]
theorem k5 {j : Nat} (h : j < 5) : (1 + (j : Int)) = 1 ∨ (1 + (j : Int)) = 2 ∨ (1 + (j : Int)) = 3 ∨ (1 + (j : Int)) = 4 ∨ (1 + (j : Int)) = 5 := by omega
theorem k5_of {k : Int} (h : k = 1 ∨ k = 2 ∨ k = 3 ∨ k = 4 ∨ k = 5) : ∃ j : Nat, j < 5 ∧ k = 1 + (j : Int) := ⟨(k - 1).toNat, by omega, by omega⟩
theorem numsN_bd {k : Int} : (numsN k : Int) ≤ 2 := by have := numsN_le (k := k); omega
/-- the numbers that words denote -/
def l40s (xs : List (List UInt8)) : List Value := (xs.map l40).map iV
theorem l40s_next {az : List (List UInt8)} {j : Nat} (h : j < az.length) : l40s (az.take (j + 1)) = l40s (az.take j) ++ [iV (l40 az[j])] := by
  unfold l40s
  rw [List.take_succ_eq_append_getElem h, List.map_append, List.map_append]; rfl
theorem l40s_len {xs : List (List UInt8)} : (l40s xs).length = xs.length := by simp [l40s]
theorem l40s_nil : l40s [] = [] := rfl
set_option maxHeartbeats 8000000 in
theorem ParseAct_c (l : List UInt8) (hl : l.length ≤ 1048576) : PC Tryd.prog 4 [] [.c (.v (.string (sB l)))] (.t [.a (actC (paA l)), .c (.v (.bool (paB l)))]) ⟨[], []⟩ := by
  cases hok : fldsOk l with
  | false =>
    have sf := SplitFields_v l hl
    rw [hok, fldsR_no hok] at sf
    rw [paA_no (paL_no hok), paB_no (paL_no hok)]
    refine pc_of Tryd.func4 rfl (by kernel_rfl) _ Tryd.ntmps4 (by simp) ?_
    repeat' first
      | (first | simp -implicitDefEqProofs only [go_sem] | (refine And.intro ?_ ?_; omega) | (refine And.intro (shr_bd ?_ ?_) ?_; omega; omega) | refine sl_list rfl ?_ | refine sd_list rfl ?_ | refine sl_str ?_ | refine sd_str ?_)
      | refine callV sf rfl rfl rfl ?_
    exact fin_scal rfl rfl
  | true =>
    have sf := SplitFields_v l hl
    rw [hok, fldsR_ok hok] at sf
    have eL := paL_ok hok
    have hw := flds_wrd (l := l)
    have hwl := flds_wl (l := l)
    generalize flds l = fs at *
    cases fs with
    | nil =>
      have e : paL l = none := by rw [eL]; rfl
      rw [paA_no e, paB_no e]
      have w0 : within 0 1 3 = false := by decide
      refine pc_of Tryd.func4 rfl (by kernel_rfl) _ Tryd.ntmps4 (by simp) ?_
      repeat' first
        | (first | simp -implicitDefEqProofs only [w0, go_sem] | (refine And.intro ?_ ?_; omega) | (refine And.intro (shr_bd ?_ ?_) ?_; omega; omega) | refine sl_list rfl ?_ | refine sd_list rfl ?_ | refine sl_str ?_ | refine sd_str ?_)
        | refine callV sf rfl rfl rfl ?_
        | refine callS (l01In_c 0 1 3) rfl rfl rfl ?_
      exact fin_scal rfl rfl
    | cons w az =>
      by_cases h3 : 2 < az.length
      · have e : paL l = none := by
          rw [eL]
          cases hp : pa (w :: az) with
          | none => rfl
          | some x => have := (spec_some hp).2.2.2; omega
        have w0 : within ((az.length : Int) + 1) 1 3 = false := by
          cases hh : within ((az.length : Int) + 1) 1 3 with
          | false => rfl
          | true => rw [within_iff] at hh; omega
        rw [paA_no e, paB_no e]
        refine pc_of Tryd.func4 rfl (by kernel_rfl) _ Tryd.ntmps4 (by simp) ?_
        repeat' first
          | (first | simp -implicitDefEqProofs only [w0, List.length_map, go_sem] | (refine And.intro ?_ ?_; omega) | (refine And.intro (shr_bd ?_ ?_) ?_; omega; omega) | refine sl_list rfl ?_ | refine sd_list rfl ?_ | refine sl_str ?_ | refine sd_str ?_)
          | refine callV sf rfl rfl rfl ?_
          | refine callS (l01In_c ((az.length : Int) + 1) 1 3) rfl rfl rfl ?_
        exact fin_scal rfl rfl
      have w0 : within ((az.length : Int) + 1) 1 3 = true := by rw [within_iff]; omega
      have hl600 : l.length ≤ 600 := by
        simp only [fldsOk, Bool.and_eq_true, decide_eq_true_eq] at hok
        exact hok.1
      have hww : wrd w := hw w (by simp)
      have haw : ∀ x ∈ az, wrd x := fun x hx => hw x (by simp [hx])
      have hwL : w.length ≤ 600 := by have := hwl w (by simp); omega
      have haL : ∀ x ∈ az, x.length ≤ 600 := fun x hx => by have := hwl x (by simp [hx]); omega
      have g0 : ((w :: az).map sV)[0]? = some (sV w) := rfl
      have lz : ((w :: az).map sV).length = az.length + 1 := by simp
      have ga : ∀ j (h : j < az.length), ((w :: az).map sV)[1 + j]? = some (sV az[j]) := fun j h => by
        rw [Nat.add_comm, List.map_cons, List.getElem?_cons_succ]
        exact map_get h
      generalize hF : (w :: az).map sV = FV at *
      refine pc_of Tryd.func4 rfl (by kernel_rfl) _ Tryd.ntmps4 (by simp) ?_
      repeat' first
        | (first | simp -implicitDefEqProofs only [w0, lz, g0, go_sem] | (refine And.intro ?_ ?_; omega) | (refine And.intro (shr_bd ?_ ?_) ?_; omega; omega) | refine sl_list rfl ?_ | refine sd_list rfl ?_ | refine sl_str ?_ | refine sd_str ?_)
        | refine callV sf rfl rfl rfl ?_
        | refine callS (l01In_c ((az.length : Int) + 1) 1 3) rfl rfl rfl ?_
      refine loop_step (X := Nat) (fun j => ⟨80, [(2, .s (.c (.p 2 0))), (4, vL 1 FV), (6, vS (w ++ tailT (az.take j))), (7, vO 30), (8, vN (1 + (j : Int)))], ⟨[(2, actC noA)], [(30, ⟨3, 1, l40s (az.take j), false, true⟩)]⟩⟩)
        (fun j => j ≤ az.length) (fun j => az.length - j) 0 (by omega) (weak_of (fun i => i) (fun i => i) rfl ⟨by simp [boxesR, listsR, csR, renC, keyC, optK, fnd, envR, St.get, keyPV, keyV1, renPV, renV1, hasKey, made_zero, noA, tailT, l40s_nil] <;> omega, by simp [boxesR, listsR, csR, renC, keyC, optK, fnd, envR, St.get, keyPV, keyV1, renPV, renV1, hasKey, made_zero, noA, tailT, l40s_nil] <;> omega, by simp [boxesR, listsR, csR, renC, keyC, optK, fnd, envR, St.get, keyPV, keyV1, renPV, renV1, hasKey, made_zero, noA, tailT, l40s_nil] <;> omega, by simp [boxesR, listsR, csR, renC, keyC, optK, fnd, envR, St.get, keyPV, keyV1, renPV, renV1, hasKey, made_zero, noA, tailT, l40s_nil] <;> omega, by simp [boxesR, listsR, csR, renC, keyC, optK, fnd, envR, St.get, keyPV, keyV1, renPV, renV1, hasKey, made_zero, noA, tailT, l40s_nil] <;> omega⟩ (by simp [boxesR, listsR, csR, renC, keyC, optK, fnd, envR, St.get, keyPV, keyV1, renPV, renV1, hasKey, made_zero, noA, tailT, l40s_nil] <;> omega)) (fun j hj => ?_)
      have tlen := tailT_len (m := 600) (az := az.take j) (fun x hx => haL x (List.mem_of_mem_take hx))
      have tk : (az.take j).length = j := List.length_take_of_le hj
      by_cases h1 : j < az.length
      · have e0 : ((1 + (j : Int)) < ((az.length + 1 : Nat) : Int)) = True := eq_true (by omega)
        have gj := ga j h1
        have e4 : (1 + (j : Int)).toNat = 1 + j := by omega
        have n1 := tailT_next h1
        have n2 := l40s_next h1
        have xl := haL az[j] (List.getElem_mem h1)
        have ln := l40Number_c az[j] (by omega)
        generalize az[j] = y at *
        have e9 : 1 + ((j : Int) + 1) = 1 + (j : Int) + 1 := by omega
        repeat' first
          | (first | simp -implicitDefEqProofs only [e0, e4, lz, gj, List.length_append, List.length_map, l40s_len, tk, List.length_cons, List.length_nil, List.append_assoc, List.cons_append, List.nil_append, go_sem] | (refine And.intro ?_ ?_; omega) | (refine And.intro (shr_bd ?_ ?_) ?_; omega; omega) | refine sl_list rfl ?_ | refine sd_list rfl ?_ | refine sl_str ?_ | refine sd_str ?_)
          | refine callS ln rfl rfl rfl ?_
        exact ⟨j + 1, by omega, by omega, weak_of (fun i => i) (fun i => if i = 30 then 51 else i) rfl ⟨by simp [boxesR, listsR, csR, renC, keyC, optK, fnd, envR, St.get, keyPV, keyV1, renPV, renV1, hasKey, made_zero, n1, n2, e9, iV, List.append_assoc] <;> omega, by simp [boxesR, listsR, csR, renC, keyC, optK, fnd, envR, St.get, keyPV, keyV1, renPV, renV1, hasKey, made_zero, n1, n2, e9, iV, List.append_assoc] <;> omega, by simp [boxesR, listsR, csR, renC, keyC, optK, fnd, envR, St.get, keyPV, keyV1, renPV, renV1, hasKey, made_zero, n1, n2, e9, iV, List.append_assoc] <;> omega, by simp [boxesR, listsR, csR, renC, keyC, optK, fnd, envR, St.get, keyPV, keyV1, renPV, renV1, hasKey, made_zero, n1, n2, e9, iV, List.append_assoc] <;> omega, by simp [boxesR, listsR, csR, renC, keyC, optK, fnd, envR, St.get, keyPV, keyV1, renPV, renV1, hasKey, made_zero, n1, n2, e9, iV, List.append_assoc] <;> omega⟩ (by simp [boxesR, listsR, csR, renC, keyC, optK, fnd, envR, St.get, keyPV, keyV1, renPV, renV1, hasKey, made_zero, n1, n2, e9, iV, List.append_assoc] <;> omega)⟩
      · have e0 : ((1 + (j : Int)) < ((az.length + 1 : Nat) : Int)) = False := eq_false (by omega)
        obtain rfl : j = az.length := by omega
        rw [List.take_length] at *
        have p0 : (l40s az ++ [iV 0, iV 0])[0]? = some (iV ((az.map l40).getD 0 0)) := pad0 (az.map l40)
        have p1 : (l40s az ++ [iV 0, iV 0])[1]? = some (iV ((az.map l40).getD 1 0)) := pad1 (az.map l40)
        have sk := fun k => spec_kind (k := k) hww haw
        have ss := fun x => spec_some (w := w) (az := az) (x := x)
        generalize (az.map l40).getD 0 0 = A at *
        generalize (az.map l40).getD 1 0 = B at *
        generalize w ++ tailT az = T at *
        repeat' first
          | (first | simp -implicitDefEqProofs only [e0, lz, List.length_append, l40s_len, List.length_cons, List.length_nil, go_sem] | (refine And.intro ?_ ?_; omega) | (refine And.intro (shr_bd ?_ ?_) ?_; omega; omega) | refine sl_list rfl ?_ | refine sd_list rfl ?_ | refine sl_str ?_ | refine sd_str ?_)
        refine loop_step (X := Nat) (fun j => ⟨80, [(2, .s (.c (.p 2 0))), (6, vS T), (7, vO 54), (9, vN (1 + (j : Int)))], ⟨[(2, actC noA)], [(54, ⟨3, 1, l40s az ++ [iV 0, iV 0], false, true⟩)]⟩⟩)
          (fun j => j ≤ 5 ∧ ∀ m : Nat, m < j → ¬ (actOk (1 + (m : Int)) A B = true ∧ actT ⟨1 + (m : Int), A, B⟩ = T)) (fun j => 5 - j) 0 ⟨by omega, fun m h => by omega⟩ (weak_of (fun i => i) (fun i => i) rfl ⟨by simp [boxesR, listsR, csR, renC, keyC, optK, fnd, envR, St.get, keyPV, keyV1, renPV, renV1, hasKey, made_zero, noA, iV] <;> omega, by simp [boxesR, listsR, csR, renC, keyC, optK, fnd, envR, St.get, keyPV, keyV1, renPV, renV1, hasKey, made_zero, noA, iV] <;> omega, by simp [boxesR, listsR, csR, renC, keyC, optK, fnd, envR, St.get, keyPV, keyV1, renPV, renV1, hasKey, made_zero, noA, iV] <;> omega, by simp [boxesR, listsR, csR, renC, keyC, optK, fnd, envR, St.get, keyPV, keyV1, renPV, renV1, hasKey, made_zero, noA, iV] <;> omega, by simp [boxesR, listsR, csR, renC, keyC, optK, fnd, envR, St.get, keyPV, keyV1, renPV, renV1, hasKey, made_zero, noA, iV] <;> omega⟩ (by simp [boxesR, listsR, csR, renC, keyC, optK, fnd, envR, St.get, keyPV, keyV1, renPV, renV1, hasKey, made_zero, noA, iV] <;> omega)) (fun j hj => ?_)
        obtain ⟨hj5, hjm⟩ := hj
        by_cases h5 : j < 5
        · have e5 : ((1 + (j : Int)) ≤ 5) = True := eq_true (by omega)
          have fa := FormatAct_c ⟨1 + (j : Int), A, B⟩
          have e9 : 1 + ((j : Int) + 1) = 1 + (j : Int) + 1 := by omega
          have z0 : (0 < (l40s az ++ [iV 0, iV 0]).length) = True := eq_true (by simp)
          have z1 : (1 < (l40s az ++ [iV 0, iV 0]).length) = True := eq_true (by simp)
          generalize l40s az ++ [iV 0, iV 0] = NL at *
          cases ho : actOk (1 + (j : Int)) A B with
          | false =>
            simp only [ho] at fa
            repeat' first
              | (first | simp -implicitDefEqProofs only [e5, p0, p1, z0, z1, iV, go_sem] | (refine And.intro ?_ ?_; omega) | (refine And.intro (shr_bd ?_ ?_) ?_; omega; omega) | refine sl_list rfl ?_ | refine sd_list rfl ?_ | refine sl_str ?_ | refine sd_str ?_)
              | refine draw_stepY Tryd.pl_follows (by kernel_rfl) ?_
              | refine callS fa rfl rfl rfl ?_
            exact ⟨j + 1, ⟨by omega, fun m hm => by
              by_cases e : m < j
              · exact hjm m e
              · obtain rfl : m = j := by omega
                rw [ho]; simp⟩, by omega, weak_of (fun i => i) (fun i => i) rfl ⟨by simp [boxesR, listsR, csR, renC, keyC, optK, fnd, envR, St.get, keyPV, keyV1, renPV, renV1, hasKey, made_zero, e9, noA] <;> omega, by simp [boxesR, listsR, csR, renC, keyC, optK, fnd, envR, St.get, keyPV, keyV1, renPV, renV1, hasKey, made_zero, e9, noA] <;> omega, by simp [boxesR, listsR, csR, renC, keyC, optK, fnd, envR, St.get, keyPV, keyV1, renPV, renV1, hasKey, made_zero, e9, noA] <;> omega, by simp [boxesR, listsR, csR, renC, keyC, optK, fnd, envR, St.get, keyPV, keyV1, renPV, renV1, hasKey, made_zero, e9, noA] <;> omega, by simp [boxesR, listsR, csR, renC, keyC, optK, fnd, envR, St.get, keyPV, keyV1, renPV, renV1, hasKey, made_zero, e9, noA] <;> omega⟩ (by simp [boxesR, listsR, csR, renC, keyC, optK, fnd, envR, St.get, keyPV, keyV1, renPV, renV1, hasKey, made_zero, e9, noA] <;> omega)⟩
          | true =>
            simp only [ho] at fa
            by_cases ht : actT ⟨1 + (j : Int), A, B⟩ = T
            · have e : paL l = some ⟨1 + (j : Int), A, B⟩ := by rw [eL]; exact sk _ ho ht
              have t1 : (actT ⟨1 + (j : Int), A, B⟩ = T) = True := eq_true ht
              rw [paA_ok e, paB_ok e]
              repeat' first
                | (first | simp -implicitDefEqProofs only [e5, p0, p1, z0, z1, iV, t1, go_sem] | (refine And.intro ?_ ?_; omega) | (refine And.intro (shr_bd ?_ ?_) ?_; omega; omega) | refine sl_list rfl ?_ | refine sd_list rfl ?_ | refine sl_str ?_ | refine sd_str ?_)
                | refine draw_stepY Tryd.pl_follows (by kernel_rfl) ?_
                | refine callS fa rfl rfl rfl ?_
              exact fin_scal rfl rfl
            · have t1 : (actT ⟨1 + (j : Int), A, B⟩ = T) = False := eq_false ht
              repeat' first
                | (first | simp -implicitDefEqProofs only [e5, p0, p1, z0, z1, iV, t1, go_sem] | (refine And.intro ?_ ?_; omega) | (refine And.intro (shr_bd ?_ ?_) ?_; omega; omega) | refine sl_list rfl ?_ | refine sd_list rfl ?_ | refine sl_str ?_ | refine sd_str ?_)
                | refine draw_stepY Tryd.pl_follows (by kernel_rfl) ?_
                | refine callS fa rfl rfl rfl ?_
              exact ⟨j + 1, ⟨by omega, fun m hm => by
                by_cases e : m < j
                · exact hjm m e
                · obtain rfl : m = j := by omega
                  exact fun h => ht h.2⟩, by omega, weak_of (fun i => i) (fun i => i) rfl ⟨by simp [boxesR, listsR, csR, renC, keyC, optK, fnd, envR, St.get, keyPV, keyV1, renPV, renV1, hasKey, made_zero, e9, noA] <;> omega, by simp [boxesR, listsR, csR, renC, keyC, optK, fnd, envR, St.get, keyPV, keyV1, renPV, renV1, hasKey, made_zero, e9, noA] <;> omega, by simp [boxesR, listsR, csR, renC, keyC, optK, fnd, envR, St.get, keyPV, keyV1, renPV, renV1, hasKey, made_zero, e9, noA] <;> omega, by simp [boxesR, listsR, csR, renC, keyC, optK, fnd, envR, St.get, keyPV, keyV1, renPV, renV1, hasKey, made_zero, e9, noA] <;> omega, by simp [boxesR, listsR, csR, renC, keyC, optK, fnd, envR, St.get, keyPV, keyV1, renPV, renV1, hasKey, made_zero, e9, noA] <;> omega⟩ (by simp [boxesR, listsR, csR, renC, keyC, optK, fnd, envR, St.get, keyPV, keyV1, renPV, renV1, hasKey, made_zero, e9, noA] <;> omega)⟩
        · have e5 : ((1 + (j : Int)) ≤ 5) = False := eq_false (by omega)
          have e : paL l = none := by
            rw [eL]
            cases hp : pa (w :: az) with
            | none => rfl
            | some x =>
              obtain ⟨s1, s2, s3, _⟩ := ss x hp
              obtain ⟨o1, o2, o3⟩ := pa_some hp
              obtain ⟨hk, _⟩ := act_cases o1
              obtain ⟨m, hm, ek⟩ := k5_of hk
              obtain ⟨xk, xa, xb⟩ := x
              simp only at s1 s2 ek o1
              subst s1 s2 ek
              exact absurd ⟨o1, s3⟩ (hjm m (by omega))
          rw [paA_no e, paB_no e]
          (repeat' (first | simp -implicitDefEqProofs only [e5, go_sem] | (refine And.intro ?_ ?_; omega) | (refine And.intro (shr_bd ?_ ?_) ?_; omega; omega) | refine sl_list rfl ?_ | refine sd_list rfl ?_ | refine sl_str ?_ | refine sd_str ?_))
          exact fin_scal rfl rfl
set_option maxHeartbeats 8000000 in
theorem iParseAct_c (l : List UInt8) (hl : l.length ≤ 1048576) : PC Tryd.prog 5 [] [.c (.v (.string (sB l)))] (.t [.a (actC (paA l)), .c (.v (.bool (paB l)))]) ⟨[], []⟩ := by
  cases hok : fldsOk l with
  | false =>
    have sf := iSplitFields_v l hl
    rw [hok, fldsR_no hok] at sf
    rw [paA_no (paL_no hok), paB_no (paL_no hok)]
    refine pc_of Tryd.func5 rfl (by kernel_rfl) _ Tryd.ntmps5 (by simp) ?_
    repeat' first
      | (first | simp -implicitDefEqProofs only [go_sem] | (refine And.intro ?_ ?_; omega) | (refine And.intro (shr_bd ?_ ?_) ?_; omega; omega) | refine sl_list rfl ?_ | refine sd_list rfl ?_ | refine sl_str ?_ | refine sd_str ?_)
      | refine callV sf rfl rfl rfl ?_
    exact fin_scal rfl rfl
  | true =>
    have sf := iSplitFields_v l hl
    rw [hok, fldsR_ok hok] at sf
    have eL := paL_ok hok
    have hwl := flds_wl (l := l)
    have h24 : (flds l).length ≤ 24 := by
      simp only [fldsOk, Bool.and_eq_true, decide_eq_true_eq] at hok
      exact hok.2.2
    generalize flds l = fs at *
    cases fs with
    | nil =>
      have e : paL l = none := by rw [eL]; rfl
      rw [paA_no e, paB_no e]
      refine pc_of Tryd.func5 rfl (by kernel_rfl) _ Tryd.ntmps5 (by simp) ?_
      repeat' first
        | (first | simp -implicitDefEqProofs only [go_sem] | (refine And.intro ?_ ?_; omega) | (refine And.intro (shr_bd ?_ ?_) ?_; omega; omega) | refine sl_list rfl ?_ | refine sd_list rfl ?_ | refine sl_str ?_ | refine sd_str ?_)
        | refine callV sf rfl rfl rfl ?_
      exact fin_scal rfl rfl
    | cons w az =>
      simp only [List.length_cons] at h24
      have haL : ∀ x ∈ az, x.length ≤ 1048576 := fun x hx => by have := hwl x (by simp [hx]); omega
      have g0 : ((w :: az).map sV)[0]? = some (sV w) := rfl
      have lz : ((w :: az).map sV).length = az.length + 1 := by simp
      have ln0 : (((az.length + 1 : Nat) : Int) = 0) = False := eq_false (by omega)
      have lp : (0 < az.length + 1) = True := eq_true (by omega)
      have sd : (((w :: az).map sV).take (az.length + 1)).drop 1 = az.map sV := by
        rw [← lz, List.take_length]; rfl
      generalize hF : (w :: az).map sV = FV at *
      refine pc_of Tryd.func5 rfl (by kernel_rfl) _ Tryd.ntmps5 (by simp) ?_
      repeat' first
        | (first | simp -implicitDefEqProofs only [lz, ln0, sd, List.length_map, go_sem] | (refine And.intro ?_ ?_; omega) | (refine And.intro (shr_bd ?_ ?_) ?_; omega; omega) | refine sl_list rfl ?_ | refine sd_list rfl ?_ | refine sl_str ?_ | refine sd_str ?_)
        | refine callV sf rfl rfl rfl ?_
      refine loop_step (X := Nat × List Int) (fun x => ⟨81, [(2, .s (.c (.p 2 0))), (4, vL 1 FV), (6, vO 26), (28, vL 1 (az.map sV)), (29, vN az.length), (30, vN x.1)], ⟨[(2, actC noA)], [(26, ⟨3, 1, x.2.map iV, false, true⟩)]⟩⟩)
        (fun x => x.1 ≤ az.length ∧ pUs (az.take x.1) = some x.2) (fun x => az.length - x.1) (0, []) ⟨by simp, by simp [pUs]⟩ (weak_of (fun i => i) (fun i => i) rfl ⟨by simp [boxesR, listsR, csR, renC, keyC, optK, fnd, envR, St.get, keyPV, keyV1, renPV, renV1, hasKey, made_zero, noA] <;> omega, by simp [boxesR, listsR, csR, renC, keyC, optK, fnd, envR, St.get, keyPV, keyV1, renPV, renV1, hasKey, made_zero, noA] <;> omega, by simp [boxesR, listsR, csR, renC, keyC, optK, fnd, envR, St.get, keyPV, keyV1, renPV, renV1, hasKey, made_zero, noA] <;> omega, by simp [boxesR, listsR, csR, renC, keyC, optK, fnd, envR, St.get, keyPV, keyV1, renPV, renV1, hasKey, made_zero, noA] <;> omega, by simp [boxesR, listsR, csR, renC, keyC, optK, fnd, envR, St.get, keyPV, keyV1, renPV, renV1, hasKey, made_zero, noA] <;> omega⟩ (by simp [boxesR, listsR, csR, renC, keyC, optK, fnd, envR, St.get, keyPV, keyV1, renPV, renV1, hasKey, made_zero, noA] <;> omega)) (fun x hx => ?_)
      obtain ⟨j, ns⟩ := x
      obtain ⟨hj, hns⟩ := hx
      simp only at hj hns
      have nl := pUs_len hns
      have tk : (az.take j).length = j := List.length_take_of_le hj
      rw [tk] at nl
      by_cases h1 : j < az.length
      · have e0 : ((j : Int) < (az.length : Int)) = True := eq_true (by omega)
        have gj := map_get (f := sV) h1
        have xl := haL az[j] (List.getElem_mem h1)
        have pu := iParseUint_c az[j] xl
        have nx := fun v => pUs_next (v := v) h1 hns
        have bd := pUs_bad h1
        generalize az[j] = y at *
        cases hy : pU y with
        | none =>
          simp only [hy, Option.getD_none, Option.isSome_none] at pu
          have e : paL l = none := by rw [eL]; exact pa_bad (bd hy)
          rw [paA_no e, paB_no e]
          repeat' first
            | (first | simp -implicitDefEqProofs only [e0, gj, h1, go_sem] | (refine And.intro ?_ ?_; omega) | (refine And.intro (shr_bd ?_ ?_) ?_; omega; omega) | refine sl_list rfl ?_ | refine sd_list rfl ?_ | refine sl_str ?_ | refine sd_str ?_)
            | refine callS pu rfl rfl rfl ?_
          exact fin_scal rfl rfl
        | some v =>
          simp only [hy, Option.getD_some, Option.isSome_some] at pu
          have nx := nx v hy
          repeat' first
            | (first | simp -implicitDefEqProofs only [e0, gj, h1, nl, List.length_append, List.length_map, List.length_cons, List.length_nil, go_sem] | (refine And.intro ?_ ?_; omega) | (refine And.intro (shr_bd ?_ ?_) ?_; omega; omega) | refine sl_list rfl ?_ | refine sd_list rfl ?_ | refine sl_str ?_ | refine sd_str ?_)
            | refine callS pu rfl rfl rfl ?_
          exact ⟨(j + 1, ns ++ [v]), ⟨by simp only; omega, nx⟩, by simp only; omega, weak_of (fun i => i) (fun i => if i = 26 then 45 else i) rfl ⟨by simp [boxesR, listsR, csR, renC, keyC, optK, fnd, envR, St.get, keyPV, keyV1, renPV, renV1, hasKey, made_zero, List.map_append, iV] <;> omega, by simp [boxesR, listsR, csR, renC, keyC, optK, fnd, envR, St.get, keyPV, keyV1, renPV, renV1, hasKey, made_zero, List.map_append, iV] <;> omega, by simp [boxesR, listsR, csR, renC, keyC, optK, fnd, envR, St.get, keyPV, keyV1, renPV, renV1, hasKey, made_zero, List.map_append, iV] <;> omega, by simp [boxesR, listsR, csR, renC, keyC, optK, fnd, envR, St.get, keyPV, keyV1, renPV, renV1, hasKey, made_zero, List.map_append, iV] <;> omega, by simp [boxesR, listsR, csR, renC, keyC, optK, fnd, envR, St.get, keyPV, keyV1, renPV, renV1, hasKey, made_zero, List.map_append, iV] <;> omega⟩ (by simp [boxesR, listsR, csR, renC, keyC, optK, fnd, envR, St.get, keyPV, keyV1, renPV, renV1, hasKey, made_zero, List.map_append, iV] <;> omega)⟩
      · have e0 : ((j : Int) < (az.length : Int)) = False := eq_false (by omega)
        obtain rfl : j = az.length := by omega
        rw [List.take_length] at hns
        (repeat' (first | simp -implicitDefEqProofs only [e0, go_sem] | (refine And.intro ?_ ?_; omega) | (refine And.intro (shr_bd ?_ ?_) ?_; omega; omega) | refine sl_list rfl ?_ | refine sd_list rfl ?_ | refine sl_str ?_ | refine sd_str ?_))
        refine loop_step (X := Nat) (fun j => ⟨81, [(2, .s (.c (.p 2 0))), (4, vL 1 FV), (6, vO 26), (11, vN (1 + (j : Int)))], ⟨[(2, actC noA)], [(26, ⟨3, 1, ns.map iV, false, true⟩)]⟩⟩)
          (fun j => j ≤ 5 ∧ ∀ m : Nat, m < j → ¬ (w = wordT (1 + (m : Int)) ∧ ns.length = numsN (1 + (m : Int)))) (fun j => 5 - j) 0 ⟨by omega, fun m h => by omega⟩ (weak_of (fun i => i) (fun i => i) rfl ⟨by simp [boxesR, listsR, csR, renC, keyC, optK, fnd, envR, St.get, keyPV, keyV1, renPV, renV1, hasKey, made_zero, noA] <;> omega, by simp [boxesR, listsR, csR, renC, keyC, optK, fnd, envR, St.get, keyPV, keyV1, renPV, renV1, hasKey, made_zero, noA] <;> omega, by simp [boxesR, listsR, csR, renC, keyC, optK, fnd, envR, St.get, keyPV, keyV1, renPV, renV1, hasKey, made_zero, noA] <;> omega, by simp [boxesR, listsR, csR, renC, keyC, optK, fnd, envR, St.get, keyPV, keyV1, renPV, renV1, hasKey, made_zero, noA] <;> omega, by simp [boxesR, listsR, csR, renC, keyC, optK, fnd, envR, St.get, keyPV, keyV1, renPV, renV1, hasKey, made_zero, noA] <;> omega⟩ (by simp [boxesR, listsR, csR, renC, keyC, optK, fnd, envR, St.get, keyPV, keyV1, renPV, renV1, hasKey, made_zero, noA] <;> omega)) (fun j hj => ?_)
        obtain ⟨hj5, hjm⟩ := hj
        by_cases h5 : j < 5
        · have e5 : ((1 + (j : Int)) ≤ 5) = True := eq_true (by omega)
          have e9 : 1 + ((j : Int) + 1) = 1 + (j : Int) + 1 := by omega
          have aw := actWord_c (1 + (j : Int))
          have an := actNumbers_c (1 + (j : Int))
          by_cases hwk : w = wordT (1 + (j : Int))
          · have t1 : (w = wordT (1 + (j : Int))) = True := eq_true hwk
            by_cases hnk : ns.length = numsN (1 + (j : Int))
            · have t2 : ((az.length : Int) = (numsN (1 + (j : Int)) : Int)) = True := eq_true (by omega)
              have ph := pa_hit (k5 h5) hwk hns hnk
              have p0 := pad0 ns
              have p1 := pad1 ns
              have z0 : (0 < (ns.map iV ++ [iV 0, iV 0]).length) = True := eq_true (by simp)
              have z1 : (1 < (ns.map iV ++ [iV 0, iV 0]).length) = True := eq_true (by simp)
              have zl : (ns.map iV ++ [iV 0, iV 0]).length = az.length + 2 := by simp [nl]
              have ao := iActOk_c (1 + (j : Int)) (ns.getD 0 0) (ns.getD 1 0)
              cases ho : actOk (1 + (j : Int)) (ns.getD 0 0) (ns.getD 1 0) with
              | false =>
                rw [ho] at ao
                have e : paL l = none := by rw [eL, ph, ho]; rfl
                rw [paA_no e, paB_no e]
                repeat' first
                  | (first | simp -implicitDefEqProofs only [e5, g0, lz, lp, t1, t2, nl, List.length_map, go_sem] | (refine And.intro ?_ ?_; omega) | (refine And.intro (shr_bd ?_ ?_) ?_; omega; omega) | refine sl_list rfl ?_ | refine sd_list rfl ?_ | refine sl_str ?_ | refine sd_str ?_)
                  | refine draw_stepY Tryd.pl_follows (by kernel_rfl) ?_
                  | refine callS aw rfl rfl rfl ?_
                  | refine callS an rfl rfl rfl ?_
                  | (generalize ns.map iV ++ [iV 0, iV 0] = NL at *; simp -implicitDefEqProofs only [e5, p0, p1, z0, z1, iV, go_sem])
                  | refine callS ao rfl rfl rfl ?_
                exact fin_scal rfl rfl
              | true =>
                rw [ho] at ao
                have e : paL l = some (actW (1 + (j : Int)) ns) := by rw [eL, ph, ho]; rfl
                rw [paA_ok e, paB_ok e]
                repeat' first
                  | (first | simp -implicitDefEqProofs only [e5, g0, lz, lp, t1, t2, nl, List.length_map, go_sem] | (refine And.intro ?_ ?_; omega) | (refine And.intro (shr_bd ?_ ?_) ?_; omega; omega) | refine sl_list rfl ?_ | refine sd_list rfl ?_ | refine sl_str ?_ | refine sd_str ?_)
                  | refine draw_stepY Tryd.pl_follows (by kernel_rfl) ?_
                  | refine callS aw rfl rfl rfl ?_
                  | refine callS an rfl rfl rfl ?_
                  | (generalize ns.map iV ++ [iV 0, iV 0] = NL at *; simp -implicitDefEqProofs only [e5, p0, p1, z0, z1, iV, go_sem])
                  | refine callS ao rfl rfl rfl ?_
                exact fin_scal rfl rfl
            · have t2 : ((az.length : Int) = (numsN (1 + (j : Int)) : Int)) = False := eq_false (by omega)
              repeat' first
                | (first | simp -implicitDefEqProofs only [e5, g0, lz, lp, t1, t2, nl, List.length_map, go_sem] | (refine And.intro ?_ ?_; omega) | (refine And.intro (shr_bd ?_ ?_) ?_; omega; omega) | refine sl_list rfl ?_ | refine sd_list rfl ?_ | refine sl_str ?_ | refine sd_str ?_)
                | refine draw_stepY Tryd.pl_follows (by kernel_rfl) ?_
                | refine callS aw rfl rfl rfl ?_
                | refine callS an rfl rfl rfl ?_
              exact ⟨j + 1, ⟨by omega, fun m hm => by
                by_cases e : m < j
                · rw [← nl]; exact hjm m e
                · obtain rfl : m = j := by omega
                  exact fun h => hnk (by rw [nl]; exact h.2)⟩, by omega, weak_of (fun i => i) (fun i => i) rfl ⟨by simp [boxesR, listsR, csR, renC, keyC, optK, fnd, envR, St.get, keyPV, keyV1, renPV, renV1, hasKey, made_zero, e9, noA] <;> omega, by simp [boxesR, listsR, csR, renC, keyC, optK, fnd, envR, St.get, keyPV, keyV1, renPV, renV1, hasKey, made_zero, e9, noA] <;> omega, by simp [boxesR, listsR, csR, renC, keyC, optK, fnd, envR, St.get, keyPV, keyV1, renPV, renV1, hasKey, made_zero, e9, noA] <;> omega, by simp [boxesR, listsR, csR, renC, keyC, optK, fnd, envR, St.get, keyPV, keyV1, renPV, renV1, hasKey, made_zero, e9, noA] <;> omega, by simp [boxesR, listsR, csR, renC, keyC, optK, fnd, envR, St.get, keyPV, keyV1, renPV, renV1, hasKey, made_zero, e9, noA] <;> omega⟩ (by simp [boxesR, listsR, csR, renC, keyC, optK, fnd, envR, St.get, keyPV, keyV1, renPV, renV1, hasKey, made_zero, e9, noA] <;> omega)⟩
          · have t1 : (w = wordT (1 + (j : Int))) = False := eq_false hwk
            repeat' first
              | (first | simp -implicitDefEqProofs only [e5, g0, lz, lp, t1, nl, List.length_map, go_sem] | (refine And.intro ?_ ?_; omega) | (refine And.intro (shr_bd ?_ ?_) ?_; omega; omega) | refine sl_list rfl ?_ | refine sd_list rfl ?_ | refine sl_str ?_ | refine sd_str ?_)
              | refine draw_stepY Tryd.pl_follows (by kernel_rfl) ?_
              | refine callS aw rfl rfl rfl ?_
              | refine callS an rfl rfl rfl ?_
            exact ⟨j + 1, ⟨by omega, fun m hm => by
              by_cases e : m < j
              · rw [← nl]; exact hjm m e
              · obtain rfl : m = j := by omega
                exact fun h => hwk h.1⟩, by omega, weak_of (fun i => i) (fun i => i) rfl ⟨by simp [boxesR, listsR, csR, renC, keyC, optK, fnd, envR, St.get, keyPV, keyV1, renPV, renV1, hasKey, made_zero, e9, noA] <;> omega, by simp [boxesR, listsR, csR, renC, keyC, optK, fnd, envR, St.get, keyPV, keyV1, renPV, renV1, hasKey, made_zero, e9, noA] <;> omega, by simp [boxesR, listsR, csR, renC, keyC, optK, fnd, envR, St.get, keyPV, keyV1, renPV, renV1, hasKey, made_zero, e9, noA] <;> omega, by simp [boxesR, listsR, csR, renC, keyC, optK, fnd, envR, St.get, keyPV, keyV1, renPV, renV1, hasKey, made_zero, e9, noA] <;> omega, by simp [boxesR, listsR, csR, renC, keyC, optK, fnd, envR, St.get, keyPV, keyV1, renPV, renV1, hasKey, made_zero, e9, noA] <;> omega⟩ (by simp [boxesR, listsR, csR, renC, keyC, optK, fnd, envR, St.get, keyPV, keyV1, renPV, renV1, hasKey, made_zero, e9, noA] <;> omega)⟩
        · have e5 : ((1 + (j : Int)) ≤ 5) = False := eq_false (by omega)
          have e : paL l = none := by
            rw [eL]
            exact pa_miss hns fun m hm => hjm m (by omega)
          rw [paA_no e, paB_no e]
          (repeat' (first | simp -implicitDefEqProofs only [e5, go_sem] | (refine And.intro ?_ ?_; omega) | (refine And.intro (shr_bd ?_ ?_) ?_; omega; omega) | refine sl_list rfl ?_ | refine sd_list rfl ?_ | refine sl_str ?_ | refine sd_str ?_))
          exact fin_scal rfl rfl
theorem lawParseAct_c (l : List UInt8) : PC Tryd.prog 3 [] [.c (.v (.string (sB l)))] (vB true) ⟨[], []⟩ := by
  by_cases hs : (1048576 : Int) < l.length
  · refine pc_of Tryd.func3 rfl (by kernel_rfl) _ Tryd.ntmps3 (by simp) ?_
    (repeat' (first | simp -implicitDefEqProofs only [hs, go_sem] | (refine And.intro ?_ ?_; omega) | (refine And.intro (shr_bd ?_ ?_) ?_; omega; omega) | refine sl_list rfl ?_ | refine sd_list rfl ?_ | refine sl_str ?_ | refine sd_str ?_))
    exact fin_scal rfl rfl
  · have e0 : ((1048576 : Int) < (l.length : Int)) = False := eq_false hs
    refine pc_of Tryd.func3 rfl (by kernel_rfl) _ Tryd.ntmps3 (by simp) ?_
    repeat' first
      | (first | simp -implicitDefEqProofs only [e0, go_sem] | (refine And.intro ?_ ?_; omega) | (refine And.intro (shr_bd ?_ ?_) ?_; omega; omega) | refine sl_list rfl ?_ | refine sd_list rfl ?_ | refine sl_str ?_ | refine sd_str ?_)
      | refine callS (ParseAct_c l (by omega)) rfl rfl rfl ?_
      | refine callS (iParseAct_c l (by omega)) rfl rfl rfl ?_
      | refine callS (eqAct_c (paA l)) rfl rfl rfl ?_
    all_goals exact fin_scal rfl rfl
theorem fnExactParseAct.law_c {c : C} (h : TC (.z .s) c) : PC Tryd.prog 3 [] [.c c] (vB true) ⟨[], []⟩ := by
  obtain ⟨s, rfl, _⟩ := tc_s h
  rw [sB_of s]
  exact lawParseAct_c _
end Go.Proofs.YtlplopaahflcpaaDoor
