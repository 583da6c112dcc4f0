/-
  What the functions compute that print acts and scripts of acts.
-/
import Derived.Test.YtlplopaahflcpaaDoorB1
import Derived.Test.YtlplopaahflcpaaDoorTAe
namespace Go.Proofs.YtlplopaahflcpaaDoor
open Go.PL
set_option linter.unusedSimpArgs false
def wordT (k : Int) : List UInt8 := if k = 1 then [106, 117, 109, 112] else if k = 2 then [104, 105, 110, 116] else if k = 3 then [98, 97, 99, 107] else if k = 4 then [99, 108, 97, 105, 109] else [115, 116, 97, 116, 101]
def numsN (k : Int) : Nat := if k = 1 ∨ k = 4 then 2 else if k = 2 then 1 else 0
def numT (a b : Int) : Nat → List UInt8
  | 0 => []
  | 1 => 32 :: itoa a
  | _ => 32 :: (itoa a ++ 32 :: itoa b)
def actT (a : Ac) : List UInt8 := if actOk a.k a.a a.b = true then wordT a.k ++ numT a.a a.b (numsN a.k) else []
theorem act_cases {k a b : Int} (h : actOk k a b = true) : (k = 1 ∨ k = 2 ∨ k = 3 ∨ k = 4 ∨ k = 5) ∧ (0 ≤ a ∧ a ≤ 999) ∧ 0 ≤ b ∧ b ≤ 9999 := by
  unfold actOk at h
  repeat' split at h
  all_goals
    first
    | (simp only [Bool.and_eq_true, within_iff, decide_eq_true_eq] at h; omega)
    | cases h
theorem word_len {k : Int} : (wordT k).length ≤ 5 := by
  unfold wordT
  repeat' split
  all_goals decide
theorem numT_len {a b : Int} (ha : 0 ≤ a ∧ a ≤ 9999) (hb : 0 ≤ b ∧ b ≤ 9999) : ∀ i, (numT a b i).length ≤ 44
  | 0 => by simp [numT]
  | 1 => by
    have := itoa_len (n := a) (by omega) (by omega)
    simp only [numT, List.length_cons]; omega
  | i + 2 => by
    have h1 := itoa_len (n := a) (by omega) (by omega)
    have h2 := itoa_len (n := b) (by omega) (by omega)
    simp only [numT, List.length_cons, List.length_append]; omega
theorem actT_len {a : Ac} : (actT a).length ≤ 49 := by
  unfold actT
  split
  · rename_i h
    obtain ⟨_, h1, h2⟩ := act_cases h
    have := word_len (k := a.k)
    have := numT_len (a := a.a) (b := a.b) (by omega) h2 (numsN a.k)
    rw [List.length_append]; omega
  · simp
theorem actWord_c (k : Int) : PC Tryd.prog 13 [] [.c (.v (.int .i64 k))] (vS (wordT k)) ⟨[], []⟩ := by
  by_cases h1 : k = 1
  · refine pc_of Tryd.func13 rfl (by kernel_rfl) _ Tryd.ntmps13 (by simp) ?_
    (repeat' (first | simp -implicitDefEqProofs only [h1, go_sem] | (refine And.intro ?_ ?_; omega) | (refine And.intro (shr_bd ?_ ?_) ?_; omega; omega) | refine sl_list rfl ?_ | refine sd_list rfl ?_ | refine sl_str ?_ | refine sd_str ?_))
    exact fin_scal rfl (by simp [wordT, h1])
  by_cases h2 : k = 2
  · refine pc_of Tryd.func13 rfl (by kernel_rfl) _ Tryd.ntmps13 (by simp) ?_
    (repeat' (first | simp -implicitDefEqProofs only [h1, h2, go_sem] | (refine And.intro ?_ ?_; omega) | (refine And.intro (shr_bd ?_ ?_) ?_; omega; omega) | refine sl_list rfl ?_ | refine sd_list rfl ?_ | refine sl_str ?_ | refine sd_str ?_))
    exact fin_scal rfl (by simp [wordT, h2])
  by_cases h3 : k = 3
  · refine pc_of Tryd.func13 rfl (by kernel_rfl) _ Tryd.ntmps13 (by simp) ?_
    (repeat' (first | simp -implicitDefEqProofs only [h1, h2, h3, go_sem] | (refine And.intro ?_ ?_; omega) | (refine And.intro (shr_bd ?_ ?_) ?_; omega; omega) | refine sl_list rfl ?_ | refine sd_list rfl ?_ | refine sl_str ?_ | refine sd_str ?_))
    exact fin_scal rfl (by simp [wordT, h3])
  by_cases h4 : k = 4
  · refine pc_of Tryd.func13 rfl (by kernel_rfl) _ Tryd.ntmps13 (by simp) ?_
    (repeat' (first | simp -implicitDefEqProofs only [h1, h2, h3, h4, go_sem] | (refine And.intro ?_ ?_; omega) | (refine And.intro (shr_bd ?_ ?_) ?_; omega; omega) | refine sl_list rfl ?_ | refine sd_list rfl ?_ | refine sl_str ?_ | refine sd_str ?_))
    exact fin_scal rfl (by simp [wordT, h4])
  · refine pc_of Tryd.func13 rfl (by kernel_rfl) _ Tryd.ntmps13 (by simp) ?_
    (repeat' (first | simp -implicitDefEqProofs only [h1, h2, h3, h4, go_sem] | (refine And.intro ?_ ?_; omega) | (refine And.intro (shr_bd ?_ ?_) ?_; omega; omega) | refine sl_list rfl ?_ | refine sd_list rfl ?_ | refine sl_str ?_ | refine sd_str ?_))
    exact fin_scal rfl (by simp [wordT, h1, h2, h3, h4])
theorem actNumbers_c (k : Int) : PC Tryd.prog 14 [] [.c (.v (.int .i64 k))] (vN (numsN k)) ⟨[], []⟩ := by
  by_cases h1 : k = 1
  · refine pc_of Tryd.func14 rfl (by kernel_rfl) _ Tryd.ntmps14 (by simp) ?_
    (repeat' (first | simp -implicitDefEqProofs only [h1, go_sem] | (refine And.intro ?_ ?_; omega) | (refine And.intro (shr_bd ?_ ?_) ?_; omega; omega) | refine sl_list rfl ?_ | refine sd_list rfl ?_ | refine sl_str ?_ | refine sd_str ?_))
    exact fin_scal rfl (by simp [numsN, h1])
  by_cases h4 : k = 4
  · refine pc_of Tryd.func14 rfl (by kernel_rfl) _ Tryd.ntmps14 (by simp) ?_
    (repeat' (first | simp -implicitDefEqProofs only [h1, h4, go_sem] | (refine And.intro ?_ ?_; omega) | (refine And.intro (shr_bd ?_ ?_) ?_; omega; omega) | refine sl_list rfl ?_ | refine sd_list rfl ?_ | refine sl_str ?_ | refine sd_str ?_))
    exact fin_scal rfl (by simp [numsN, h4])
  by_cases h2 : k = 2
  · refine pc_of Tryd.func14 rfl (by kernel_rfl) _ Tryd.ntmps14 (by simp) ?_
    (repeat' (first | simp -implicitDefEqProofs only [h1, h4, h2, go_sem] | (refine And.intro ?_ ?_; omega) | (refine And.intro (shr_bd ?_ ?_) ?_; omega; omega) | refine sl_list rfl ?_ | refine sd_list rfl ?_ | refine sl_str ?_ | refine sd_str ?_))
    exact fin_scal rfl (by simp [numsN, h2])
  · refine pc_of Tryd.func14 rfl (by kernel_rfl) _ Tryd.ntmps14 (by simp) ?_
    (repeat' (first | simp -implicitDefEqProofs only [h1, h4, h2, go_sem] | (refine And.intro ?_ ?_; omega) | (refine And.intro (shr_bd ?_ ?_) ?_; omega; omega) | refine sl_list rfl ?_ | refine sd_list rfl ?_ | refine sl_str ?_ | refine sd_str ?_))
    exact fin_scal rfl (by simp [numsN, h1, h4, h2])
theorem FormatAct_1 (a b : Nat) (h : actOk 1 (a : Int) (b : Int) = true) (ha : a ≤ 999) (hb : b ≤ 9999) : PC Tryd.prog 10 [] [.a (actC ⟨1, (a : Int), (b : Int)⟩)] (.t [.c (.v (.string (sB ([106, 117, 109, 112] ++ numT a b 2)))), .c (.v (.bool true))]) ⟨[], []⟩ := by
  have l1 := itoa_len (n := (a : Int)) (by omega) (by omega)
  have l2 := itoa_len (n := (b : Int)) (by omega) (by omega)
  refine pc_of Tryd.func10 rfl (by kernel_rfl) _ Tryd.ntmps10 (by simp) ?_
  repeat' first
    | (first | simp -implicitDefEqProofs only [h, go_sem] | (refine And.intro ?_ ?_; omega) | (refine And.intro (shr_bd ?_ ?_) ?_; omega; omega) | refine sl_list rfl ?_ | refine sd_list rfl ?_ | refine sl_str ?_ | refine sd_str ?_)
    | refine callS (ActOk_c 1 (a : Int) (b : Int)) rfl rfl rfl ?_
  refine loop_step (X := Nat) (fun i => ⟨40, [(4, vS ([106, 117, 109, 112] ++ numT a b i)), (5, vN 2), (6, vO 25), (7, vN i)], ⟨[], [(25, ⟨3, 1, [iV a, iV b], false, true⟩)]⟩⟩)
    (fun i => i ≤ 2) (fun i => 2 - i) 0 (by omega) (weak_of (fun i => i) (fun i => i) rfl ⟨by simp [boxesR, listsR, csR, renC, keyC, optK, fnd, envR, St.get, keyPV, keyV1, renPV, renV1, hasKey, made_zero, numT] <;> omega, by simp [boxesR, listsR, csR, renC, keyC, optK, fnd, envR, St.get, keyPV, keyV1, renPV, renV1, hasKey, made_zero, numT] <;> omega, by simp [boxesR, listsR, csR, renC, keyC, optK, fnd, envR, St.get, keyPV, keyV1, renPV, renV1, hasKey, made_zero, numT] <;> omega, by simp [boxesR, listsR, csR, renC, keyC, optK, fnd, envR, St.get, keyPV, keyV1, renPV, renV1, hasKey, made_zero, numT] <;> omega, by simp [boxesR, listsR, csR, renC, keyC, optK, fnd, envR, St.get, keyPV, keyV1, renPV, renV1, hasKey, made_zero, numT] <;> omega⟩ (by simp [boxesR, listsR, csR, renC, keyC, optK, fnd, envR, St.get, keyPV, keyV1, renPV, renV1, hasKey, made_zero, numT] <;> omega)) (fun i hi => ?_)
  have nl := numT_len (a := (a : Int)) (b := (b : Int)) (by omega) (by omega) i
  by_cases i0 : i = 0
  · have e0 : ((i : Int) < 2) = True := eq_true (by omega)
    have g1 : ([iV a, iV b] : List Value)[i]? = some (iV a) := by subst i0; rfl
    have n1 : numT (a : Int) (b : Int) (i + 1) = numT (a : Int) (b : Int) i ++ (32 :: itoa (a : Int)) := by subst i0; simp [numT]
    have hi2 : i < 2 := by omega
    repeat' first
      | (first | simp -implicitDefEqProofs only [e0, g1, hi2, List.append_assoc, List.length_append, List.length_cons, List.length_nil, List.cons_append, List.nil_append, go_sem] | (refine And.intro ?_ ?_; omega) | (refine And.intro (shr_bd ?_ ?_) ?_; omega; omega) | refine sl_list rfl ?_ | refine sd_list rfl ?_ | refine sl_str ?_ | refine sd_str ?_)
      | refine callS (FormatInt_c a (by omega)) rfl rfl rfl ?_
    exact ⟨i + 1, by omega, by omega, weak_of (fun i => i) (fun i => i) rfl ⟨by simp [boxesR, listsR, csR, renC, keyC, optK, fnd, envR, St.get, keyPV, keyV1, renPV, renV1, hasKey, made_zero, n1] <;> omega, by simp [boxesR, listsR, csR, renC, keyC, optK, fnd, envR, St.get, keyPV, keyV1, renPV, renV1, hasKey, made_zero, n1] <;> omega, by simp [boxesR, listsR, csR, renC, keyC, optK, fnd, envR, St.get, keyPV, keyV1, renPV, renV1, hasKey, made_zero, n1] <;> omega, by simp [boxesR, listsR, csR, renC, keyC, optK, fnd, envR, St.get, keyPV, keyV1, renPV, renV1, hasKey, made_zero, n1] <;> omega, by simp [boxesR, listsR, csR, renC, keyC, optK, fnd, envR, St.get, keyPV, keyV1, renPV, renV1, hasKey, made_zero, n1] <;> omega⟩ (by simp [boxesR, listsR, csR, renC, keyC, optK, fnd, envR, St.get, keyPV, keyV1, renPV, renV1, hasKey, made_zero, n1] <;> omega)⟩
  by_cases i1 : i = 1
  · have e0 : ((i : Int) < 2) = True := eq_true (by omega)
    have g1 : ([iV a, iV b] : List Value)[i]? = some (iV b) := by subst i1; rfl
    have n1 : numT (a : Int) (b : Int) (i + 1) = numT (a : Int) (b : Int) i ++ (32 :: itoa (b : Int)) := by subst i1; simp [numT]
    have hi2 : i < 2 := by omega
    repeat' first
      | (first | simp -implicitDefEqProofs only [e0, g1, hi2, List.append_assoc, List.length_append, List.length_cons, List.length_nil, List.cons_append, List.nil_append, go_sem] | (refine And.intro ?_ ?_; omega) | (refine And.intro (shr_bd ?_ ?_) ?_; omega; omega) | refine sl_list rfl ?_ | refine sd_list rfl ?_ | refine sl_str ?_ | refine sd_str ?_)
      | refine callS (FormatInt_c b (by omega)) rfl rfl rfl ?_
    exact ⟨i + 1, by omega, by omega, weak_of (fun i => i) (fun i => i) rfl ⟨by simp [boxesR, listsR, csR, renC, keyC, optK, fnd, envR, St.get, keyPV, keyV1, renPV, renV1, hasKey, made_zero, n1] <;> omega, by simp [boxesR, listsR, csR, renC, keyC, optK, fnd, envR, St.get, keyPV, keyV1, renPV, renV1, hasKey, made_zero, n1] <;> omega, by simp [boxesR, listsR, csR, renC, keyC, optK, fnd, envR, St.get, keyPV, keyV1, renPV, renV1, hasKey, made_zero, n1] <;> omega, by simp [boxesR, listsR, csR, renC, keyC, optK, fnd, envR, St.get, keyPV, keyV1, renPV, renV1, hasKey, made_zero, n1] <;> omega, by simp [boxesR, listsR, csR, renC, keyC, optK, fnd, envR, St.get, keyPV, keyV1, renPV, renV1, hasKey, made_zero, n1] <;> omega⟩ (by simp [boxesR, listsR, csR, renC, keyC, optK, fnd, envR, St.get, keyPV, keyV1, renPV, renV1, hasKey, made_zero, n1] <;> omega)⟩
  have e0 : ((i : Int) < 2) = False := eq_false (by omega)
  have e1 : numT (a : Int) (b : Int) i = numT (a : Int) (b : Int) 2 := by rw [show i = 2 by omega]
  (repeat' (first | simp -implicitDefEqProofs only [e0, go_sem] | (refine And.intro ?_ ?_; omega) | (refine And.intro (shr_bd ?_ ?_) ?_; omega; omega) | refine sl_list rfl ?_ | refine sd_list rfl ?_ | refine sl_str ?_ | refine sd_str ?_))
  exact fin_scal rfl (by rw [e1])
theorem FormatAct_2 (a b : Nat) (h : actOk 2 (a : Int) (b : Int) = true) (ha : a ≤ 999) (hb : b ≤ 9999) : PC Tryd.prog 10 [] [.a (actC ⟨2, (a : Int), (b : Int)⟩)] (.t [.c (.v (.string (sB ([104, 105, 110, 116] ++ numT a b 1)))), .c (.v (.bool true))]) ⟨[], []⟩ := by
  have l1 := itoa_len (n := (a : Int)) (by omega) (by omega)
  have l2 := itoa_len (n := (b : Int)) (by omega) (by omega)
  refine pc_of Tryd.func10 rfl (by kernel_rfl) _ Tryd.ntmps10 (by simp) ?_
  repeat' first
    | (first | simp -implicitDefEqProofs only [h, go_sem] | (refine And.intro ?_ ?_; omega) | (refine And.intro (shr_bd ?_ ?_) ?_; omega; omega) | refine sl_list rfl ?_ | refine sd_list rfl ?_ | refine sl_str ?_ | refine sd_str ?_)
    | refine callS (ActOk_c 2 (a : Int) (b : Int)) rfl rfl rfl ?_
  refine loop_step (X := Nat) (fun i => ⟨40, [(4, vS ([104, 105, 110, 116] ++ numT a b i)), (5, vN 1), (6, vO 25), (7, vN i)], ⟨[], [(25, ⟨3, 1, [iV a, iV b], false, true⟩)]⟩⟩)
    (fun i => i ≤ 1) (fun i => 1 - i) 0 (by omega) (weak_of (fun i => i) (fun i => i) rfl ⟨by simp [boxesR, listsR, csR, renC, keyC, optK, fnd, envR, St.get, keyPV, keyV1, renPV, renV1, hasKey, made_zero, numT] <;> omega, by simp [boxesR, listsR, csR, renC, keyC, optK, fnd, envR, St.get, keyPV, keyV1, renPV, renV1, hasKey, made_zero, numT] <;> omega, by simp [boxesR, listsR, csR, renC, keyC, optK, fnd, envR, St.get, keyPV, keyV1, renPV, renV1, hasKey, made_zero, numT] <;> omega, by simp [boxesR, listsR, csR, renC, keyC, optK, fnd, envR, St.get, keyPV, keyV1, renPV, renV1, hasKey, made_zero, numT] <;> omega, by simp [boxesR, listsR, csR, renC, keyC, optK, fnd, envR, St.get, keyPV, keyV1, renPV, renV1, hasKey, made_zero, numT] <;> omega⟩ (by simp [boxesR, listsR, csR, renC, keyC, optK, fnd, envR, St.get, keyPV, keyV1, renPV, renV1, hasKey, made_zero, numT] <;> omega)) (fun i hi => ?_)
  have nl := numT_len (a := (a : Int)) (b := (b : Int)) (by omega) (by omega) i
  by_cases i0 : i = 0
  · have e0 : ((i : Int) < 1) = True := eq_true (by omega)
    have g1 : ([iV a, iV b] : List Value)[i]? = some (iV a) := by subst i0; rfl
    have n1 : numT (a : Int) (b : Int) (i + 1) = numT (a : Int) (b : Int) i ++ (32 :: itoa (a : Int)) := by subst i0; simp [numT]
    have hi2 : i < 2 := by omega
    repeat' first
      | (first | simp -implicitDefEqProofs only [e0, g1, hi2, List.append_assoc, List.length_append, List.length_cons, List.length_nil, List.cons_append, List.nil_append, go_sem] | (refine And.intro ?_ ?_; omega) | (refine And.intro (shr_bd ?_ ?_) ?_; omega; omega) | refine sl_list rfl ?_ | refine sd_list rfl ?_ | refine sl_str ?_ | refine sd_str ?_)
      | refine callS (FormatInt_c a (by omega)) rfl rfl rfl ?_
    exact ⟨i + 1, by omega, by omega, weak_of (fun i => i) (fun i => i) rfl ⟨by simp [boxesR, listsR, csR, renC, keyC, optK, fnd, envR, St.get, keyPV, keyV1, renPV, renV1, hasKey, made_zero, n1] <;> omega, by simp [boxesR, listsR, csR, renC, keyC, optK, fnd, envR, St.get, keyPV, keyV1, renPV, renV1, hasKey, made_zero, n1] <;> omega, by simp [boxesR, listsR, csR, renC, keyC, optK, fnd, envR, St.get, keyPV, keyV1, renPV, renV1, hasKey, made_zero, n1] <;> omega, by simp [boxesR, listsR, csR, renC, keyC, optK, fnd, envR, St.get, keyPV, keyV1, renPV, renV1, hasKey, made_zero, n1] <;> omega, by simp [boxesR, listsR, csR, renC, keyC, optK, fnd, envR, St.get, keyPV, keyV1, renPV, renV1, hasKey, made_zero, n1] <;> omega⟩ (by simp [boxesR, listsR, csR, renC, keyC, optK, fnd, envR, St.get, keyPV, keyV1, renPV, renV1, hasKey, made_zero, n1] <;> omega)⟩
  have e0 : ((i : Int) < 1) = False := eq_false (by omega)
  have e1 : numT (a : Int) (b : Int) i = numT (a : Int) (b : Int) 1 := by rw [show i = 1 by omega]
  (repeat' (first | simp -implicitDefEqProofs only [e0, go_sem] | (refine And.intro ?_ ?_; omega) | (refine And.intro (shr_bd ?_ ?_) ?_; omega; omega) | refine sl_list rfl ?_ | refine sd_list rfl ?_ | refine sl_str ?_ | refine sd_str ?_))
  exact fin_scal rfl (by rw [e1])
theorem FormatAct_3 (a b : Nat) (h : actOk 3 (a : Int) (b : Int) = true) (ha : a ≤ 999) (hb : b ≤ 9999) : PC Tryd.prog 10 [] [.a (actC ⟨3, (a : Int), (b : Int)⟩)] (.t [.c (.v (.string (sB ([98, 97, 99, 107] ++ numT a b 0)))), .c (.v (.bool true))]) ⟨[], []⟩ := by
  have l1 := itoa_len (n := (a : Int)) (by omega) (by omega)
  have l2 := itoa_len (n := (b : Int)) (by omega) (by omega)
  refine pc_of Tryd.func10 rfl (by kernel_rfl) _ Tryd.ntmps10 (by simp) ?_
  repeat' first
    | (first | simp -implicitDefEqProofs only [h, go_sem] | (refine And.intro ?_ ?_; omega) | (refine And.intro (shr_bd ?_ ?_) ?_; omega; omega) | refine sl_list rfl ?_ | refine sd_list rfl ?_ | refine sl_str ?_ | refine sd_str ?_)
    | refine callS (ActOk_c 3 (a : Int) (b : Int)) rfl rfl rfl ?_
  refine loop_step (X := Nat) (fun i => ⟨40, [(4, vS ([98, 97, 99, 107] ++ numT a b i)), (5, vN 0), (6, vO 25), (7, vN i)], ⟨[], [(25, ⟨3, 1, [iV a, iV b], false, true⟩)]⟩⟩)
    (fun i => i ≤ 0) (fun i => 0 - i) 0 (by omega) (weak_of (fun i => i) (fun i => i) rfl ⟨by simp [boxesR, listsR, csR, renC, keyC, optK, fnd, envR, St.get, keyPV, keyV1, renPV, renV1, hasKey, made_zero, numT] <;> omega, by simp [boxesR, listsR, csR, renC, keyC, optK, fnd, envR, St.get, keyPV, keyV1, renPV, renV1, hasKey, made_zero, numT] <;> omega, by simp [boxesR, listsR, csR, renC, keyC, optK, fnd, envR, St.get, keyPV, keyV1, renPV, renV1, hasKey, made_zero, numT] <;> omega, by simp [boxesR, listsR, csR, renC, keyC, optK, fnd, envR, St.get, keyPV, keyV1, renPV, renV1, hasKey, made_zero, numT] <;> omega, by simp [boxesR, listsR, csR, renC, keyC, optK, fnd, envR, St.get, keyPV, keyV1, renPV, renV1, hasKey, made_zero, numT] <;> omega⟩ (by simp [boxesR, listsR, csR, renC, keyC, optK, fnd, envR, St.get, keyPV, keyV1, renPV, renV1, hasKey, made_zero, numT] <;> omega)) (fun i hi => ?_)
  have nl := numT_len (a := (a : Int)) (b := (b : Int)) (by omega) (by omega) i
  have e0 : ((i : Int) < 0) = False := eq_false (by omega)
  have e1 : numT (a : Int) (b : Int) i = numT (a : Int) (b : Int) 0 := by rw [show i = 0 by omega]
  (repeat' (first | simp -implicitDefEqProofs only [e0, go_sem] | (refine And.intro ?_ ?_; omega) | (refine And.intro (shr_bd ?_ ?_) ?_; omega; omega) | refine sl_list rfl ?_ | refine sd_list rfl ?_ | refine sl_str ?_ | refine sd_str ?_))
  exact fin_scal rfl (by rw [e1])
theorem FormatAct_4 (a b : Nat) (h : actOk 4 (a : Int) (b : Int) = true) (ha : a ≤ 999) (hb : b ≤ 9999) : PC Tryd.prog 10 [] [.a (actC ⟨4, (a : Int), (b : Int)⟩)] (.t [.c (.v (.string (sB ([99, 108, 97, 105, 109] ++ numT a b 2)))), .c (.v (.bool true))]) ⟨[], []⟩ := by
  have l1 := itoa_len (n := (a : Int)) (by omega) (by omega)
  have l2 := itoa_len (n := (b : Int)) (by omega) (by omega)
  refine pc_of Tryd.func10 rfl (by kernel_rfl) _ Tryd.ntmps10 (by simp) ?_
  repeat' first
    | (first | simp -implicitDefEqProofs only [h, go_sem] | (refine And.intro ?_ ?_; omega) | (refine And.intro (shr_bd ?_ ?_) ?_; omega; omega) | refine sl_list rfl ?_ | refine sd_list rfl ?_ | refine sl_str ?_ | refine sd_str ?_)
    | refine callS (ActOk_c 4 (a : Int) (b : Int)) rfl rfl rfl ?_
  refine loop_step (X := Nat) (fun i => ⟨40, [(4, vS ([99, 108, 97, 105, 109] ++ numT a b i)), (5, vN 2), (6, vO 25), (7, vN i)], ⟨[], [(25, ⟨3, 1, [iV a, iV b], false, true⟩)]⟩⟩)
    (fun i => i ≤ 2) (fun i => 2 - i) 0 (by omega) (weak_of (fun i => i) (fun i => i) rfl ⟨by simp [boxesR, listsR, csR, renC, keyC, optK, fnd, envR, St.get, keyPV, keyV1, renPV, renV1, hasKey, made_zero, numT] <;> omega, by simp [boxesR, listsR, csR, renC, keyC, optK, fnd, envR, St.get, keyPV, keyV1, renPV, renV1, hasKey, made_zero, numT] <;> omega, by simp [boxesR, listsR, csR, renC, keyC, optK, fnd, envR, St.get, keyPV, keyV1, renPV, renV1, hasKey, made_zero, numT] <;> omega, by simp [boxesR, listsR, csR, renC, keyC, optK, fnd, envR, St.get, keyPV, keyV1, renPV, renV1, hasKey, made_zero, numT] <;> omega, by simp [boxesR, listsR, csR, renC, keyC, optK, fnd, envR, St.get, keyPV, keyV1, renPV, renV1, hasKey, made_zero, numT] <;> omega⟩ (by simp [boxesR, listsR, csR, renC, keyC, optK, fnd, envR, St.get, keyPV, keyV1, renPV, renV1, hasKey, made_zero, numT] <;> omega)) (fun i hi => ?_)
  have nl := numT_len (a := (a : Int)) (b := (b : Int)) (by omega) (by omega) i
  by_cases i0 : i = 0
  · have e0 : ((i : Int) < 2) = True := eq_true (by omega)
    have g1 : ([iV a, iV b] : List Value)[i]? = some (iV a) := by subst i0; rfl
    have n1 : numT (a : Int) (b : Int) (i + 1) = numT (a : Int) (b : Int) i ++ (32 :: itoa (a : Int)) := by subst i0; simp [numT]
    have hi2 : i < 2 := by omega
    repeat' first
      | (first | simp -implicitDefEqProofs only [e0, g1, hi2, List.append_assoc, List.length_append, List.length_cons, List.length_nil, List.cons_append, List.nil_append, go_sem] | (refine And.intro ?_ ?_; omega) | (refine And.intro (shr_bd ?_ ?_) ?_; omega; omega) | refine sl_list rfl ?_ | refine sd_list rfl ?_ | refine sl_str ?_ | refine sd_str ?_)
      | refine callS (FormatInt_c a (by omega)) rfl rfl rfl ?_
    exact ⟨i + 1, by omega, by omega, weak_of (fun i => i) (fun i => i) rfl ⟨by simp [boxesR, listsR, csR, renC, keyC, optK, fnd, envR, St.get, keyPV, keyV1, renPV, renV1, hasKey, made_zero, n1] <;> omega, by simp [boxesR, listsR, csR, renC, keyC, optK, fnd, envR, St.get, keyPV, keyV1, renPV, renV1, hasKey, made_zero, n1] <;> omega, by simp [boxesR, listsR, csR, renC, keyC, optK, fnd, envR, St.get, keyPV, keyV1, renPV, renV1, hasKey, made_zero, n1] <;> omega, by simp [boxesR, listsR, csR, renC, keyC, optK, fnd, envR, St.get, keyPV, keyV1, renPV, renV1, hasKey, made_zero, n1] <;> omega, by simp [boxesR, listsR, csR, renC, keyC, optK, fnd, envR, St.get, keyPV, keyV1, renPV, renV1, hasKey, made_zero, n1] <;> omega⟩ (by simp [boxesR, listsR, csR, renC, keyC, optK, fnd, envR, St.get, keyPV, keyV1, renPV, renV1, hasKey, made_zero, n1] <;> omega)⟩
  by_cases i1 : i = 1
  · have e0 : ((i : Int) < 2) = True := eq_true (by omega)
    have g1 : ([iV a, iV b] : List Value)[i]? = some (iV b) := by subst i1; rfl
    have n1 : numT (a : Int) (b : Int) (i + 1) = numT (a : Int) (b : Int) i ++ (32 :: itoa (b : Int)) := by subst i1; simp [numT]
    have hi2 : i < 2 := by omega
    repeat' first
      | (first | simp -implicitDefEqProofs only [e0, g1, hi2, List.append_assoc, List.length_append, List.length_cons, List.length_nil, List.cons_append, List.nil_append, go_sem] | (refine And.intro ?_ ?_; omega) | (refine And.intro (shr_bd ?_ ?_) ?_; omega; omega) | refine sl_list rfl ?_ | refine sd_list rfl ?_ | refine sl_str ?_ | refine sd_str ?_)
      | refine callS (FormatInt_c b (by omega)) rfl rfl rfl ?_
    exact ⟨i + 1, by omega, by omega, weak_of (fun i => i) (fun i => i) rfl ⟨by simp [boxesR, listsR, csR, renC, keyC, optK, fnd, envR, St.get, keyPV, keyV1, renPV, renV1, hasKey, made_zero, n1] <;> omega, by simp [boxesR, listsR, csR, renC, keyC, optK, fnd, envR, St.get, keyPV, keyV1, renPV, renV1, hasKey, made_zero, n1] <;> omega, by simp [boxesR, listsR, csR, renC, keyC, optK, fnd, envR, St.get, keyPV, keyV1, renPV, renV1, hasKey, made_zero, n1] <;> omega, by simp [boxesR, listsR, csR, renC, keyC, optK, fnd, envR, St.get, keyPV, keyV1, renPV, renV1, hasKey, made_zero, n1] <;> omega, by simp [boxesR, listsR, csR, renC, keyC, optK, fnd, envR, St.get, keyPV, keyV1, renPV, renV1, hasKey, made_zero, n1] <;> omega⟩ (by simp [boxesR, listsR, csR, renC, keyC, optK, fnd, envR, St.get, keyPV, keyV1, renPV, renV1, hasKey, made_zero, n1] <;> omega)⟩
  have e0 : ((i : Int) < 2) = False := eq_false (by omega)
  have e1 : numT (a : Int) (b : Int) i = numT (a : Int) (b : Int) 2 := by rw [show i = 2 by omega]
  (repeat' (first | simp -implicitDefEqProofs only [e0, go_sem] | (refine And.intro ?_ ?_; omega) | (refine And.intro (shr_bd ?_ ?_) ?_; omega; omega) | refine sl_list rfl ?_ | refine sd_list rfl ?_ | refine sl_str ?_ | refine sd_str ?_))
  exact fin_scal rfl (by rw [e1])
theorem FormatAct_5 (a b : Nat) (h : actOk 5 (a : Int) (b : Int) = true) (ha : a ≤ 999) (hb : b ≤ 9999) : PC Tryd.prog 10 [] [.a (actC ⟨5, (a : Int), (b : Int)⟩)] (.t [.c (.v (.string (sB ([115, 116, 97, 116, 101] ++ numT a b 0)))), .c (.v (.bool true))]) ⟨[], []⟩ := by
  have l1 := itoa_len (n := (a : Int)) (by omega) (by omega)
  have l2 := itoa_len (n := (b : Int)) (by omega) (by omega)
  refine pc_of Tryd.func10 rfl (by kernel_rfl) _ Tryd.ntmps10 (by simp) ?_
  repeat' first
    | (first | simp -implicitDefEqProofs only [h, go_sem] | (refine And.intro ?_ ?_; omega) | (refine And.intro (shr_bd ?_ ?_) ?_; omega; omega) | refine sl_list rfl ?_ | refine sd_list rfl ?_ | refine sl_str ?_ | refine sd_str ?_)
    | refine callS (ActOk_c 5 (a : Int) (b : Int)) rfl rfl rfl ?_
  refine loop_step (X := Nat) (fun i => ⟨40, [(4, vS ([115, 116, 97, 116, 101] ++ numT a b i)), (5, vN 0), (6, vO 25), (7, vN i)], ⟨[], [(25, ⟨3, 1, [iV a, iV b], false, true⟩)]⟩⟩)
    (fun i => i ≤ 0) (fun i => 0 - i) 0 (by omega) (weak_of (fun i => i) (fun i => i) rfl ⟨by simp [boxesR, listsR, csR, renC, keyC, optK, fnd, envR, St.get, keyPV, keyV1, renPV, renV1, hasKey, made_zero, numT] <;> omega, by simp [boxesR, listsR, csR, renC, keyC, optK, fnd, envR, St.get, keyPV, keyV1, renPV, renV1, hasKey, made_zero, numT] <;> omega, by simp [boxesR, listsR, csR, renC, keyC, optK, fnd, envR, St.get, keyPV, keyV1, renPV, renV1, hasKey, made_zero, numT] <;> omega, by simp [boxesR, listsR, csR, renC, keyC, optK, fnd, envR, St.get, keyPV, keyV1, renPV, renV1, hasKey, made_zero, numT] <;> omega, by simp [boxesR, listsR, csR, renC, keyC, optK, fnd, envR, St.get, keyPV, keyV1, renPV, renV1, hasKey, made_zero, numT] <;> omega⟩ (by simp [boxesR, listsR, csR, renC, keyC, optK, fnd, envR, St.get, keyPV, keyV1, renPV, renV1, hasKey, made_zero, numT] <;> omega)) (fun i hi => ?_)
  have nl := numT_len (a := (a : Int)) (b := (b : Int)) (by omega) (by omega) i
  have e0 : ((i : Int) < 0) = False := eq_false (by omega)
  have e1 : numT (a : Int) (b : Int) i = numT (a : Int) (b : Int) 0 := by rw [show i = 0 by omega]
  (repeat' (first | simp -implicitDefEqProofs only [e0, go_sem] | (refine And.intro ?_ ?_; omega) | (refine And.intro (shr_bd ?_ ?_) ?_; omega; omega) | refine sl_list rfl ?_ | refine sd_list rfl ?_ | refine sl_str ?_ | refine sd_str ?_))
  exact fin_scal rfl (by rw [e1])
theorem FormatAct_c (x : Ac) : PC Tryd.prog 10 [] [.a (actC x)] (.t [.c (.v (.string (sB (actT x)))), .c (.v (.bool (actOk x.k x.a x.b)))]) ⟨[], []⟩ := by
  obtain ⟨k, a', b'⟩ := x
  cases h : actOk k a' b' with
  | true =>
    obtain ⟨hk, ha, hb⟩ := act_cases h
    obtain ⟨a, rfl⟩ : ∃ a : Nat, a' = a := ⟨a'.toNat, by omega⟩
    obtain ⟨b, rfl⟩ : ∃ b : Nat, b' = b := ⟨b'.toNat, by omega⟩
    rcases hk with rfl | rfl | rfl | rfl | rfl
    · have e : actT ⟨1, (a : Int), (b : Int)⟩ = [106, 117, 109, 112] ++ numT a b 2 := by simp [actT, h, wordT, numsN]
      rw [e]
      exact FormatAct_1 a b h (by omega) (by omega)
    · have e : actT ⟨2, (a : Int), (b : Int)⟩ = [104, 105, 110, 116] ++ numT a b 1 := by simp [actT, h, wordT, numsN]
      rw [e]
      exact FormatAct_2 a b h (by omega) (by omega)
    · have e : actT ⟨3, (a : Int), (b : Int)⟩ = [98, 97, 99, 107] ++ numT a b 0 := by simp [actT, h, wordT, numsN]
      rw [e]
      exact FormatAct_3 a b h (by omega) (by omega)
    · have e : actT ⟨4, (a : Int), (b : Int)⟩ = [99, 108, 97, 105, 109] ++ numT a b 2 := by simp [actT, h, wordT, numsN]
      rw [e]
      exact FormatAct_4 a b h (by omega) (by omega)
    · have e : actT ⟨5, (a : Int), (b : Int)⟩ = [115, 116, 97, 116, 101] ++ numT a b 0 := by simp [actT, h, wordT, numsN]
      rw [e]
      exact FormatAct_5 a b h (by omega) (by omega)
  | false =>
    have e : actT ⟨k, a', b'⟩ = [] := by simp [actT, h]
    simp only [e]
    refine pc_of Tryd.func10 rfl (by kernel_rfl) _ Tryd.ntmps10 (by simp) ?_
    repeat' first
      | (first | simp -implicitDefEqProofs only [h, go_sem] | (refine And.intro ?_ ?_; omega) | (refine And.intro (shr_bd ?_ ?_) ?_; omega; omega) | refine sl_list rfl ?_ | refine sd_list rfl ?_ | refine sl_str ?_ | refine sd_str ?_)
      | refine callS (ActOk_c k a' b') rfl rfl rfl ?_
    exact fin_scal rfl rfl
end Go.Proofs.YtlplopaahflcpaaDoor
