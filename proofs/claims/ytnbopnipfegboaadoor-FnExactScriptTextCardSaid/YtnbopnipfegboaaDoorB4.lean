/-
  Scripts of acts: what ScriptText computes, and its law.
-/
import Derived.Test.YtnbopnipfegboaaDoorB3
import Derived.Test.YtnbopnipfegboaaDoorTAe
namespace Go.Proofs.YtnbopnipfegboaaDoor
open Go.PL
set_option linter.unusedSimpArgs false
set_option linter.unusedVariables false
def u8V (b : UInt8) : Value := .int .u8 (b.toNat : Int)
theorem bytes_u8 (l : List UInt8) : bytesL (l.map u8V) = some (l.map fun b => (b.toNat : Int)) := by
  have := bytesL_ns (ns := l.map fun b => (b.toNat : Int))
  rw [List.map_map] at this
  exact this
theorem u8_back (l : List UInt8) : ((l.map fun b => (b.toNat : Int)).map fun n : Int => UInt8.ofNat n.toNat) = l := by
  rw [List.map_map]
  have : ((fun n : Int => UInt8.ofNat n.toNat) ∘ fun b : UInt8 => (b.toNat : Int)) = id := by
    funext b
    simp
  rw [this, List.map_id]
theorem strCells_u8 (l : List UInt8) : Lib.strCells (sB l) = l.map u8V := by
  unfold Lib.strCells
  rw [sB_data]; rfl
def scrOk (l : List Ac) : Bool := decide (l.length ≤ 40) && l.all fun a => actOk a.k a.a a.b
def scrT (l : List Ac) : List UInt8 := l.flatMap fun a => actT a ++ [10]
def scrR (l : List Ac) : List UInt8 := if scrOk l = true then scrT l else []
theorem scrT_next {l : List Ac} {i : Nat} (h : i < l.length) : scrT (l.take (i + 1)) = scrT (l.take i) ++ (actT l[i] ++ [10]) := by
  unfold scrT
  rw [List.take_succ_eq_append_getElem h, List.flatMap_append, List.flatMap_cons, List.flatMap_nil, List.append_nil]
theorem scrT_len : ∀ l : List Ac, (scrT l).length ≤ 50 * l.length
  | [] => by simp [scrT]
  | a :: l => by
    have := scrT_len l
    have h := actT_len (a := a)
    simp only [scrT, List.flatMap_cons, List.length_append, List.length_cons, List.length_nil] at this ⊢
    omega
theorem scrOk_bad {l : List Ac} {i : Nat} (h : i < l.length) (hb : actOk l[i].k l[i].a l[i].b = false) : scrOk l = false := by
  unfold scrOk
  have : (l.all fun a => actOk a.k a.a a.b) = false := by
    rw [List.all_eq_false]
    exact ⟨l[i], List.getElem_mem h, by simp [hb]⟩
  rw [this, Bool.and_false]
set_option maxHeartbeats 4000000 in
theorem ScriptText_c (l : List Ac) : PC Tryd.prog 9 [] [.c (.l 3 (l.map actV))] (.t [.c (.v (.string (sB (scrR l)))), .c (.v (.bool (scrOk l)))]) ⟨[], []⟩ := by
  have q : strQ Tryd.prog 42 9 = true := by kernel_rfl
  by_cases h40 : 40 < l.length
  · have hp : 0 < l.length := by omega
    have e : scrOk l = false := by simp [scrOk]; omega
    have e2 : scrR l = [] := by simp [scrR, e]
    have e3 : ((40 : Int) < (l.length : Int)) = True := eq_true (by omega)
    have e4 : ((0 : Int) < (l.length : Int)) = True := eq_true (by omega)
    have g1 := map_get (f := actV) hp
    rw [e, e2]
    generalize l[0] = a at g1
    have fa := FormatAct_c a
    cases ha : actOk a.k a.a a.b <;> rw [ha] at fa
    all_goals
      refine pc_of Tryd.func9 rfl (by kernel_rfl) _ Tryd.ntmps9 (by simp) ?_
      (repeat' (first | simp -implicitDefEqProofs only [go_sem] | (refine And.intro ?_ ?_; omega) | (refine And.intro (shr_bd ?_ ?_) ?_; omega; omega) | refine sl_list rfl ?_ | refine sd_list rfl ?_ | refine sl_str ?_ | refine sd_str ?_))
      refine loop_step (X := Unit) (fun _ => ⟨36, [(0, vL 3 (l.map actV)), (2, vS []), (3, .s (.c (.v (.bool false)))), (4, vO 8), (5, vN 0)], ⟨[], [(8, ⟨5, 1, [], false, true⟩)]⟩⟩)
        (fun _ => True) (fun _ => 0) () trivial (weak_of (fun i => i) (fun i => i) rfl ⟨by simp [boxesR, listsR, csR, renC, keyC, optK, fnd, envR, St.get, keyPV, keyV1, renPV, renV1, hasKey, made_zero] <;> omega, by simp [boxesR, listsR, csR, renC, keyC, optK, fnd, envR, St.get, keyPV, keyV1, renPV, renV1, hasKey, made_zero] <;> omega, by simp [boxesR, listsR, csR, renC, keyC, optK, fnd, envR, St.get, keyPV, keyV1, renPV, renV1, hasKey, made_zero] <;> omega, by simp [boxesR, listsR, csR, renC, keyC, optK, fnd, envR, St.get, keyPV, keyV1, renPV, renV1, hasKey, made_zero] <;> omega, by simp [boxesR, listsR, csR, renC, keyC, optK, fnd, envR, St.get, keyPV, keyV1, renPV, renV1, hasKey, made_zero] <;> omega⟩ (by simp [boxesR, listsR, csR, renC, keyC, optK, fnd, envR, St.get, keyPV, keyV1, renPV, renV1, hasKey, made_zero] <;> omega)) (fun x hx => ?_)
      repeat' first
        | (first | simp -implicitDefEqProofs only [e3, e4, g1, actV, hp, go_sem] | (refine And.intro ?_ ?_; omega) | (refine And.intro (shr_bd ?_ ?_) ?_; omega; omega) | refine sl_list rfl ?_ | refine sd_list rfl ?_ | refine sl_str ?_ | refine sd_str ?_)
        | refine callS fa rfl rfl rfl ?_
      exact fin_scal rfl rfl
  have hl : l.length ≤ 40 := by omega
  have e3 : ((40 : Int) < (l.length : Int)) = False := eq_false (by omega)
  have hs0 : scrT (l.take 0) = [] := rfl
  have hs1 : scrT [] = [] := rfl
  refine pc_of Tryd.func9 rfl (by kernel_rfl) _ Tryd.ntmps9 (by simp) ?_
  (repeat' (first | simp -implicitDefEqProofs only [go_sem] | (refine And.intro ?_ ?_; omega) | (refine And.intro (shr_bd ?_ ?_) ?_; omega; omega) | refine sl_list rfl ?_ | refine sd_list rfl ?_ | refine sl_str ?_ | refine sd_str ?_))
  refine loop_step (X := Nat) (fun i => ⟨36, [(0, vL 3 (l.map actV)), (2, vS []), (3, .s (.c (.v (.bool false)))), (4, vO 8), (5, vN i)], ⟨[], [(8, ⟨5, 1, (scrT (l.take i)).map u8V, false, true⟩)]⟩⟩)
    (fun i => i ≤ l.length ∧ ∀ k (hk : k < l.length), k < i → actOk l[k].k l[k].a l[k].b = true) (fun i => l.length - i) 0 ⟨by omega, fun k _ h => by omega⟩ (weak_of (fun i => i) (fun i => i) rfl ⟨by simp [boxesR, listsR, csR, renC, keyC, optK, fnd, envR, St.get, keyPV, keyV1, renPV, renV1, hasKey, made_zero, hs0, hs1] <;> omega, by simp [boxesR, listsR, csR, renC, keyC, optK, fnd, envR, St.get, keyPV, keyV1, renPV, renV1, hasKey, made_zero, hs0, hs1] <;> omega, by simp [boxesR, listsR, csR, renC, keyC, optK, fnd, envR, St.get, keyPV, keyV1, renPV, renV1, hasKey, made_zero, hs0, hs1] <;> omega, by simp [boxesR, listsR, csR, renC, keyC, optK, fnd, envR, St.get, keyPV, keyV1, renPV, renV1, hasKey, made_zero, hs0, hs1] <;> omega, by simp [boxesR, listsR, csR, renC, keyC, optK, fnd, envR, St.get, keyPV, keyV1, renPV, renV1, hasKey, made_zero, hs0, hs1] <;> omega⟩ (by simp [boxesR, listsR, csR, renC, keyC, optK, fnd, envR, St.get, keyPV, keyV1, renPV, renV1, hasKey, made_zero, hs0, hs1] <;> omega)) (fun i hi => ?_)
  obtain ⟨hi1, hi2⟩ := hi
  by_cases hlt : i < l.length
  · have e0 : ((i : Int) < l.length) = True := eq_true (by omega)
    have g1 := map_get (f := actV) hlt
    have n1 := scrT_next hlt
    have bd := scrOk_bad hlt
    have ok1 : actOk l[i].k l[i].a l[i].b = true → ∀ k (hk : k < l.length), k < i + 1 → actOk l[k].k l[k].a l[k].b = true := fun h k hk hki => by
      by_cases hki' : k < i
      · exact hi2 k hk hki'
      · obtain rfl : k = i := by omega
        exact h
    have len1 := scrT_len (l.take i)
    have tl : (l.take i).length = i := List.length_take_of_le hi1
    have fa := FormatAct_c l[i]
    have al := actT_len (a := l[i])
    generalize l[i] = a at g1 n1 bd fa al ok1
    cases ha : actOk a.k a.a a.b with
    | false =>
      rw [ha] at fa
      have e := bd ha
      have e2 : scrR l = [] := by simp [scrR, e]
      rw [e, e2]
      repeat' first
        | (first | simp -implicitDefEqProofs only [e0, e3, g1, actV, hlt, go_sem] | (refine And.intro ?_ ?_; omega) | (refine And.intro (shr_bd ?_ ?_) ?_; omega; omega) | refine sl_list rfl ?_ | refine sd_list rfl ?_ | refine sl_str ?_ | refine sd_str ?_)
        | refine callS fa rfl rfl rfl ?_
      exact fin_scal rfl rfl
    | true =>
      rw [ha] at fa
      have z : (scrT (l.take i)).map u8V ++ (actT a ++ [10]).map u8V = (scrT (l.take (i + 1))).map u8V := by rw [n1]; simp
      have zl : (scrT (l.take i)).length + ((actT a).length + 1) ≤ 9223372036854775807 := by omega
      have zl2 : (scrT (l.take i)).length + ((actT a).length + 1) ≤ 140737488355328 := by omega
      repeat' first
        | (first | simp -implicitDefEqProofs only [e0, e3, g1, actV, hlt, q, strCells_u8, List.length_map, List.length_append, List.length_cons, List.length_nil, Nat.mul_one, zl, zl2, z, go_sem] | (refine And.intro ?_ ?_; omega) | (refine And.intro (shr_bd ?_ ?_) ?_; omega; omega) | refine sl_list rfl ?_ | refine sd_list rfl ?_ | refine sl_str ?_ | refine sd_str ?_)
        | refine callS fa rfl rfl rfl ?_
      exact ⟨i + 1, ⟨by omega, ok1 ha⟩, by omega, weak_of (fun i => i) (fun i => if i = 8 then 33 else i) rfl ⟨by simp [boxesR, listsR, csR, renC, keyC, optK, fnd, envR, St.get, keyPV, keyV1, renPV, renV1, hasKey, made_zero, n1] <;> omega, by simp [boxesR, listsR, csR, renC, keyC, optK, fnd, envR, St.get, keyPV, keyV1, renPV, renV1, hasKey, made_zero, n1] <;> omega, by simp [boxesR, listsR, csR, renC, keyC, optK, fnd, envR, St.get, keyPV, keyV1, renPV, renV1, hasKey, made_zero, n1] <;> omega, by simp [boxesR, listsR, csR, renC, keyC, optK, fnd, envR, St.get, keyPV, keyV1, renPV, renV1, hasKey, made_zero, n1] <;> omega, by simp [boxesR, listsR, csR, renC, keyC, optK, fnd, envR, St.get, keyPV, keyV1, renPV, renV1, hasKey, made_zero, n1] <;> omega⟩ (by simp [boxesR, listsR, csR, renC, keyC, optK, fnd, envR, St.get, keyPV, keyV1, renPV, renV1, hasKey, made_zero, n1] <;> omega)⟩
  · have e0 : ((i : Int) < l.length) = False := eq_false (by omega)
    obtain rfl : i = l.length := by omega
    have e : scrOk l = true := by
      unfold scrOk
      rw [Bool.and_eq_true, decide_eq_true_eq, List.all_eq_true]
      refine ⟨hl, fun a ha => ?_⟩
      obtain ⟨k, hk, rfl⟩ := List.mem_iff_getElem.1 ha
      exact hi2 k hk hk
    have e2 : scrR l = scrT l := by simp [scrR, e]
    have tl : l.take l.length = l := List.take_length
    rw [e, e2]
    rw [tl]
    repeat' first
      | (first | simp -implicitDefEqProofs only [e0, bytes_u8, u8_back, go_sem] | (refine And.intro ?_ ?_; omega) | (refine And.intro (shr_bd ?_ ?_) ?_; omega; omega) | refine sl_list rfl ?_ | refine sd_list rfl ?_ | refine sl_str ?_ | refine sd_str ?_)
    exact fin_scal rfl rfl
set_option maxHeartbeats 4000000 in
theorem iScriptText_c (l : List Ac) : PC Tryd.prog 11 [] [.c (.l 3 (l.map actV))] (.t [.c (.v (.string (sB (scrR l)))), .c (.v (.bool (scrOk l)))]) ⟨[], []⟩ := by
  by_cases h40 : 40 < l.length
  · have e : scrOk l = false := by simp [scrOk]; omega
    have e2 : scrR l = [] := by simp [scrR, e]
    have e3 : ((40 : Int) < (l.length : Int)) = True := eq_true (by omega)
    rw [e, e2]
    refine pc_of Tryd.func11 rfl (by kernel_rfl) _ Tryd.ntmps11 (by simp) ?_
    (repeat' (first | simp -implicitDefEqProofs only [e3, go_sem] | (refine And.intro ?_ ?_; omega) | (refine And.intro (shr_bd ?_ ?_) ?_; omega; omega) | refine sl_list rfl ?_ | refine sd_list rfl ?_ | refine sl_str ?_ | refine sd_str ?_))
    exact fin_scal rfl rfl
  have hl : l.length ≤ 40 := by omega
  have e3 : ((40 : Int) < (l.length : Int)) = False := eq_false (by omega)
  have hs0 : scrT (l.take 0) = [] := rfl
  have hs1 : scrT [] = [] := rfl
  refine pc_of Tryd.func11 rfl (by kernel_rfl) _ Tryd.ntmps11 (by simp) ?_
  (repeat' (first | simp -implicitDefEqProofs only [e3, go_sem] | (refine And.intro ?_ ?_; omega) | (refine And.intro (shr_bd ?_ ?_) ?_; omega; omega) | refine sl_list rfl ?_ | refine sd_list rfl ?_ | refine sl_str ?_ | refine sd_str ?_))
  refine loop_step (X := Nat) (fun i => ⟨31, [(2, vS []), (3, .s (.c (.v (.bool false)))), (4, vS (scrT (l.take i))), (12, vL 3 (l.map actV)), (13, vN l.length), (14, vN i)], ⟨[], []⟩⟩)
    (fun i => i ≤ l.length ∧ ∀ k (hk : k < l.length), k < i → actOk l[k].k l[k].a l[k].b = true) (fun i => l.length - i) 0 ⟨by omega, fun k _ h => by omega⟩ (weak_of (fun i => i) (fun i => i) rfl ⟨by simp [boxesR, listsR, csR, renC, keyC, optK, fnd, envR, St.get, keyPV, keyV1, renPV, renV1, hasKey, made_zero, hs0, hs1] <;> omega, by simp [boxesR, listsR, csR, renC, keyC, optK, fnd, envR, St.get, keyPV, keyV1, renPV, renV1, hasKey, made_zero, hs0, hs1] <;> omega, by simp [boxesR, listsR, csR, renC, keyC, optK, fnd, envR, St.get, keyPV, keyV1, renPV, renV1, hasKey, made_zero, hs0, hs1] <;> omega, by simp [boxesR, listsR, csR, renC, keyC, optK, fnd, envR, St.get, keyPV, keyV1, renPV, renV1, hasKey, made_zero, hs0, hs1] <;> omega, by simp [boxesR, listsR, csR, renC, keyC, optK, fnd, envR, St.get, keyPV, keyV1, renPV, renV1, hasKey, made_zero, hs0, hs1] <;> omega⟩ (by simp [boxesR, listsR, csR, renC, keyC, optK, fnd, envR, St.get, keyPV, keyV1, renPV, renV1, hasKey, made_zero, hs0, hs1] <;> omega)) (fun i hi => ?_)
  obtain ⟨hi1, hi2⟩ := hi
  by_cases hlt : i < l.length
  · have e0 : ((i : Int) < l.length) = True := eq_true (by omega)
    have g1 := map_get (f := actV) hlt
    have n1 := scrT_next hlt
    have bd := scrOk_bad hlt
    have ok1 : actOk l[i].k l[i].a l[i].b = true → ∀ k (hk : k < l.length), k < i + 1 → actOk l[k].k l[k].a l[k].b = true := fun h k hk hki => by
      by_cases hki' : k < i
      · exact hi2 k hk hki'
      · obtain rfl : k = i := by omega
        exact h
    have len1 := scrT_len (l.take i)
    have tl : (l.take i).length = i := List.length_take_of_le hi1
    have fa := iFormatAct_c l[i]
    have al := actT_len (a := l[i])
    generalize l[i] = a at g1 n1 bd fa al ok1
    cases ha : actOk a.k a.a a.b with
    | false =>
      rw [ha] at fa
      have e := bd ha
      have e2 : scrR l = [] := by simp [scrR, e]
      rw [e, e2]
      repeat' first
        | (first | simp -implicitDefEqProofs only [e0, g1, actV, hlt, go_sem] | (refine And.intro ?_ ?_; omega) | (refine And.intro (shr_bd ?_ ?_) ?_; omega; omega) | refine sl_list rfl ?_ | refine sd_list rfl ?_ | refine sl_str ?_ | refine sd_str ?_)
        | refine callS fa rfl rfl rfl ?_
      exact fin_scal rfl rfl
    | true =>
      rw [ha] at fa
      repeat' first
        | (first | simp -implicitDefEqProofs only [e0, g1, actV, hlt, go_sem] | (refine And.intro ?_ ?_; omega) | (refine And.intro (shr_bd ?_ ?_) ?_; omega; omega) | refine sl_list rfl ?_ | refine sd_list rfl ?_ | refine sl_str ?_ | refine sd_str ?_)
        | refine callS fa rfl rfl rfl ?_
      exact ⟨i + 1, ⟨by omega, ok1 ha⟩, by omega, weak_of (fun i => i) (fun i => i) rfl ⟨by simp [boxesR, listsR, csR, renC, keyC, optK, fnd, envR, St.get, keyPV, keyV1, renPV, renV1, hasKey, made_zero, n1] <;> omega, by simp [boxesR, listsR, csR, renC, keyC, optK, fnd, envR, St.get, keyPV, keyV1, renPV, renV1, hasKey, made_zero, n1] <;> omega, by simp [boxesR, listsR, csR, renC, keyC, optK, fnd, envR, St.get, keyPV, keyV1, renPV, renV1, hasKey, made_zero, n1] <;> omega, by simp [boxesR, listsR, csR, renC, keyC, optK, fnd, envR, St.get, keyPV, keyV1, renPV, renV1, hasKey, made_zero, n1] <;> omega, by simp [boxesR, listsR, csR, renC, keyC, optK, fnd, envR, St.get, keyPV, keyV1, renPV, renV1, hasKey, made_zero, n1] <;> omega⟩ (by simp [boxesR, listsR, csR, renC, keyC, optK, fnd, envR, St.get, keyPV, keyV1, renPV, renV1, hasKey, made_zero, n1] <;> omega)⟩
  · have e0 : ((i : Int) < l.length) = False := eq_false (by omega)
    obtain rfl : i = l.length := by omega
    have e : scrOk l = true := by
      unfold scrOk
      rw [Bool.and_eq_true, decide_eq_true_eq, List.all_eq_true]
      refine ⟨hl, fun a ha => ?_⟩
      obtain ⟨k, hk, rfl⟩ := List.mem_iff_getElem.1 ha
      exact hi2 k hk hk
    have e2 : scrR l = scrT l := by simp [scrR, e]
    have tl : l.take l.length = l := List.take_length
    rw [e, e2]
    rw [tl]
    (repeat' (first | simp -implicitDefEqProofs only [e0, go_sem] | (refine And.intro ?_ ?_; omega) | (refine And.intro (shr_bd ?_ ?_) ?_; omega; omega) | refine sl_list rfl ?_ | refine sd_list rfl ?_ | refine sl_str ?_ | refine sd_str ?_))
    exact fin_scal rfl rfl
set_option maxHeartbeats 4000000 in
theorem lawScriptText_c (l : List Ac) (hl : l.length ≤ maxLen) : PC Tryd.prog 4 [] [.c (.l 3 (l.map actV))] (vB true) ⟨[], []⟩ := by
  refine pc_of Tryd.func4 rfl (by kernel_rfl) _ Tryd.ntmps4 (by simp) ?_
  by_cases ha : (l.length : Int) ≤ 1048576
  rotate_left
  · repeat' first
      | (first | simp -implicitDefEqProofs only [ha, go_sem] | (refine And.intro ?_ ?_; omega) | (refine And.intro (shr_bd ?_ ?_) ?_; omega; omega) | refine sl_list rfl ?_ | refine sd_list rfl ?_ | refine sl_str ?_ | refine sd_str ?_)
      | refine callS (szActS_c l _ (by omega) (by omega) hl) rfl rfl rfl ?_
    all_goals exact fin_scal rfl rfl
  have e0 : ((1048576 : Int) - (l.length : Int) < 0) = False := by simp; omega
  repeat' first
    | (first | simp -implicitDefEqProofs only [ha, e0, go_sem] | (refine And.intro ?_ ?_; omega) | (refine And.intro (shr_bd ?_ ?_) ?_; omega; omega) | refine sl_list rfl ?_ | refine sd_list rfl ?_ | refine sl_str ?_ | refine sd_str ?_)
    | refine draw_stepY Tryd.pl_follows (by kernel_rfl) ?_
    | refine callS (szActS_c l _ (by omega) (by omega) hl) rfl rfl rfl ?_
    | refine callL1 (fun d => toActS_c d l (by omega)) rfl rfl rfl ?_
    | refine callS (ScriptText_c l) rfl rfl rfl ?_
    | refine callS (iScriptText_c l) rfl rfl rfl ?_
    | refine callS (eqActS_c l (by omega)) rfl rfl rfl ?_
  all_goals exact fin_scal rfl rfl
theorem fnExactScriptText.law_c {c : C} (h : TC (.l 3 true [.i .i64, .i .i64, .i .i64]) c) : PC Tryd.prog 4 [] [.c c] (vB true) ⟨[], []⟩ := by
  obtain ⟨l, rfl, hl⟩ := acts_of h
  exact lawScriptText_c l hl
end Go.Proofs.YtnbopnipfegboaaDoor
