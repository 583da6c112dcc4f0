/-
  What the functions compute that compare a list of texts, write it anew and read it again.
-/
import Derived.Test.YtmgfndejfeconaaGreatDoorB1
import Derived.Test.YtmgfndejfeconaaGreatDoorGa
namespace Go.Proofs.YtmgfndejfeconaaGreatDoor
open Go.PL
set_option linter.unusedSimpArgs false
set_option linter.unusedVariables false
theorem eqStringS_c (xs : List (List UInt8)) (hn : xs.length ≤ 4194304) : PC Tryz.prog 8 [] [.c (.l 1 (xs.map sV)), .c (.l 1 (xs.map sV))] (vB true) ⟨[], []⟩ := by
  refine pc_of Tryz.func8 rfl (by kernel_rfl) _ Tryz.ntmps8 (by simp) ?_
  (repeat' (first | simp -implicitDefEqProofs only [go_sem] | (refine And.intro ?_ ?_; omega) | (refine And.intro (shr_bd ?_ ?_) ?_; omega; omega) | refine sl_list rfl ?_ | refine sd_list rfl ?_ | refine sl_str ?_ | refine sd_str ?_))
  refine loop_step (X := Nat) (fun i => ⟨26, [(0, vL 1 (xs.map sV)), (1, vL 1 (xs.map sV)), (5, vN i)], ⟨[], []⟩⟩) (fun i => i ≤ xs.length) (fun i => xs.length - i) 0 (by omega) (weak_of (fun i => i) (fun i => i) rfl ⟨by simp [boxesR, listsR, csR, renC, keyC, optK, fnd, envR, St.get, keyPV, keyV1, renPV, renV1, hasKey, made_zero] <;> omega, by simp [boxesR, listsR, csR, renC, keyC, optK, fnd, envR, St.get, keyPV, keyV1, renPV, renV1, hasKey, made_zero] <;> omega, by simp [boxesR, listsR, csR, renC, keyC, optK, fnd, envR, St.get, keyPV, keyV1, renPV, renV1, hasKey, made_zero] <;> omega, by simp [boxesR, listsR, csR, renC, keyC, optK, fnd, envR, St.get, keyPV, keyV1, renPV, renV1, hasKey, made_zero] <;> omega, by simp [boxesR, listsR, csR, renC, keyC, optK, fnd, envR, St.get, keyPV, keyV1, renPV, renV1, hasKey, made_zero] <;> omega⟩ (by simp [boxesR, listsR, csR, renC, keyC, optK, fnd, envR, St.get, keyPV, keyV1, renPV, renV1, hasKey, made_zero] <;> omega)) (fun i hi => ?_)
  by_cases hlt : i < xs.length
  · have e0 : ((i : Int) < xs.length) = True := eq_true (by omega)
    have g1 := map_get (f := sV) hlt
    generalize xs[i] = x at g1
    repeat' first
      | (first | simp -implicitDefEqProofs only [e0, g1, hlt, sV, go_sem] | (refine And.intro ?_ ?_; omega) | (refine And.intro (shr_bd ?_ ?_) ?_; omega; omega) | refine sl_list rfl ?_ | refine sd_list rfl ?_ | refine sl_str ?_ | refine sd_str ?_)
      | refine draw_stepY Tryz.pl_follows (by kernel_rfl) ?_
    exact ⟨i + 1, by omega, by omega, weak_of (fun i => i) (fun i => i) rfl ⟨by simp [boxesR, listsR, csR, renC, keyC, optK, fnd, envR, St.get, keyPV, keyV1, renPV, renV1, hasKey, made_zero] <;> omega, by simp [boxesR, listsR, csR, renC, keyC, optK, fnd, envR, St.get, keyPV, keyV1, renPV, renV1, hasKey, made_zero] <;> omega, by simp [boxesR, listsR, csR, renC, keyC, optK, fnd, envR, St.get, keyPV, keyV1, renPV, renV1, hasKey, made_zero] <;> omega, by simp [boxesR, listsR, csR, renC, keyC, optK, fnd, envR, St.get, keyPV, keyV1, renPV, renV1, hasKey, made_zero] <;> omega, by simp [boxesR, listsR, csR, renC, keyC, optK, fnd, envR, St.get, keyPV, keyV1, renPV, renV1, hasKey, made_zero] <;> omega⟩ (by simp [boxesR, listsR, csR, renC, keyC, optK, fnd, envR, St.get, keyPV, keyV1, renPV, renV1, hasKey, made_zero] <;> omega)⟩
  · have e0 : ((i : Int) < xs.length) = False := eq_false (by omega)
    (repeat' (first | simp -implicitDefEqProofs only [e0, go_sem] | (refine And.intro ?_ ?_; omega) | (refine And.intro (shr_bd ?_ ?_) ?_; omega; omega) | refine sl_list rfl ?_ | refine sd_list rfl ?_ | refine sl_str ?_ | refine sd_str ?_))
    exact fin_scal rfl rfl
theorem markText_n (n : Nat) (h0 : 0 < n) (hn : n ≤ 9223372036854775807) : PC Tryz.prog 35 [] [.c (.v (.int .i64 (n : Int)))] (vS (109 :: itoa (n : Int))) ⟨[], []⟩ := by
  rw [itoa_nat]
  have e0 : ((n : Int) ≤ 0) = False := eq_false (by omega)
  have z : sB [] = ByteArray.empty := rfl
  refine pc_of Tryz.func35 rfl (by kernel_rfl) _ Tryz.ntmps35 (by simp) ?_
  (repeat' (first | simp -implicitDefEqProofs only [e0, go_sem] | (refine And.intro ?_ ?_; omega) | (refine And.intro (shr_bd ?_ ?_) ?_; omega; omega) | refine sl_list rfl ?_ | refine sd_list rfl ?_ | refine sl_str ?_ | refine sd_str ?_))
  refine loop_step (X := Nat × List UInt8) (fun x => ⟨20, [(0, vN x.1), (2, vS []), (3, vS x.2)], ⟨[], []⟩⟩)
    (fun x => DigOk n x.1 x.2) (fun x => x.1) (n, []) (dig_start (by omega)) (weak_of (fun i => i) (fun i => i) rfl ⟨by simp [boxesR, listsR, csR, renC, keyC, optK, fnd, envR, St.get, keyPV, keyV1, renPV, renV1, hasKey, made_zero] <;> omega, by simp [boxesR, listsR, csR, renC, keyC, optK, fnd, envR, St.get, keyPV, keyV1, renPV, renV1, hasKey, made_zero] <;> omega, by simp [boxesR, listsR, csR, renC, keyC, optK, fnd, envR, St.get, keyPV, keyV1, renPV, renV1, hasKey, made_zero] <;> omega, by simp [boxesR, listsR, csR, renC, keyC, optK, fnd, envR, St.get, keyPV, keyV1, renPV, renV1, hasKey, made_zero] <;> omega, by simp [boxesR, listsR, csR, renC, keyC, optK, fnd, envR, St.get, keyPV, keyV1, renPV, renV1, hasKey, made_zero] <;> omega⟩ (by simp [boxesR, listsR, csR, renC, keyC, optK, fnd, envR, St.get, keyPV, keyV1, renPV, renV1, hasKey, made_zero] <;> omega)) (fun x hx => ?_)
  obtain ⟨m, s⟩ := x
  simp only at hx
  have hm := hx.1
  have hs := hx.2.1
  by_cases hz : m = 0
  · have f0 : ((0 : Int) < (m : Int)) = False := eq_false (by omega)
    have he := dig_end (by rw [← hz]; exact hx)
    (repeat' (first | simp -implicitDefEqProofs only [f0, List.cons_append, List.nil_append, go_sem] | (refine And.intro ?_ ?_; omega) | (refine And.intro (shr_bd ?_ ?_) ?_; omega; omega) | refine sl_list rfl ?_ | refine sd_list rfl ?_ | refine sl_str ?_ | refine sd_str ?_))
    exact fin_scal rfl (by rw [he])
  · have f0 : ((0 : Int) < (m : Int)) = True := eq_true (by omega)
    have f2 : (m : Int) % 10 = ((m % 10 : Nat) : Int) := by omega
    have f3 : (m : Int) / 10 = ((m / 10 : Nat) : Int) := by omega
    have hd : m % 10 < 10 := Nat.mod_lt _ (by omega)
    repeat' first
      | (first | simp -implicitDefEqProofs only [f0, f2, f3, byte_one, List.reverse_singleton, List.length_cons, List.length_nil, List.cons_append, List.nil_append, go_sem] | (refine And.intro ?_ ?_; omega) | (refine And.intro (shr_bd ?_ ?_) ?_; omega; omega) | refine sl_list rfl ?_ | refine sd_list rfl ?_ | refine sl_str ?_ | refine sd_str ?_)
    exact ⟨(m / 10, UInt8.ofNat (48 + m % 10) :: s), dig_step hn hx hz, by simp only; omega, weak_of (fun i => i) (fun i => i) rfl ⟨by simp [boxesR, listsR, csR, renC, keyC, optK, fnd, envR, St.get, keyPV, keyV1, renPV, renV1, hasKey, made_zero] <;> omega, by simp [boxesR, listsR, csR, renC, keyC, optK, fnd, envR, St.get, keyPV, keyV1, renPV, renV1, hasKey, made_zero] <;> omega, by simp [boxesR, listsR, csR, renC, keyC, optK, fnd, envR, St.get, keyPV, keyV1, renPV, renV1, hasKey, made_zero] <;> omega, by simp [boxesR, listsR, csR, renC, keyC, optK, fnd, envR, St.get, keyPV, keyV1, renPV, renV1, hasKey, made_zero] <;> omega, by simp [boxesR, listsR, csR, renC, keyC, optK, fnd, envR, St.get, keyPV, keyV1, renPV, renV1, hasKey, made_zero] <;> omega⟩ (by simp [boxesR, listsR, csR, renC, keyC, optK, fnd, envR, St.get, keyPV, keyV1, renPV, renV1, hasKey, made_zero] <;> omega)⟩
theorem markText_c (k : Int) (h0 : 1 ≤ k) (h1 : k ≤ 1000000000000) : PC Tryz.prog 35 [] [.c (.v (.int .i64 k))] (vS (109 :: itoa k)) ⟨[], []⟩ := by
  obtain ⟨n, rfl⟩ : ∃ n : Nat, k = n := ⟨k.toNat, by omega⟩
  exact markText_n n (by omega) (by omega)
def mkStr (j : Nat) : Value := sV (109 :: itoa (1 + (j : Int)))
set_option maxHeartbeats 2000000 in
theorem markStringS_c (d : Nat) (xs : List (List UInt8)) (hn : xs.length ≤ 4194304) :
    PI Tryz.prog 11 [(d, ⟨9, 1, xs.map sV, false, true⟩)] [.c (.o d), .c (.v (.int .i64 1))] (.s (.c (.v (.int .i64 (1 + xs.length))))) ⟨[], [(d, ⟨9, 1, marks mkStr xs.length, false, true⟩)]⟩ := by
  refine pi_of Tryz.func11 rfl (by kernel_rfl) _ Tryz.ntmps11 (by simp) ?_
  simp -implicitDefEqProofs only [go_sem]
  refine loop_step (X := Nat) (fun i => ⟨20, [(0, vO d), (1, vN (1 + (i : Int))), (5, vN i)], ⟨[], [(d, ⟨9, 1, mkd mkStr (xs.map sV) i, false, true⟩)]⟩⟩)
    (fun i => i ≤ xs.length) (fun i => xs.length - i) 0 (by omega) (weak_of (fun i => i) (fun i => i) rfl ⟨by simp [boxesR, listsR, csR, renC, keyC, optK, fnd, envR, St.get, keyPV, keyV1, renPV, renV1, hasKey, made_zero, mkd_zero] <;> omega, by simp [boxesR, listsR, csR, renC, keyC, optK, fnd, envR, St.get, keyPV, keyV1, renPV, renV1, hasKey, made_zero, mkd_zero] <;> omega, by simp [boxesR, listsR, csR, renC, keyC, optK, fnd, envR, St.get, keyPV, keyV1, renPV, renV1, hasKey, made_zero, mkd_zero] <;> omega, by simp [boxesR, listsR, csR, renC, keyC, optK, fnd, envR, St.get, keyPV, keyV1, renPV, renV1, hasKey, made_zero, mkd_zero] <;> omega, by simp [boxesR, listsR, csR, renC, keyC, optK, fnd, envR, St.get, keyPV, keyV1, renPV, renV1, hasKey, made_zero, mkd_zero] <;> omega⟩ (by simp [boxesR, listsR, csR, renC, keyC, optK, fnd, envR, St.get, keyPV, keyV1, renPV, renV1, hasKey, made_zero, mkd_zero] <;> omega)) (fun i hi => ?_)
  have hml := mkd_len (f := mkStr) (l := xs.map sV) (i := i) (by simpa using hi)
  have hml' : (mkd mkStr (xs.map sV) i).length = xs.length := by simpa using hml
  by_cases hlt : i < xs.length
  · have e0 : ((i : Int) < xs.length) = True := eq_true (by omega)
    have hg : (mkd mkStr (xs.map sV) i)[i]? = some (sV xs[i]) := by rw [mkd_get, map_get hlt]
    repeat' first
      | (first | simp -implicitDefEqProofs only [e0, hml', hg, hlt, go_sem] | (refine And.intro ?_ ?_; omega) | (refine And.intro (shr_bd ?_ ?_) ?_; omega; omega) | refine sl_list rfl ?_ | refine sd_list rfl ?_ | refine sl_str ?_ | refine sd_str ?_)
      | refine callS (markText_c (1 + (i : Int)) (by omega) (by omega)) rfl rfl rfl ?_
    have e : mkd mkStr (xs.map sV) (i + 1) = (mkd mkStr (xs.map sV) i).set i (.string (sB (109 :: itoa (1 + (i : Int))))) := by
      rw [← mkd_set (by simpa using hlt)]
      rfl
    have e2 : 1 + ((i : Int) + 1) = 1 + i + 1 := by omega
    exact ⟨i + 1, by omega, by omega, weak_of (fun i => i) (fun i => i) rfl ⟨by simp [boxesR, listsR, csR, renC, keyC, optK, fnd, envR, St.get, keyPV, keyV1, renPV, renV1, hasKey, made_zero, e, e2] <;> omega, by simp [boxesR, listsR, csR, renC, keyC, optK, fnd, envR, St.get, keyPV, keyV1, renPV, renV1, hasKey, made_zero, e, e2] <;> omega, by simp [boxesR, listsR, csR, renC, keyC, optK, fnd, envR, St.get, keyPV, keyV1, renPV, renV1, hasKey, made_zero, e, e2] <;> omega, by simp [boxesR, listsR, csR, renC, keyC, optK, fnd, envR, St.get, keyPV, keyV1, renPV, renV1, hasKey, made_zero, e, e2] <;> omega, by simp [boxesR, listsR, csR, renC, keyC, optK, fnd, envR, St.get, keyPV, keyV1, renPV, renV1, hasKey, made_zero, e, e2] <;> omega⟩ (by simp [boxesR, listsR, csR, renC, keyC, optK, fnd, envR, St.get, keyPV, keyV1, renPV, renV1, hasKey, made_zero, e, e2] <;> omega)⟩
  · have e0 : ((i : Int) < xs.length) = False := eq_false (by omega)
    obtain rfl : i = xs.length := by omega
    have e : mkd mkStr (xs.map sV) xs.length = marks mkStr xs.length := by
      have := mkd_end (f := mkStr) (l := xs.map sV)
      simpa using this
    (repeat' (first | simp -implicitDefEqProofs only [e, marks_len, e0, go_sem] | (refine And.intro ?_ ?_; omega) | (refine And.intro (shr_bd ?_ ?_) ?_; omega; omega) | refine sl_list rfl ?_ | refine sd_list rfl ?_ | refine sl_str ?_ | refine sd_str ?_))
    exact fin_of (fun i => i) (fun i => i) ⟨by simp [boxesR, listsR, csR, renC, keyC, optK, fnd, envR, St.get, keyPV, keyV1, renPV, renV1, hasKey, made_zero] <;> omega, by simp [boxesR, listsR, csR, renC, keyC, optK, fnd, envR, St.get, keyPV, keyV1, renPV, renV1, hasKey, made_zero] <;> omega, by simp [boxesR, listsR, csR, renC, keyC, optK, fnd, envR, St.get, keyPV, keyV1, renPV, renV1, hasKey, made_zero] <;> omega, by simp [boxesR, listsR, csR, renC, keyC, optK, fnd, envR, St.get, keyPV, keyV1, renPV, renV1, hasKey, made_zero] <;> omega, by simp [boxesR, listsR, csR, renC, keyC, optK, fnd, envR, St.get, keyPV, keyV1, renPV, renV1, hasKey, made_zero] <;> omega⟩ (by simp [boxesR, listsR, csR, renC, keyC, optK, fnd, envR, St.get, keyPV, keyV1, renPV, renV1, hasKey, made_zero] <;> omega) rfl
theorem heldStringS_c (n : Nat) (hn : n ≤ 4194304) :
    PC Tryz.prog 12 [] [.c (.l 1 (marks mkStr n)), .c (.v (.int .i64 1))] (.s (.c (.v (.int .i64 (1 + n))))) ⟨[], []⟩ := by
  refine pc_of Tryz.func12 rfl (by kernel_rfl) _ Tryz.ntmps12 (by simp) ?_
  simp -implicitDefEqProofs only [go_sem]
  refine loop_step (X := Nat) (fun i => ⟨22, [(0, vL 1 (marks mkStr n)), (1, vN (1 + (i : Int))), (5, vN i)], ⟨[], []⟩⟩)
    (fun i => i ≤ n) (fun i => n - i) 0 (by omega) (weak_of (fun i => i) (fun i => i) rfl ⟨by simp [boxesR, listsR, csR, renC, keyC, optK, fnd, envR, St.get, keyPV, keyV1, renPV, renV1, hasKey, made_zero] <;> omega, by simp [boxesR, listsR, csR, renC, keyC, optK, fnd, envR, St.get, keyPV, keyV1, renPV, renV1, hasKey, made_zero] <;> omega, by simp [boxesR, listsR, csR, renC, keyC, optK, fnd, envR, St.get, keyPV, keyV1, renPV, renV1, hasKey, made_zero] <;> omega, by simp [boxesR, listsR, csR, renC, keyC, optK, fnd, envR, St.get, keyPV, keyV1, renPV, renV1, hasKey, made_zero] <;> omega, by simp [boxesR, listsR, csR, renC, keyC, optK, fnd, envR, St.get, keyPV, keyV1, renPV, renV1, hasKey, made_zero] <;> omega⟩ (by simp [boxesR, listsR, csR, renC, keyC, optK, fnd, envR, St.get, keyPV, keyV1, renPV, renV1, hasKey, made_zero] <;> omega)) (fun i hi => ?_)
  by_cases hlt : i < n
  · have e0 : ((i : Int) < n) = True := eq_true (by omega)
    have hg := marks_get (f := mkStr) hlt
    repeat' first
      | (first | simp -implicitDefEqProofs only [e0, marks_len, hg, mkStr, hlt, go_sem] | (refine And.intro ?_ ?_; omega) | (refine And.intro (shr_bd ?_ ?_) ?_; omega; omega) | refine sl_list rfl ?_ | refine sd_list rfl ?_ | refine sl_str ?_ | refine sd_str ?_)
      | refine draw_stepY Tryz.pl_follows (by kernel_rfl) ?_
      | refine callS (markText_c (1 + (i : Int)) (by omega) (by omega)) rfl rfl rfl ?_
    have e9 : 1 + ((i : Int) + 1) = 1 + i + 1 := by omega
    exact ⟨i + 1, by omega, by omega, weak_of (fun i => i) (fun i => i) rfl ⟨by simp [boxesR, listsR, csR, renC, keyC, optK, fnd, envR, St.get, keyPV, keyV1, renPV, renV1, hasKey, made_zero, e9] <;> omega, by simp [boxesR, listsR, csR, renC, keyC, optK, fnd, envR, St.get, keyPV, keyV1, renPV, renV1, hasKey, made_zero, e9] <;> omega, by simp [boxesR, listsR, csR, renC, keyC, optK, fnd, envR, St.get, keyPV, keyV1, renPV, renV1, hasKey, made_zero, e9] <;> omega, by simp [boxesR, listsR, csR, renC, keyC, optK, fnd, envR, St.get, keyPV, keyV1, renPV, renV1, hasKey, made_zero, e9] <;> omega, by simp [boxesR, listsR, csR, renC, keyC, optK, fnd, envR, St.get, keyPV, keyV1, renPV, renV1, hasKey, made_zero, e9] <;> omega⟩ (by simp [boxesR, listsR, csR, renC, keyC, optK, fnd, envR, St.get, keyPV, keyV1, renPV, renV1, hasKey, made_zero, e9] <;> omega)⟩
  · have e0 : ((i : Int) < n) = False := eq_false (by omega)
    obtain rfl : i = n := by omega
    (repeat' (first | simp -implicitDefEqProofs only [marks_len, e0, go_sem] | (refine And.intro ?_ ?_; omega) | (refine And.intro (shr_bd ?_ ?_) ?_; omega; omega) | refine sl_list rfl ?_ | refine sd_list rfl ?_ | refine sl_str ?_ | refine sd_str ?_))
    exact fin_scal rfl rfl
end Go.Proofs.YtmgfndejfeconaaGreatDoor
