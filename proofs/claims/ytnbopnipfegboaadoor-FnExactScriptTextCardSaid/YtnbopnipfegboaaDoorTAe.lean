/-
  Acts as values.
  What the functions compute that copy a list of acts and measure it.
  What the functions compute that compare two equal lists of acts.
  What the functions compute that write a list of acts anew and read it again.
-/
import Derived.Test.YtnbopnipfegboaaDoorL1
import Derived.Test.YtnbopnipfegboaaDoorGa
namespace Go.Proofs.YtnbopnipfegboaaDoor
open Go.PL
set_option linter.unusedSimpArgs false
structure Ac where
  k : Int
  a : Int
  b : Int
def actV (r : Ac) : Value := .agg #[.int .i64 r.k, .int .i64 r.a, .int .i64 r.b]
abbrev actC (r : Ac) : List C := [.v (.int .i64 r.k), .v (.int .i64 r.a), .v (.int .i64 r.b)]
theorem ac_of {cs : List C} (h : All2 TC [.z (.i .i64), .z (.i .i64), .z (.i .i64)] cs) : ∃ l : Ac, cs = actC l := by
  obtain ⟨c1, r1, rfl, h1, g1⟩ := all2_cons h
  obtain ⟨c2, r2, rfl, h2, g2⟩ := all2_cons g1
  obtain ⟨c3, r3, rfl, h3, g3⟩ := all2_cons g2
  obtain rfl := all2_nil g3
  obtain ⟨a, rfl, _⟩ := tc_i h1
  obtain ⟨b, rfl, _⟩ := tc_i h2
  obtain ⟨c, rfl, _⟩ := tc_i h3
  exact ⟨⟨a, b, c⟩, rfl⟩
theorem acts_of {c : C} (h : TC (.l 3 true [.i .i64, .i .i64, .i .i64]) c) : ∃ l : List Ac, c = .l 3 (l.map actV) ∧ l.length ≤ maxLen := by
  obtain ⟨xs, rfl, hl, hx⟩ := tc_l h
  obtain ⟨rs, rfl, hr⟩ := list_of actV (fun _ => True) (xs := xs) (fun x hm => by
    obtain ⟨cs, rfl, h⟩ := hx x hm
    obtain ⟨c1, r1, rfl, ⟨a, rfl, ha⟩, h1⟩ := all2_cons h
    obtain ⟨c2, r2, rfl, ⟨b, rfl, hb⟩, h2⟩ := all2_cons h1
    obtain ⟨c3, r3, rfl, ⟨c, rfl, hc⟩, h3⟩ := all2_cons h2
    obtain rfl := all2_nil h3
    exact ⟨⟨a, b, c⟩, rfl, trivial⟩)
  exact ⟨rs, rfl, by simpa using hl⟩
theorem ints_of {c : C} (h : TC (.l 1 false [.i .i64]) c) : ∃ l : List Int, c = .l 1 (l.map (fun n => Value.int .i64 n)) ∧ l.length ≤ maxLen := by
  obtain ⟨xs, rfl, hl, hx⟩ := tc_l h
  obtain ⟨rs, rfl, hr⟩ := list_of (fun n => Value.int .i64 n) (fun _ => True) (xs := xs) (fun x hm => by
    obtain ⟨k, hk, h⟩ := hx x hm
    obtain rfl := (List.cons.inj hk).1.symm
    obtain ⟨a, rfl, ha⟩ := h
    exact ⟨a, rfl, trivial⟩)
  exact ⟨rs, rfl, by simpa using hl⟩
end Go.Proofs.YtnbopnipfegboaaDoor
namespace Go.Proofs.YtnbopnipfegboaaDoor
open Go.PL
set_option linter.unusedSimpArgs false
theorem toActS_c (d : Nat) (xs : List Ac) (hn : xs.length ≤ 1048576) : PC Tryd.prog 10 [] [.c (.l 3 (xs.map actV))] (.s (.c (.o d))) ⟨[], [(d, ⟨26, 3, xs.map actV, false, true⟩)]⟩ := by
  refine pc_of Tryd.func10 rfl (by kernel_rfl) _ Tryd.ntmps10 (by simp) ?_
  simp -implicitDefEqProofs only [go_sem]
  refine ⟨by omega, ?_⟩
  refine loop_step (X := Nat) (fun i => ⟨23, [(0, vL 3 (xs.map actV)), (3, vO 7), (4, vN i)], ⟨[], [(7, ⟨26, 3, made actV (.agg #[.int .i64 0, .int .i64 0, .int .i64 0]) xs i, false, true⟩)]⟩⟩)
    (fun i => i ≤ xs.length) (fun i => xs.length - i) 0 (by simp) (weak_of (fun i => i) (fun i => i) rfl ⟨by simp [boxesR, listsR, csR, renC, keyC, optK, fnd, envR, St.get, keyPV, keyV1, renPV, renV1, hasKey, made_zero] <;> omega, by simp [boxesR, listsR, csR, renC, keyC, optK, fnd, envR, St.get, keyPV, keyV1, renPV, renV1, hasKey, made_zero] <;> omega, by simp [boxesR, listsR, csR, renC, keyC, optK, fnd, envR, St.get, keyPV, keyV1, renPV, renV1, hasKey, made_zero] <;> omega, by simp [boxesR, listsR, csR, renC, keyC, optK, fnd, envR, St.get, keyPV, keyV1, renPV, renV1, hasKey, made_zero] <;> omega, by simp [boxesR, listsR, csR, renC, keyC, optK, fnd, envR, St.get, keyPV, keyV1, renPV, renV1, hasKey, made_zero] <;> omega⟩ (by simp [boxesR, listsR, csR, renC, keyC, optK, fnd, envR, St.get, keyPV, keyV1, renPV, renV1, hasKey, made_zero] <;> omega)) (fun i hi => ?_)
  simp -implicitDefEqProofs only [go_sem]
  refine if_split (fun h => ?_) (fun h => ?_)
  · have hlt : i < xs.length := by simpa using h
    simp -implicitDefEqProofs only [map_get hlt, actV, go_sem]
    refine callS (toAct_c xs[i].k xs[i].a xs[i].b) rfl rfl rfl ?_
    simp -implicitDefEqProofs only [made_len hi, hlt, go_sem]
    have hs : (made actV (.agg #[.int .i64 0, .int .i64 0, .int .i64 0]) xs i).set i (.agg #[.int .i64 xs[i].k, .int .i64 xs[i].a, .int .i64 xs[i].b]) = made actV _ xs (i + 1) := made_set hlt
    rw [hs]
    exact ⟨by omega, i + 1, by omega, by omega, weak_of (fun i => i) (fun i => i) rfl ⟨by simp [boxesR, listsR, csR, renC, keyC, optK, fnd, envR, St.get, keyPV, keyV1, renPV, renV1, hasKey, made_zero] <;> omega, by simp [boxesR, listsR, csR, renC, keyC, optK, fnd, envR, St.get, keyPV, keyV1, renPV, renV1, hasKey, made_zero] <;> omega, by simp [boxesR, listsR, csR, renC, keyC, optK, fnd, envR, St.get, keyPV, keyV1, renPV, renV1, hasKey, made_zero] <;> omega, by simp [boxesR, listsR, csR, renC, keyC, optK, fnd, envR, St.get, keyPV, keyV1, renPV, renV1, hasKey, made_zero] <;> omega, by simp [boxesR, listsR, csR, renC, keyC, optK, fnd, envR, St.get, keyPV, keyV1, renPV, renV1, hasKey, made_zero] <;> omega⟩ (by simp [boxesR, listsR, csR, renC, keyC, optK, fnd, envR, St.get, keyPV, keyV1, renPV, renV1, hasKey, made_zero] <;> omega)⟩
  · have hle : i = xs.length := by simp at h; omega
    subst hle
    simp -implicitDefEqProofs only [made_end, go_sem]
    exact fin_of (fun i => i) (fun i => 7) ⟨by simp [boxesR, listsR, csR, renC, keyC, optK, fnd, envR, St.get, keyPV, keyV1, renPV, renV1, hasKey, made_zero] <;> omega, by simp [boxesR, listsR, csR, renC, keyC, optK, fnd, envR, St.get, keyPV, keyV1, renPV, renV1, hasKey, made_zero] <;> omega, by simp [boxesR, listsR, csR, renC, keyC, optK, fnd, envR, St.get, keyPV, keyV1, renPV, renV1, hasKey, made_zero] <;> omega, by simp [boxesR, listsR, csR, renC, keyC, optK, fnd, envR, St.get, keyPV, keyV1, renPV, renV1, hasKey, made_zero] <;> omega, by simp [boxesR, listsR, csR, renC, keyC, optK, fnd, envR, St.get, keyPV, keyV1, renPV, renV1, hasKey, made_zero] <;> omega⟩ (by simp [boxesR, listsR, csR, renC, keyC, optK, fnd, envR, St.get, keyPV, keyV1, renPV, renV1, hasKey, made_zero] <;> omega) rfl
theorem szActS_c (xs : List Ac) (left : Int) (h0 : 0 ≤ left) (h1 : left ≤ 1048576) (hn : xs.length ≤ maxLen) : PC Tryd.prog 8 [] [.c (.l 3 (xs.map actV)), .c (.v (.int .i64 left))] (.s (.c (.v (.int .i64 (if (xs.length : Int) ≤ left then left - xs.length else -1))))) ⟨[], []⟩ := by
  refine pc_of Tryd.func8 rfl (by kernel_rfl) _ Tryd.ntmps8 (by simp) ?_
  simp only [maxLen] at hn
  repeat' first
    | simp -implicitDefEqProofs only [go_sem]
    | refine if_splitP (fun h => ?_) (fun h => ?_) | refine if_splitN (fun h => ?_) (fun h => ?_) | refine if_split (fun h => ?_) (fun h => ?_) | refine grd_splitP (fun h => ?_) (fun h => ?_) | refine grd_splitN (fun h => ?_) (fun h => ?_) | refine grd_split (fun h => ?_) (fun h => ?_) | refine grdX_splitP (fun h => ?_) (fun h => ?_) | refine grdX_splitN (fun h => ?_) (fun h => ?_) | refine grdX_split (fun h => ?_) (fun h => ?_) | refine grdY_splitP (fun h => ?_) (fun h => ?_) | refine grdY_splitN (fun h => ?_) (fun h => ?_) | refine grdY_split (fun h => ?_) (fun h => ?_)
    | (refine And.intro ?_ ?_; omega)
  · exact fin_scal rfl (by rw [if_neg (by omega)])
  · exact fin_scal rfl (by rw [if_pos (by omega)])
end Go.Proofs.YtnbopnipfegboaaDoor
namespace Go.Proofs.YtnbopnipfegboaaDoor
open Go.PL
set_option linter.unusedSimpArgs false
theorem eqAct_c (r : Ac) : PC Tryd.prog 20 [] [.a (actC r), .a (actC r)] (vB true) ⟨[], []⟩ := by
  refine pc_of Tryd.func20 rfl (by kernel_rfl) _ Tryd.ntmps20 (by simp) ?_
  simp -implicitDefEqProofs only [go_sem]
  exact fin_scal rfl rfl
theorem eqActS_c (xs : List Ac) (hn : xs.length ≤ 4194304) : PC Tryd.prog 12 [] [.c (.l 3 (xs.map actV)), .c (.l 3 (xs.map actV))] (vB true) ⟨[], []⟩ := by
  refine pc_of Tryd.func12 rfl (by kernel_rfl) _ Tryd.ntmps12 (by simp) ?_
  simp -implicitDefEqProofs only [go_sem]
  refine loop_step (X := Nat) (fun i => ⟨27, [(0, vL 3 (xs.map actV)), (1, vL 3 (xs.map actV)), (5, vN i)], ⟨[], []⟩⟩)
    (fun i => i ≤ xs.length) (fun i => xs.length - i) 0 (by omega) (weak_of (fun i => i) (fun i => i) rfl ⟨by simp [boxesR, listsR, csR, renC, keyC, optK, fnd, envR, St.get, keyPV, keyV1, renPV, renV1, hasKey, made_zero] <;> omega, by simp [boxesR, listsR, csR, renC, keyC, optK, fnd, envR, St.get, keyPV, keyV1, renPV, renV1, hasKey, made_zero] <;> omega, by simp [boxesR, listsR, csR, renC, keyC, optK, fnd, envR, St.get, keyPV, keyV1, renPV, renV1, hasKey, made_zero] <;> omega, by simp [boxesR, listsR, csR, renC, keyC, optK, fnd, envR, St.get, keyPV, keyV1, renPV, renV1, hasKey, made_zero] <;> omega, by simp [boxesR, listsR, csR, renC, keyC, optK, fnd, envR, St.get, keyPV, keyV1, renPV, renV1, hasKey, made_zero] <;> omega⟩ (by simp [boxesR, listsR, csR, renC, keyC, optK, fnd, envR, St.get, keyPV, keyV1, renPV, renV1, hasKey, made_zero] <;> omega)) (fun i hi => ?_)
  simp -implicitDefEqProofs only [go_sem]
  refine if_splitP (fun h => ?_) (fun h => ?_)
  · have hlt : i < xs.length := by omega
    have h1 := map_get (f := actV) hlt
    repeat' first
      | simp -implicitDefEqProofs only [*, actV, go_sem]
      | refine draw_step Tryd.pl_follows (by kernel_rfl) ?_
      | refine callD (eqAct_c _) rfl rfl rfl ?_
      | (refine And.intro ?_ ?_; omega)
    exact ⟨i + 1, by omega, by omega, weak_of (fun i => i) (fun i => i) rfl ⟨by simp [boxesR, listsR, csR, renC, keyC, optK, fnd, envR, St.get, keyPV, keyV1, renPV, renV1, hasKey, made_zero] <;> omega, by simp [boxesR, listsR, csR, renC, keyC, optK, fnd, envR, St.get, keyPV, keyV1, renPV, renV1, hasKey, made_zero] <;> omega, by simp [boxesR, listsR, csR, renC, keyC, optK, fnd, envR, St.get, keyPV, keyV1, renPV, renV1, hasKey, made_zero] <;> omega, by simp [boxesR, listsR, csR, renC, keyC, optK, fnd, envR, St.get, keyPV, keyV1, renPV, renV1, hasKey, made_zero] <;> omega, by simp [boxesR, listsR, csR, renC, keyC, optK, fnd, envR, St.get, keyPV, keyV1, renPV, renV1, hasKey, made_zero] <;> omega⟩ (by simp [boxesR, listsR, csR, renC, keyC, optK, fnd, envR, St.get, keyPV, keyV1, renPV, renV1, hasKey, made_zero] <;> omega)⟩
  · simp -implicitDefEqProofs only [go_sem]
    exact fin_scal rfl rfl
end Go.Proofs.YtnbopnipfegboaaDoor
namespace Go.Proofs.YtnbopnipfegboaaDoor
open Go.PL
set_option linter.unusedSimpArgs false
def mkAct (k : Int) (j : Nat) : Value := .agg #[.int .i64 (k + 3 * j), .int .i64 (k + 3 * j + 1), .int .i64 (k + 3 * j + 2)]
end Go.Proofs.YtnbopnipfegboaaDoor
