/-
  Draws of records and of clocks.
-/
import Derived.Test.YtggejdgohkfmmaaGreatD1
import Derived.Test.YtggejdgohkfmmaaGreatL2
import Derived.Test.YtggejdgohkfmmaaGreatL4
namespace Go.Proofs.YtggejdgohkfmmaaGreat
open Go.PL
set_option linter.unusedSimpArgs false
def iter {α : Type} (f : α → α) : Nat → α → α
  | 0, s => s
  | n + 1, s => f (iter f n s)
/-- what is kept while records are drawn: the last puzzle's number, the records, the cursor -/
structure LS (B : Bs) where
  a : Int
  o : List Rec
  c : Cr B
noncomputable def lsR {B : Bs} (s : LS B) : Rec := ⟨s.a + 1 + belN s.c 3, 1 + belN (belC s.c 3) 4, 1 + belN (belC (belC s.c 3) 4) 12, belN (belC (belC (belC s.c 3) 4) 12) 100⟩
noncomputable def ls1 {B : Bs} (s : LS B) : LS B := ⟨s.a + 1 + belN s.c 3, s.o ++ [lsR s], belC (belC (belC (belC s.c 3) 4) 12) 100⟩
noncomputable def lsI {B : Bs} (c : Cr B) (i : Nat) : LS B := iter ls1 i ⟨0, [], belC c 6⟩
structure LsOk {B : Bs} (i : Nat) (s : LS B) : Prop where
  len : s.o.length = i
  a0 : 0 ≤ s.a
  a1 : s.a ≤ 3 * i
  rcd : ∀ r ∈ s.o, 1 ≤ r.p ∧ r.p ≤ s.a ∧ recOk r = true ∧ r.s ≤ 12 ∧ r.h ≤ 4
  srt : ∀ j, j < s.o.length → goodAt s.o j = true
theorem goodAt_snoc {rs : List Rec} {r : Rec} {j : Nat} (h : j < rs.length) : goodAt (rs ++ [r]) j = goodAt rs j := by
  have e1 : (rs ++ [r])[j]? = rs[j]? := List.getElem?_append_left h
  have e2 : (rs ++ [r])[j - 1]? = rs[j - 1]? := List.getElem?_append_left (by omega)
  unfold goodAt
  rw [e1, e2]
theorem goodAt_last {rs : List Rec} {r : Rec} (hr : recOk r = true) (h : ∀ q ∈ rs, q.p < r.p) : goodAt (rs ++ [r]) rs.length = true := by
  have hl : rs.length < (rs ++ [r]).length := by simp
  rw [goodAt_eq hl]
  have e1 : (rs ++ [r])[rs.length] = r := by simp
  rw [e1, hr, Bool.true_and]
  by_cases h0 : rs.length = 0
  · simp [h0]
  · have h2 : rs.length - 1 < rs.length := by omega
    have e2 : (rs ++ [r])[rs.length - 1]'(by omega) = rs[rs.length - 1] := List.getElem_append_left h2
    rw [e2]
    have := h rs[rs.length - 1] (List.getElem_mem h2)
    simp [this]
theorem lsI_ok {B : Bs} (c : Cr B) : ∀ i, i ≤ 30 → LsOk i (lsI c i)
  | 0, _ => ⟨rfl, by simp [lsI, iter], by simp [lsI, iter], by simp [lsI, iter], by simp [lsI, iter]⟩
  | i + 1, hi => by
    have ih := lsI_ok c i (by omega)
    have e : lsI c (i + 1) = ls1 (lsI c i) := rfl
    rw [e]
    generalize lsI c i = s at ih
    have b1 := bel_rg s.c (n := 3) (by omega)
    have b2 := bel_rg (belC s.c 3) (n := 4) (by omega)
    have b3 := bel_rg (belC (belC s.c 3) 4) (n := 12) (by omega)
    have b4 := bel_rg (belC (belC (belC s.c 3) 4) 12) (n := 100) (by omega)
    have a0 := ih.a0
    have a1 := ih.a1
    have hr : recOk (lsR s) = true := by
      simp only [recOk, lsR, Bool.and_eq_true, within_iff]
      omega
    have hp : (lsR s).p = s.a + 1 + belN s.c 3 := rfl
    have hs : (lsR s).s = 1 + belN (belC (belC s.c 3) 4) 12 := rfl
    have hh : (lsR s).h = 1 + belN (belC s.c 3) 4 := rfl
    have ea : (ls1 s).a = s.a + 1 + belN s.c 3 := rfl
    have eo : (ls1 s).o = s.o ++ [lsR s] := rfl
    refine ⟨by rw [eo]; simp [ih.len], by rw [ea]; omega, by rw [ea]; omega, fun r hm => ?_, fun j hj => ?_⟩
    · rw [eo] at hm
      rcases List.mem_append.1 hm with hm | hm
      · have := ih.rcd r hm
        exact ⟨this.1, by rw [ea]; omega, this.2.2.1, this.2.2.2⟩
      · simp only [List.mem_singleton] at hm
        subst hm
        exact ⟨by omega, by rw [ea]; omega, hr, by omega, by omega⟩
    · rw [eo] at hj ⊢
      have hl : (s.o ++ [lsR s]).length = s.o.length + 1 := by simp
      by_cases ej : j = s.o.length
      · subst ej
        exact goodAt_last hr fun q hq => by have := (ih.rcd q hq).2.1; omega
      · rw [goodAt_snoc (by omega)]
        exact ih.srt j (by omega)
/-- what is said of drawn records -/
structure RsOk (rs : List Rec) : Prop where
  ok : recordsOk rs = true
  len : rs.length ≤ 5
  rcd : ∀ r ∈ rs, 1 ≤ r.p ∧ r.p ≤ 15 ∧ r.s ≤ 12 ∧ r.h ≤ 4
set_option maxHeartbeats 4000000 in
theorem recs_ex {B : Bs} (c : Cr B) : ∃ (rs : List Rec) (c' : Cr B), RsOk rs ∧ PC Tryz.prog 95 [(9000, crC c)] [.c (.p 9000 0)] (.s (.c (.l 4 (rs.map recV)))) ⟨[(9000, crC c')], []⟩ := by
  have b0 := bel_rg c (n := 6) (by omega)
  refine ⟨(lsI c (belN c 6).toNat).o, (lsI c (belN c 6).toNat).c, ?_, ?_⟩
  · have h := lsI_ok c (belN c 6).toNat (by omega)
    refine ⟨?_, by rw [h.len]; omega, fun r hr => ?_⟩
    · have h1 := recordsOk_end (rs := (lsI c (belN c 6).toNat).o) h.srt
      rw [h1, h.len]
      simp; omega
    · have := h.rcd r hr
      have := h.a1
      omega
  · refine pc_of Tryz.func95 rfl (by kernel_rfl) _ Tryz.ntmps95 (by simp) ?_
    repeat' first
      | (first | simp -implicitDefEqProofs only [go_sem] | (refine And.intro ?_ ?_; omega) | (refine And.intro (shr_bd ?_ ?_) ?_; omega; omega) | refine sl_list rfl ?_ | refine sd_list rfl ?_ | refine sl_str ?_ | refine sd_str ?_)
      | refine callC (bel_c c 6) rfl rfl rfl rfl rfl ?_
    refine loop_step (X := Nat) (fun i => ⟨34, [(0, .s (.c (.p 9000 0))), (3, vO 7), (4, vN (lsI c i).a), (5, vN (belN c 6)), (6, vN i)], ⟨[(9000, crC (lsI c i).c)], [(7, ⟨98, 4, (lsI c i).o.map recV, true, true⟩)]⟩⟩)
      (fun i => (i : Int) ≤ belN c 6) (fun i => (belN c 6).toNat - i) 0 (by simp; omega) (weak_of (fun i => i) (fun i => i) rfl ⟨by simp [boxesR, listsR, csR, renC, keyC, optK, fnd, envR, St.get, keyPV, keyV1, renPV, renV1, hasKey, made_zero, lsI, iter] <;> omega, by simp [boxesR, listsR, csR, renC, keyC, optK, fnd, envR, St.get, keyPV, keyV1, renPV, renV1, hasKey, made_zero, lsI, iter] <;> omega, by simp [boxesR, listsR, csR, renC, keyC, optK, fnd, envR, St.get, keyPV, keyV1, renPV, renV1, hasKey, made_zero, lsI, iter] <;> omega, by simp [boxesR, listsR, csR, renC, keyC, optK, fnd, envR, St.get, keyPV, keyV1, renPV, renV1, hasKey, made_zero, lsI, iter] <;> omega, by simp [boxesR, listsR, csR, renC, keyC, optK, fnd, envR, St.get, keyPV, keyV1, renPV, renV1, hasKey, made_zero, lsI, iter] <;> omega⟩ (by simp [boxesR, listsR, csR, renC, keyC, optK, fnd, envR, St.get, keyPV, keyV1, renPV, renV1, hasKey, made_zero, lsI, iter] <;> omega)) (fun i hi => ?_)
    have h := lsI_ok c i (by omega)
    have hl := h.len
    have a0 := h.a0
    have a1 := h.a1
    have e : lsI c (i + 1) = ls1 (lsI c i) := rfl
    have b1 := bel_rg (lsI c i).c (n := 3) (by omega)
    have b2 := bel_rg (belC (lsI c i).c 3) (n := 4) (by omega)
    have b3 := bel_rg (belC (belC (lsI c i).c 3) 4) (n := 12) (by omega)
    have b4 := bel_rg (belC (belC (belC (lsI c i).c 3) 4) 12) (n := 100) (by omega)
    simp -implicitDefEqProofs only [go_sem]
    refine if_splitP (fun hlt => ?_) (fun hlt => ?_)
    · repeat' first
        | (first | simp -implicitDefEqProofs only [go_sem] | (refine And.intro ?_ ?_; omega) | (refine And.intro (shr_bd ?_ ?_) ?_; omega; omega) | refine sl_list rfl ?_ | refine sd_list rfl ?_ | refine sl_str ?_ | refine sd_str ?_)
        | refine callC (bel_c (lsI c i).c 3) rfl rfl rfl rfl rfl ?_
        | refine callC (bel_c (belC (lsI c i).c 3) 4) rfl rfl rfl rfl rfl ?_
        | refine callC (bel_c (belC (belC (lsI c i).c 3) 4) 12) rfl rfl rfl rfl rfl ?_
        | refine callC (bel_c (belC (belC (belC (lsI c i).c 3) 4) 12) 100) rfl rfl rfl rfl rfl ?_
      exact ⟨i + 1, by omega, by omega, weak_of (fun i => i) (fun i => if i = 7 then 32 else i) rfl ⟨by simp [boxesR, listsR, csR, renC, keyC, optK, fnd, envR, St.get, keyPV, keyV1, renPV, renV1, hasKey, made_zero, e, ls1, lsR, recV] <;> omega, by simp [boxesR, listsR, csR, renC, keyC, optK, fnd, envR, St.get, keyPV, keyV1, renPV, renV1, hasKey, made_zero, e, ls1, lsR, recV] <;> omega, by simp [boxesR, listsR, csR, renC, keyC, optK, fnd, envR, St.get, keyPV, keyV1, renPV, renV1, hasKey, made_zero, e, ls1, lsR, recV] <;> omega, by simp [boxesR, listsR, csR, renC, keyC, optK, fnd, envR, St.get, keyPV, keyV1, renPV, renV1, hasKey, made_zero, e, ls1, lsR, recV] <;> omega, by simp [boxesR, listsR, csR, renC, keyC, optK, fnd, envR, St.get, keyPV, keyV1, renPV, renV1, hasKey, made_zero, e, ls1, lsR, recV] <;> omega⟩ (by simp [boxesR, listsR, csR, renC, keyC, optK, fnd, envR, St.get, keyPV, keyV1, renPV, renV1, hasKey, made_zero, e, ls1, lsR, recV] <;> omega)⟩
    · have hle : (belN c 6).toNat = i := by omega
      (repeat' (first | simp -implicitDefEqProofs only [go_sem] | (refine And.intro ?_ ?_; omega) | (refine And.intro (shr_bd ?_ ?_) ?_; omega; omega) | refine sl_list rfl ?_ | refine sd_list rfl ?_ | refine sl_str ?_ | refine sd_str ?_))
      refine fin_see ?_
      simp -implicitDefEqProofs only [go_sem]
      exact fin_of (fun i => i) (fun i => i) ⟨by simp [boxesR, listsR, csR, renC, keyC, optK, fnd, envR, St.get, keyPV, keyV1, renPV, renV1, hasKey, made_zero, hle] <;> omega, by simp [boxesR, listsR, csR, renC, keyC, optK, fnd, envR, St.get, keyPV, keyV1, renPV, renV1, hasKey, made_zero, hle] <;> omega, by simp [boxesR, listsR, csR, renC, keyC, optK, fnd, envR, St.get, keyPV, keyV1, renPV, renV1, hasKey, made_zero, hle] <;> omega, by simp [boxesR, listsR, csR, renC, keyC, optK, fnd, envR, St.get, keyPV, keyV1, renPV, renV1, hasKey, made_zero, hle] <;> omega, by simp [boxesR, listsR, csR, renC, keyC, optK, fnd, envR, St.get, keyPV, keyV1, renPV, renV1, hasKey, made_zero, hle] <;> omega⟩ (by simp [boxesR, listsR, csR, renC, keyC, optK, fnd, envR, St.get, keyPV, keyV1, renPV, renV1, hasKey, made_zero, hle] <;> omega) (by first | rfl | (simp [renPV, renV1, renC, hle]))
/-- what is said of drawn clocks -/
structure ClkIn (a b c : Int) : Prop where
  a0 : 0 ≤ a
  a1 : a ≤ 199
  b0 : 0 ≤ b
  b1 : b ≤ 9
  c0 : 0 ≤ c
  c1 : c ≤ 29
theorem clock_ex {B : Bs} (c : Cr B) : ∃ (x y z : Int) (c' : Cr B), ClkIn x y z ∧ PC Tryz.prog 94 [(9000, crC c)] [.c (.p 9000 0)] (.s (.a [.v (.int .i64 x), .v (.int .i64 y), .v (.int .i64 z)])) ⟨[(9000, crC c')], []⟩ := by
  have b1 := bel_rg c (n := 200) (by omega)
  have b2 := bel_rg (belC c 200) (n := 10) (by omega)
  have b3 := bel_rg (belC (belC c 200) 10) (n := 30) (by omega)
  refine ⟨belN c 200, belN (belC c 200) 10, belN (belC (belC c 200) 10) 30, belC (belC (belC c 200) 10) 30, ⟨b1.1, by omega, b2.1, by omega, b3.1, by omega⟩, ?_⟩
  refine pc_of Tryz.func94 rfl (by kernel_rfl) _ Tryz.ntmps94 (by simp) ?_
  repeat' first
    | (first | simp -implicitDefEqProofs only [go_sem] | (refine And.intro ?_ ?_; omega) | (refine And.intro (shr_bd ?_ ?_) ?_; omega; omega) | refine sl_list rfl ?_ | refine sd_list rfl ?_ | refine sl_str ?_ | refine sd_str ?_)
    | refine callC (bel_c c 200) rfl rfl rfl rfl rfl ?_
    | refine callC (bel_c (belC c 200) 10) rfl rfl rfl rfl rfl ?_
    | refine callC (bel_c (belC (belC c 200) 10) 30) rfl rfl rfl rfl rfl ?_
  exact fin_of (fun i => i) (fun i => i) ⟨by simp [boxesR, listsR, csR, renC, keyC, optK, fnd, envR, St.get, keyPV, keyV1, renPV, renV1, hasKey, made_zero] <;> omega, by simp [boxesR, listsR, csR, renC, keyC, optK, fnd, envR, St.get, keyPV, keyV1, renPV, renV1, hasKey, made_zero] <;> omega, by simp [boxesR, listsR, csR, renC, keyC, optK, fnd, envR, St.get, keyPV, keyV1, renPV, renV1, hasKey, made_zero] <;> omega, by simp [boxesR, listsR, csR, renC, keyC, optK, fnd, envR, St.get, keyPV, keyV1, renPV, renV1, hasKey, made_zero] <;> omega, by simp [boxesR, listsR, csR, renC, keyC, optK, fnd, envR, St.get, keyPV, keyV1, renPV, renV1, hasKey, made_zero] <;> omega⟩ (by simp [boxesR, listsR, csR, renC, keyC, optK, fnd, envR, St.get, keyPV, keyV1, renPV, renV1, hasKey, made_zero] <;> omega) rfl
end Go.Proofs.YtggejdgohkfmmaaGreat
