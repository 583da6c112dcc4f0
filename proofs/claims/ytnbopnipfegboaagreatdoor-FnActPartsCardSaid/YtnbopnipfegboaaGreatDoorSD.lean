/-
  The laws on scenarios and on replays.
-/
import Derived.Test.YtnbopnipfegboaaGreatDoorDA
import Derived.Test.YtnbopnipfegboaaGreatDoorSZ
import Derived.Test.YtnbopnipfegboaaGreatDoorEl
namespace Go.Proofs.YtnbopnipfegboaaGreatDoor
open Go.PL
set_option linter.unusedSimpArgs false
theorem runs_eq {t : Tb} {l : List Ac} (ht : tableOk t = true) (hl : l.length ≤ 40) : runOk t l = true ∧ runsT t l = runT t l ∧ runsN t l = runN t l := by
  have ho : runOk t l = true := by simp [runOk, ht, hl]
  exact ⟨ho, by simp [runsT, ho], by simp [runsN, ho]⟩
def iterL {α : Type} (f : α → α) : Nat → α → α
  | 0, s => s
  | n + 1, s => iterL f n (f s)
theorem DrawPlaces_ex (B : Bs) : ∃ ns : List Int, ns.length = 12 ∧ (∀ n ∈ ns, 0 ≤ n ∧ n < 10000) ∧ PC Tryz.prog 22 [] [.c (.l 1 (B.l.map bV))] (.s (.c (.l 1 (ns.map iV)))) ⟨[], []⟩ := by
  have step : ∀ c : Cr B, 0 ≤ belN c 10000 ∧ belN c 10000 < 10000 := fun c => bel_rg c (n := 10000) (by omega)
  obtain ⟨F, eF⟩ : ∃ F : List Int × Cr B, F = iterL (fun s => (s.1 ++ [belN s.2 10000], belC s.2 10000)) 12 ([], newCr B) := ⟨_, rfl⟩
  have inv : ∀ k (s : List Int × Cr B), (∀ n ∈ s.1, 0 ≤ n ∧ n < 10000) → (iterL (fun s => (s.1 ++ [belN s.2 10000], belC s.2 10000)) k s).1.length = s.1.length + k ∧ ∀ n ∈ (iterL (fun s => (s.1 ++ [belN s.2 10000], belC s.2 10000)) k s).1, 0 ≤ n ∧ n < 10000 := by
    intro k
    induction k with
    | zero => intro s h; exact ⟨rfl, h⟩
    | succ k ih =>
      intro s h
      have := ih (s.1 ++ [belN s.2 10000], belC s.2 10000) (fun n hn => by
        rcases List.mem_append.1 hn with hn | hn
        · exact h n hn
        · simp only [List.mem_singleton] at hn; rw [hn]; exact step s.2)
      simp only [iterL]
      refine ⟨by rw [this.1]; simp; omega, this.2⟩
  have hF := inv 12 ([], newCr B) (by simp)
  rw [← eF] at hF
  refine ⟨F.1, by simpa using hF.1, hF.2, ?_⟩
  refine pc_of Tryz.func22 rfl (by kernel_rfl) _ Tryz.ntmps22 (by simp) ?_
  repeat' first
    | (first | simp -implicitDefEqProofs only [go_sem] | (refine And.intro ?_ ?_; omega) | (refine And.intro (shr_bd ?_ ?_) ?_; omega; omega) | refine sl_list rfl ?_ | refine sd_list rfl ?_ | refine sl_str ?_ | refine sd_str ?_)
    | refine callN (new_c B 9000) rfl rfl rfl rfl ?_
  refine loop_step (X := Nat × List Int × Cr B) (fun x => ⟨19, [(3, .s (.c (.p 9000 0))), (4, vO 8), (5, vN x.1)], ⟨[(9000, crC x.2.2)], [(8, ⟨3, 1, x.2.1.map iV, true, true⟩)]⟩⟩)
    (fun x => x.1 ≤ 12 ∧ x.2.1.length = x.1 ∧ iterL (fun s => (s.1 ++ [belN s.2 10000], belC s.2 10000)) (12 - x.1) x.2 = F) (fun x => 12 - x.1) (0, [], newCr B) ⟨by simp, rfl, by simp [eF]⟩ (weak_pub (by simp -implicitDefEqProofs only [go_sem]; exact weak_of (fun i => i) (fun i => i) rfl ⟨by simp [boxesR, listsR, csR, renC, keyC, optK, fnd, envR, St.get, keyPV, keyV1, renPV, renV1, hasKey, made_zero] <;> omega, by simp [boxesR, listsR, csR, renC, keyC, optK, fnd, envR, St.get, keyPV, keyV1, renPV, renV1, hasKey, made_zero] <;> omega, by simp [boxesR, listsR, csR, renC, keyC, optK, fnd, envR, St.get, keyPV, keyV1, renPV, renV1, hasKey, made_zero] <;> omega, by simp [boxesR, listsR, csR, renC, keyC, optK, fnd, envR, St.get, keyPV, keyV1, renPV, renV1, hasKey, made_zero] <;> omega, by simp [boxesR, listsR, csR, renC, keyC, optK, fnd, envR, St.get, keyPV, keyV1, renPV, renV1, hasKey, made_zero] <;> omega⟩ (by simp [boxesR, listsR, csR, renC, keyC, optK, fnd, envR, St.get, keyPV, keyV1, renPV, renV1, hasKey, made_zero] <;> omega))) (fun x hx => ?_)
  obtain ⟨i, ns, d⟩ := x
  obtain ⟨hx1, hx2, hx3⟩ := hx
  simp only at hx1 hx2 hx3
  by_cases hlt : i < 12
  · have e0 : ((i : Int) < 12) = True := eq_true (by omega)
    have hk : 12 - i = (12 - (i + 1)) + 1 := by omega
    rw [hk] at hx3
    simp only [iterL] at hx3
    repeat' first
      | (first | simp -implicitDefEqProofs only [e0, go_sem] | (refine And.intro ?_ ?_; omega) | (refine And.intro (shr_bd ?_ ?_) ?_; omega; omega) | refine sl_list rfl ?_ | refine sd_list rfl ?_ | refine sl_str ?_ | refine sd_str ?_)
      | refine callC (bel_c d 10000) rfl rfl rfl rfl rfl ?_
    exact ⟨(i + 1, ns ++ [belN d 10000], belC d 10000), ⟨by simp only; omega, by simp [hx2], hx3⟩, by simp only; omega, weak_of (fun i => i) (fun i => if i = 8 then 17 else i) rfl ⟨by simp [boxesR, listsR, csR, renC, keyC, optK, fnd, envR, St.get, keyPV, keyV1, renPV, renV1, hasKey, made_zero] <;> omega, by simp [boxesR, listsR, csR, renC, keyC, optK, fnd, envR, St.get, keyPV, keyV1, renPV, renV1, hasKey, made_zero] <;> omega, by simp [boxesR, listsR, csR, renC, keyC, optK, fnd, envR, St.get, keyPV, keyV1, renPV, renV1, hasKey, made_zero] <;> omega, by simp [boxesR, listsR, csR, renC, keyC, optK, fnd, envR, St.get, keyPV, keyV1, renPV, renV1, hasKey, made_zero] <;> omega, by simp [boxesR, listsR, csR, renC, keyC, optK, fnd, envR, St.get, keyPV, keyV1, renPV, renV1, hasKey, made_zero] <;> omega⟩ (by simp [boxesR, listsR, csR, renC, keyC, optK, fnd, envR, St.get, keyPV, keyV1, renPV, renV1, hasKey, made_zero] <;> omega)⟩
  · have e0 : ((i : Int) < 12) = False := eq_false (by omega)
    have hk : 12 - i = 0 := by omega
    rw [hk] at hx3
    simp only [iterL] at hx3
    (repeat' (first | simp -implicitDefEqProofs only [e0, go_sem] | (refine And.intro ?_ ?_; omega) | (refine And.intro (shr_bd ?_ ?_) ?_; omega; omega) | refine sl_list rfl ?_ | refine sd_list rfl ?_ | refine sl_str ?_ | refine sd_str ?_))
    subst hx3
    refine fin_see ?_
    simp -implicitDefEqProofs only [go_sem]
    exact fin_of (fun i => i) (fun i => i) ⟨by simp [boxesR, listsR, csR, renC, keyC, optK, fnd, envR, St.get, keyPV, keyV1, renPV, renV1, hasKey, made_zero] <;> omega, by simp [boxesR, listsR, csR, renC, keyC, optK, fnd, envR, St.get, keyPV, keyV1, renPV, renV1, hasKey, made_zero] <;> omega, by simp [boxesR, listsR, csR, renC, keyC, optK, fnd, envR, St.get, keyPV, keyV1, renPV, renV1, hasKey, made_zero] <;> omega, by simp [boxesR, listsR, csR, renC, keyC, optK, fnd, envR, St.get, keyPV, keyV1, renPV, renV1, hasKey, made_zero] <;> omega, by simp [boxesR, listsR, csR, renC, keyC, optK, fnd, envR, St.get, keyPV, keyV1, renPV, renV1, hasKey, made_zero] <;> omega⟩ (by simp [boxesR, listsR, csR, renC, keyC, optK, fnd, envR, St.get, keyPV, keyV1, renPV, renV1, hasKey, made_zero] <;> omega) rfl
end Go.Proofs.YtnbopnipfegboaaGreatDoor
