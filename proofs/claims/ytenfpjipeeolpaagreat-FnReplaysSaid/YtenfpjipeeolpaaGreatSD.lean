/-
  The laws on scenarios and on replays.
-/
import Derived.Test.YtenfpjipeeolpaaGreatDA
import Derived.Test.YtenfpjipeeolpaaGreatSZ
import Derived.Test.YtenfpjipeeolpaaGreatEm
namespace Go.Proofs.YtenfpjipeeolpaaGreat
open Go.PL
set_option linter.unusedSimpArgs false
theorem runs_eq {t : Tb} {l : List Ac} (ht : tableOk t = true) (hl : l.length ≤ 40) : runOk t l = true ∧ runsT t l = runT t l ∧ runsN t l = runN t l := by
  have ho : runOk t l = true := by simp [runOk, ht, hl]
  exact ⟨ho, by simp [runsT, ho], by simp [runsN, ho]⟩
theorem b2i_rg (b : Bool) : 0 ≤ b2i b ∧ b2i b ≤ 1 := by unfold b2i; split <;> omega
theorem now_rg (g : Gm) : -1 ≤ nowOf g ∧ nowOf g ≤ 562949953421311 := by
  unfold nowOf
  split
  · rename_i h
    have hg := h
    simp only [gameOk, Bool.and_eq_true] at h
    obtain ⟨hx, _, _, hs⟩ := h
    obtain ⟨r, hr⟩ := Option.isSome_iff_exists.1 hs
    simp only [puzzleOk, Bool.and_eq_true] at hx
    have hr2 := hr
    unfold playAll at hr2
    split at hr2
    · have hp := playF_pos hx.2.1 hr2
      have h1 := pos_le hp
      obtain ⟨_, r0, _⟩ := pos_sub hp
      simp only [playI, hr, Option.getD_some]
      omega
    · cases hr2
  · omega
theorem doN_rg (t : Tb) (a : Ac) : -1 ≤ doN t a ∧ doN t a ≤ 562949953421311 := by
  have h0 := now_rg t.g
  have h1 := b2i_rg (playOk t (lineO (lineBetween t.g.x.b a.a a.b)) 1)
  have h2 := b2i_rg false
  have h3 := b2i_rg (askOk t a.a)
  have h4 := b2i_rg (stepOk t)
  have h5 := b2i_rg (claimOk t a.a a.b)
  unfold doN
  repeat' split
  all_goals omega
theorem runN_rg : ∀ {l : List Ac} {t : Tb}, ∀ x ∈ runN t l, -1 ≤ x ∧ x ≤ 562949953421311
  | [], _, x, h => by simp [runN] at h
  | a :: l, t, x, h => by
    simp only [runN, List.mem_cons] at h
    rcases h with rfl | h
    · exact doN_rg t a
    · exact runN_rg x h
def iterL {α : Type} (f : α → α) : Nat → α → α
  | 0, s => s
  | n + 1, s => iterL f n (f s)
theorem DrawPlaces_ex (B : Bs) : ∃ ns : List Int, ns.length = 12 ∧ (∀ n ∈ ns, 0 ≤ n ∧ n < 10000) ∧ PC Tryz.prog 11 [] [.c (.l 1 (B.l.map bV))] (.s (.c (.l 1 (ns.map iV)))) ⟨[], []⟩ := by
  have step : ∀ c : Cr B, 0 ≤ belN c 10000 ∧ belN c 10000 < 10000 := fun c => bel_rg c (n := 10000) (by omega)
  obtain ⟨F, eF⟩ : ∃ F : List Int × Cr B, F = iterL (fun s => (s.1 ++ [belN s.2 10000], belC s.2 10000)) 12 ([], newCr B) := ⟨_, rfl⟩
  have inv : ∀ k (s : List Int × Cr B), (∀ n ∈ s.1, 0 ≤ n ∧ n < 10000) → (iterL (fun s => (s.1 ++ [belN s.2 10000], belC s.2 10000)) k s).1.length = s.1.length + k ∧ ∀ n ∈ (iterL (fun s => (s.1 ++ [belN s.2 10000], belC s.2 10000)) k s).1, 0 ≤ n ∧ n < 10000 := by
    intro k
    induction k with
    | zero => intro s h; exact ⟨rfl, h⟩
    | succ k ih =>
      intro s h
      have := ih (s.1 ++ [belN s.2 10000], belC s.2 10000) (fun n hn => by
        rcases List.mem_append.1 hn with hn | hn
        · exact h n hn
        · simp only [List.mem_singleton] at hn; rw [hn]; exact step s.2)
      simp only [iterL]
      refine ⟨by rw [this.1]; simp; omega, this.2⟩
  have hF := inv 12 ([], newCr B) (by simp)
  rw [← eF] at hF
  refine ⟨F.1, by simpa using hF.1, hF.2, ?_⟩
  refine pc_of Tryz.func11 rfl (by kernel_rfl) _ Tryz.ntmps11 (by simp) ?_
  repeat' first
    | (first | simp -implicitDefEqProofs only [go_sem] | (refine And.intro ?_ ?_; omega) | (refine And.intro (shr_bd ?_ ?_) ?_; omega; omega) | refine sl_list rfl ?_ | refine sd_list rfl ?_ | refine sl_str ?_ | refine sd_str ?_)
    | refine callN (new_c B 9000) rfl rfl rfl rfl ?_
  refine loop_step (X := Nat × List Int × Cr B) (fun x => ⟨19, [(3, .s (.c (.p 9000 0))), (4, vO 8), (5, vN x.1)], ⟨[(9000, crC x.2.2)], [(8, ⟨3, 1, x.2.1.map iV, true, true⟩)]⟩⟩)
    (fun x => x.1 ≤ 12 ∧ x.2.1.length = x.1 ∧ iterL (fun s => (s.1 ++ [belN s.2 10000], belC s.2 10000)) (12 - x.1) x.2 = F) (fun x => 12 - x.1) (0, [], newCr B) ⟨by simp, rfl, by simp [eF]⟩ (weak_pub (by simp -implicitDefEqProofs only [go_sem]; exact weak_of (fun i => i) (fun i => i) rfl ⟨by simp [boxesR, listsR, csR, renC, keyC, optK, fnd, envR, St.get, keyPV, keyV1, renPV, renV1, hasKey, made_zero] <;> omega, by simp [boxesR, listsR, csR, renC, keyC, optK, fnd, envR, St.get, keyPV, keyV1, renPV, renV1, hasKey, made_zero] <;> omega, by simp [boxesR, listsR, csR, renC, keyC, optK, fnd, envR, St.get, keyPV, keyV1, renPV, renV1, hasKey, made_zero] <;> omega, by simp [boxesR, listsR, csR, renC, keyC, optK, fnd, envR, St.get, keyPV, keyV1, renPV, renV1, hasKey, made_zero] <;> omega, by simp [boxesR, listsR, csR, renC, keyC, optK, fnd, envR, St.get, keyPV, keyV1, renPV, renV1, hasKey, made_zero] <;> omega⟩ (by simp [boxesR, listsR, csR, renC, keyC, optK, fnd, envR, St.get, keyPV, keyV1, renPV, renV1, hasKey, made_zero] <;> omega))) (fun x hx => ?_)
  obtain ⟨i, ns, d⟩ := x
  obtain ⟨hx1, hx2, hx3⟩ := hx
  simp only at hx1 hx2 hx3
  by_cases hlt : i < 12
  · have e0 : ((i : Int) < 12) = True := eq_true (by omega)
    have hk : 12 - i = (12 - (i + 1)) + 1 := by omega
    rw [hk] at hx3
    simp only [iterL] at hx3
    repeat' first
      | (first | simp -implicitDefEqProofs only [e0, go_sem] | (refine And.intro ?_ ?_; omega) | (refine And.intro (shr_bd ?_ ?_) ?_; omega; omega) | refine sl_list rfl ?_ | refine sd_list rfl ?_ | refine sl_str ?_ | refine sd_str ?_)
      | refine callC (bel_c d 10000) rfl rfl rfl rfl rfl ?_
    exact ⟨(i + 1, ns ++ [belN d 10000], belC d 10000), ⟨by simp only; omega, by simp [hx2], hx3⟩, by simp only; omega, weak_of (fun i => i) (fun i => if i = 8 then 17 else i) rfl ⟨by simp [boxesR, listsR, csR, renC, keyC, optK, fnd, envR, St.get, keyPV, keyV1, renPV, renV1, hasKey, made_zero] <;> omega, by simp [boxesR, listsR, csR, renC, keyC, optK, fnd, envR, St.get, keyPV, keyV1, renPV, renV1, hasKey, made_zero] <;> omega, by simp [boxesR, listsR, csR, renC, keyC, optK, fnd, envR, St.get, keyPV, keyV1, renPV, renV1, hasKey, made_zero] <;> omega, by simp [boxesR, listsR, csR, renC, keyC, optK, fnd, envR, St.get, keyPV, keyV1, renPV, renV1, hasKey, made_zero] <;> omega, by simp [boxesR, listsR, csR, renC, keyC, optK, fnd, envR, St.get, keyPV, keyV1, renPV, renV1, hasKey, made_zero] <;> omega⟩ (by simp [boxesR, listsR, csR, renC, keyC, optK, fnd, envR, St.get, keyPV, keyV1, renPV, renV1, hasKey, made_zero] <;> omega)⟩
  · have e0 : ((i : Int) < 12) = False := eq_false (by omega)
    have hk : 12 - i = 0 := by omega
    rw [hk] at hx3
    simp only [iterL] at hx3
    (repeat' (first | simp -implicitDefEqProofs only [e0, go_sem] | (refine And.intro ?_ ?_; omega) | (refine And.intro (shr_bd ?_ ?_) ?_; omega; omega) | refine sl_list rfl ?_ | refine sd_list rfl ?_ | refine sl_str ?_ | refine sd_str ?_))
    subst hx3
    refine fin_see ?_
    simp -implicitDefEqProofs only [go_sem]
    exact fin_of (fun i => i) (fun i => i) ⟨by simp [boxesR, listsR, csR, renC, keyC, optK, fnd, envR, St.get, keyPV, keyV1, renPV, renV1, hasKey, made_zero] <;> omega, by simp [boxesR, listsR, csR, renC, keyC, optK, fnd, envR, St.get, keyPV, keyV1, renPV, renV1, hasKey, made_zero] <;> omega, by simp [boxesR, listsR, csR, renC, keyC, optK, fnd, envR, St.get, keyPV, keyV1, renPV, renV1, hasKey, made_zero] <;> omega, by simp [boxesR, listsR, csR, renC, keyC, optK, fnd, envR, St.get, keyPV, keyV1, renPV, renV1, hasKey, made_zero] <;> omega, by simp [boxesR, listsR, csR, renC, keyC, optK, fnd, envR, St.get, keyPV, keyV1, renPV, renV1, hasKey, made_zero] <;> omega⟩ (by simp [boxesR, listsR, csR, renC, keyC, optK, fnd, envR, St.get, keyPV, keyV1, renPV, renV1, hasKey, made_zero] <;> omega) rfl
set_option maxRecDepth 20000 in
set_option maxHeartbeats 32000000 in
theorem lawScenarios_c (bs : List Nat) (hbs : ∀ b ∈ bs, b ≤ 255) : PC Tryz.prog 3 [] [.c (.l 1 (bs.map bV))] (vB true) ⟨[], []⟩ := by
  by_cases hn : (1048576 : Int) < bs.length
  · refine pc_of Tryz.func3 rfl (by kernel_rfl) _ Tryz.ntmps3 (by simp) ?_
    repeat' first
      | (first | simp -implicitDefEqProofs only [hn, go_sem] | (refine And.intro ?_ ?_; omega) | (refine And.intro (shr_bd ?_ ?_) ?_; omega; omega) | refine sl_list rfl ?_ | refine sd_list rfl ?_ | refine sl_str ?_ | refine sd_str ?_)
      | refine callS (lawBig_c bs) rfl rfl rfl ?_
    exact fin_scal rfl rfl
  obtain ⟨t, acs, ⟨ht, hl, _⟩, pd⟩ := drawActs_ex ⟨bs, hbs, by omega⟩
  have hb0 : ((1048576 : Int) < bs.length) = False := eq_false hn
  obtain ⟨_, r1, r2⟩ := runs_eq ht (l := acs) (by omega)
  have ts := tbS_of ht
  have hx := runT_ok (l := acs) ht
  rw [← r1] at hx
  have xs := tbS_of hx
  have rl : (runsN t acs).length = acs.length := by rw [r2, runN_len]
  have so := sample_ok
  have e0 := sample_jr.1
  have e1 := sample_jr.2
  have s1 := iSampleTable_c
  have tk := iTableOk_c (openT smX 7 300) (tbS_of so).tb
  rw [so] at tk
  simp only [tbL, e0, e1, List.map_nil] at tk
  generalize openT smX 7 300 = T at s1 tk
  refine pc_of Tryz.func3 rfl (by kernel_rfl) _ Tryz.ntmps3 (by simp) ?_
  repeat' first
    | (first | simp -implicitDefEqProofs only [hb0, ht, hx, rl, go_sem] | (refine And.intro ?_ ?_; omega) | (refine And.intro (shr_bd ?_ ?_) ?_; omega; omega) | refine sl_list rfl ?_ | refine sd_list rfl ?_ | refine sl_str ?_ | refine sd_str ?_)
    | refine callS (lawBig_c bs) rfl rfl rfl ?_
    | refine callV pd rfl rfl rfl ?_
    | refine callL3 (fun d e f h1 h2 h3 => iRunActs_c d e f h1 h2 h3 t acs ts (by omega)) rfl rfl rfl ?_
    | refine callS (iTableOk_c t ts.tb) rfl rfl rfl ?_
    | refine callS (iTableOk_c (runsT t acs) xs.tb) rfl rfl rfl ?_
    | refine callL2 (fun d e h => s1 d e h) rfl rfl rfl ?_
    | refine callS tk rfl rfl rfl ?_
  all_goals exact fin_scal rfl rfl
theorem fnScenarios.law_c {c : C} (h : TC (.l 1 false [.i .u8]) c) : PC Tryz.prog 3 [] [.c c] (vB true) ⟨[], []⟩ := by
  obtain ⟨bs, rfl, hb⟩ := lawBytes_of h
  exact lawScenarios_c bs hb
set_option maxRecDepth 20000 in
set_option maxHeartbeats 32000000 in
theorem lawReplays_c (bs : List Nat) (hbs : ∀ b ∈ bs, b ≤ 255) : PC Tryz.prog 4 [] [.c (.l 1 (bs.map bV))] (vB true) ⟨[], []⟩ := by
  by_cases hn : (1048576 : Int) < bs.length
  · refine pc_of Tryz.func4 rfl (by kernel_rfl) _ Tryz.ntmps4 (by simp) ?_
    repeat' first
      | (first | simp -implicitDefEqProofs only [hn, go_sem] | (refine And.intro ?_ ?_; omega) | (refine And.intro (shr_bd ?_ ?_) ?_; omega; omega) | refine sl_list rfl ?_ | refine sd_list rfl ?_ | refine sl_str ?_ | refine sd_str ?_)
      | refine callS (lawBig_c bs) rfl rfl rfl ?_
    exact fin_scal rfl rfl
  obtain ⟨t, acs, ⟨ht, hl, _⟩, pd⟩ := drawActs_ex ⟨bs, hbs, by omega⟩
  obtain ⟨ps, pl, pb, pp⟩ := DrawPlaces_ex ⟨bs, hbs, by omega⟩
  have hb0 : ((1048576 : Int) < bs.length) = False := eq_false hn
  obtain ⟨ro, r1, r2⟩ := runs_eq ht (l := acs) (by omega)
  have ts := tbS_of ht
  have rl : (runsN t acs).length = acs.length := by rw [r2, runN_len]
  have rg : ∀ x ∈ runsN t acs, -1 ≤ x ∧ x ≤ 562949953421311 := by rw [r2]; exact runN_rg
  have i1 : isReplay t acs (runsN t acs) = true := by simp [isReplay, ro]
  have p0 : 0 < ps.length := by omega
  have pz := map_get (f := iV) p0
  have pr := pb _ (List.getElem_mem p0)
  generalize ps[0] = z at pz pr
  by_cases hz : (runsN t acs).length = 0
  · have z0 : (((runsN t acs).length : Int) = 0) = True := eq_true (by omega)
    have i2 : isReplay t acs [1] = false := by
      have : ¬ runsN t acs = [1] := fun e => by rw [e] at hz; simp at hz
      simp [isReplay, this]
    have q2 := iIsReplay_c t acs [1] ts (by omega)
    rw [i2] at q2
    refine pc_of Tryz.func4 rfl (by kernel_rfl) _ Tryz.ntmps4 (by simp) ?_
    repeat' first
      | (first | simp -implicitDefEqProofs only [hb0, i1, z0, go_sem] | (refine And.intro ?_ ?_; omega) | (refine And.intro (shr_bd ?_ ?_) ?_; omega; omega) | refine sl_list rfl ?_ | refine sd_list rfl ?_ | refine sl_str ?_ | refine sd_str ?_)
      | refine callS (lawBig_c bs) rfl rfl rfl ?_
      | refine callV pd rfl rfl rfl ?_
      | refine callL3 (fun d e f h1 h2 h3 => iRunActs_c d e f h1 h2 h3 t acs ts (by omega)) rfl rfl rfl ?_
      | refine callS (iIsReplay_c t acs (runsN t acs) ts (by omega)) rfl rfl rfl ?_
      | refine callS q2 rfl rfl rfl ?_
    all_goals exact fin_scal rfl rfl
  · have z0 : (((runsN t acs).length : Int) = 0) = False := eq_false (by omega)
    obtain ⟨k, ek⟩ : ∃ k : Nat, z % ((runsN t acs).length : Int) = k := ⟨(z % ((runsN t acs).length : Int)).toNat, by have := Int.emod_nonneg z (show ((runsN t acs).length : Int) ≠ 0 by omega); omega⟩
    have hk : k < (runsN t acs).length := by
      have := Int.emod_lt_of_pos z (show (0 : Int) < ((runsN t acs).length : Int) by omega)
      omega
    have g1 := map_get (f := iV) hk
    have gr := rg _ (List.getElem_mem hk)
    obtain ⟨x, ex⟩ : ∃ x, x = (runsN t acs)[k] := ⟨_, rfl⟩
    have i2 : isReplay t acs ((runsN t acs).set k (x + 1)) = false := by
      have : ¬ runsN t acs = (runsN t acs).set k (x + 1) := fun e => by
        have h2 := congrArg (fun l => l[k]?) e
        simp only [List.getElem?_set_self hk, List.getElem?_eq_getElem hk, Option.some.injEq] at h2
        omega
      simp [isReplay, this]
    rw [← ex] at g1 gr
    have es : ((runsN t acs).map iV).set k (iV (x + 1)) = ((runsN t acs).set k (x + 1)).map iV := by rw [List.map_set]
    refine pc_of Tryz.func4 rfl (by kernel_rfl) _ Tryz.ntmps4 (by simp) ?_
    repeat' first
      | (first | simp -implicitDefEqProofs only [hb0, i1, z0, pz, p0, ek, g1, hk, es, i2, go_sem] | (refine And.intro ?_ ?_; omega) | (refine And.intro (shr_bd ?_ ?_) ?_; omega; omega) | refine sl_list rfl ?_ | refine sd_list rfl ?_ | refine sl_str ?_ | refine sd_str ?_)
      | refine callS (lawBig_c bs) rfl rfl rfl ?_
      | refine callV pd rfl rfl rfl ?_
      | refine callL3 (fun d e f h1 h2 h3 => iRunActs_c d e f h1 h2 h3 t acs ts (by omega)) rfl rfl rfl ?_
      | refine callS (iIsReplay_c t acs (runsN t acs) ts (by omega)) rfl rfl rfl ?_
      | refine callIV (pc_beside pp rfl 2019 _ rfl) ⟨⟨rfl, rfl, rfl⟩, rfl, trivial⟩ rfl rfl rfl ?_
      | refine callS (iIsReplay_c t acs ((runsN t acs).set k (x + 1)) ts (by omega)) rfl rfl rfl ?_
    all_goals exact fin_scal rfl rfl
theorem fnReplays.law_c {c : C} (h : TC (.l 1 false [.i .u8]) c) : PC Tryz.prog 4 [] [.c c] (vB true) ⟨[], []⟩ := by
  obtain ⟨bs, rfl, hb⟩ := lawBytes_of h
  exact lawReplays_c bs hb
end Go.Proofs.YtenfpjipeeolpaaGreat
