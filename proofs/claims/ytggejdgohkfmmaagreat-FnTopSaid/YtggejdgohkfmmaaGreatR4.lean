/-
  What the functions compute that use a hint in a game and ask for one on a table.
-/
import Derived.Test.YtggejdgohkfmmaaGreatR1
import Derived.Test.YtggejdgohkfmmaaGreatR3
namespace Go.Proofs.YtggejdgohkfmmaaGreat
open Go.PL
set_option linter.unusedSimpArgs false
theorem nowOf_le {g : Gm} : nowOf g ≤ 9223372036854775807 := by
  unfold nowOf
  split
  · rename_i h
    simp only [gameOk, puzzleOk, Bool.and_eq_true] at h
    obtain ⟨⟨_, hp, _⟩, _, _, hs⟩ := h
    unfold playI
    cases hq : playAll g.x.b g.x.s g.j with
    | none => rw [hq] at hs; cases hs
    | some q =>
      simp only [Option.getD_some]
      unfold playAll at hq
      split at hq
      · have := pos_le (playF_pos hp hq)
        omega
      · cases hq
  · omega
theorem hint_ok {g : Gm} (h : (hintFor g.x (nowOf g)).isSome = true) : gameOk g = true := by
  by_cases hg : gameOk g = true
  · exact hg
  · have e : nowOf g = -1 := by simp [nowOf, hg]
    have : hintFor g.x (-1) = none := by simp [hintFor, positionOk]
    rw [e, this] at h
    cases h
noncomputable def hintL (g : Gm) : Ln := lineO (hintFor g.x (nowOf g))
noncomputable def hintG (g : Gm) : Gm := { makeG g (hintL g) with h := (makeG g (hintL g)).h + 1 }
noncomputable def hintOk (g : Gm) : Bool := (hintFor g.x (nowOf g)).isSome && (makeOk g (hintL g) && gameOk (hintG g))
noncomputable def hintR (g : Gm) : Gm := if hintOk g = true then hintG g else g
theorem makeG_x {g : Gm} {l : Ln} : (makeG g l).x = g.x ∧ (makeG g l).h = g.h ∧ (makeG g l).u = g.u := by
  unfold makeG addG
  split <;> exact ⟨rfl, rfl, rfl⟩
theorem hintG_in {g : Gm} (hg : GmIn g) (hn : g.j.length ≤ 1048576) : GmIn (hintG g) := by
  have h1 := makeG_len (g := g) (l := hintL g) hn
  refine ⟨?_, ?_⟩
  · show pzIn (makeG g (hintL g)).x
    rw [makeG_x.1]; exact hg.x
  · show (makeG g (hintL g)).j.length ≤ _
    omega
theorem hintR_len {g : Gm} (hn : g.j.length ≤ 1048576) : (hintR g).j.length ≤ 1048577 := by
  have h1 := makeG_len (g := g) (l := hintL g) hn
  unfold hintR
  split
  · exact h1
  · omega
theorem gameOk_h {g : Gm} (h : gameOk g = true) : 0 ≤ g.h ∧ g.h ≤ 1000 := by
  simp only [gameOk, within, Bool.and_eq_true, decide_eq_true_eq] at h
  omega
set_option maxHeartbeats 4000000 in
theorem UseHint_c (d : Nat) (g : Gm) (hg : GmIn g) (hn : g.j.length ≤ 1048576) : PC Tryz.prog 77 [] [.a (gmL g)] (.t [.a (gmC (hintR g) (.o d)), .c (.v (.bool (hintOk g)))]) ⟨[], [(d, ⟨58, 3, (hintR g).j.map lineV, false, true⟩)]⟩ := by
  refine pc_of Tryz.func77 rfl (by kernel_rfl) _ Tryz.ntmps77 (by simp) ?_
  have h2 := hintG_in hg hn
  have hnow := nowOf_le (g := g)
  repeat' first
    | (first | simp -implicitDefEqProofs only [go_sem] | (refine And.intro ?_ ?_; omega) | (refine And.intro (shr_bd ?_ ?_) ?_; omega; omega) | refine sl_list rfl ?_ | refine sd_list rfl ?_ | refine sl_str ?_ | refine sd_str ?_)
    | refine draw_stepY Tryz.pl_follows (by kernel_rfl) ?_
    | refine callS (NowOf_c g hg) rfl rfl rfl ?_
    | refine callS (HintFor_c g.x (nowOf g) hg.x hnow) rfl rfl rfl ?_
  by_cases h : (hintFor g.x (nowOf g)).isSome = true
  · have hok := hint_ok h
    obtain ⟨b0, b1⟩ := gameOk_h hok
    obtain ⟨ex, eh, eu⟩ := makeG_x (g := g) (l := hintL g)
    have c0 : 0 ≤ (makeG g (lineO (hintFor g.x (nowOf g)))).h := by rw [makeG_x.2.1]; exact b0
    have c1 : (makeG g (lineO (hintFor g.x (nowOf g)))).h ≤ 1000 := by rw [makeG_x.2.1]; exact b1
    repeat' first
      | (first | simp -implicitDefEqProofs only [h, go_sem] | (refine And.intro ?_ ?_; omega) | (refine And.intro (shr_bd ?_ ?_) ?_; omega; omega) | refine sl_list rfl ?_ | refine sd_list rfl ?_ | refine sl_str ?_ | refine sd_str ?_)
      | refine callL1 (fun d => MakeJump_c d g (lineO (hintFor g.x (nowOf g))) hg hn) rfl rfl rfl ?_
    by_cases h1 : makeOk g (lineO (hintFor g.x (nowOf g))) = true
    · (repeat' (first | simp -implicitDefEqProofs only [h1, go_sem] | (refine And.intro ?_ ?_; omega) | (refine And.intro (shr_bd ?_ ?_) ?_; omega; omega) | refine sl_list rfl ?_ | refine sd_list rfl ?_ | refine sl_str ?_ | refine sd_str ?_))
      refine callS (GameOk_c (hintG g) h2) rfl rfl rfl ?_
      by_cases h3 : gameOk (hintG g) = true
      · have ho : hintOk g = true := by simp [hintOk, h, h3, hintL, h1]
        have e : hintR g = hintG g := by simp [hintR, ho]
        (repeat' (first | simp -implicitDefEqProofs only [h3, go_sem] | (refine And.intro ?_ ?_; omega) | (refine And.intro (shr_bd ?_ ?_) ?_; omega; omega) | refine sl_list rfl ?_ | refine sd_list rfl ?_ | refine sl_str ?_ | refine sd_str ?_))
        exact fin_of (fun i => i) (fun i => 23) ⟨by simp [boxesR, listsR, csR, renC, keyC, optK, fnd, envR, St.get, keyPV, keyV1, renPV, renV1, hasKey, made_zero, e, ho, hintG, hintL] <;> omega, by simp [boxesR, listsR, csR, renC, keyC, optK, fnd, envR, St.get, keyPV, keyV1, renPV, renV1, hasKey, made_zero, e, ho, hintG, hintL] <;> omega, by simp [boxesR, listsR, csR, renC, keyC, optK, fnd, envR, St.get, keyPV, keyV1, renPV, renV1, hasKey, made_zero, e, ho, hintG, hintL] <;> omega, by simp [boxesR, listsR, csR, renC, keyC, optK, fnd, envR, St.get, keyPV, keyV1, renPV, renV1, hasKey, made_zero, e, ho, hintG, hintL] <;> omega, by simp [boxesR, listsR, csR, renC, keyC, optK, fnd, envR, St.get, keyPV, keyV1, renPV, renV1, hasKey, made_zero, e, ho, hintG, hintL] <;> omega⟩ (by simp [boxesR, listsR, csR, renC, keyC, optK, fnd, envR, St.get, keyPV, keyV1, renPV, renV1, hasKey, made_zero, e, ho, hintG, hintL] <;> omega) (by first | rfl | (simp [renPV, renV1, renC, e, ho, hintG, hintL]))
      · have ho : hintOk g = false := by simp [hintOk, h3]
        have e : hintR g = g := by simp [hintR, ho]
        repeat' first
          | (first | simp -implicitDefEqProofs only [h3, go_sem] | (refine And.intro ?_ ?_; omega) | (refine And.intro (shr_bd ?_ ?_) ?_; omega; omega) | refine sl_list rfl ?_ | refine sd_list rfl ?_ | refine sl_str ?_ | refine sd_str ?_)
          | refine callL1 (fun d => l37Copy_c d g (by omega)) rfl rfl rfl ?_
        exact fin_of (fun i => i) (fun i => 38) ⟨by simp [boxesR, listsR, csR, renC, keyC, optK, fnd, envR, St.get, keyPV, keyV1, renPV, renV1, hasKey, made_zero, e, ho] <;> omega, by simp [boxesR, listsR, csR, renC, keyC, optK, fnd, envR, St.get, keyPV, keyV1, renPV, renV1, hasKey, made_zero, e, ho] <;> omega, by simp [boxesR, listsR, csR, renC, keyC, optK, fnd, envR, St.get, keyPV, keyV1, renPV, renV1, hasKey, made_zero, e, ho] <;> omega, by simp [boxesR, listsR, csR, renC, keyC, optK, fnd, envR, St.get, keyPV, keyV1, renPV, renV1, hasKey, made_zero, e, ho] <;> omega, by simp [boxesR, listsR, csR, renC, keyC, optK, fnd, envR, St.get, keyPV, keyV1, renPV, renV1, hasKey, made_zero, e, ho] <;> omega⟩ (by simp [boxesR, listsR, csR, renC, keyC, optK, fnd, envR, St.get, keyPV, keyV1, renPV, renV1, hasKey, made_zero, e, ho] <;> omega) (by first | rfl | (simp [renPV, renV1, renC, e, ho]))
    · have ho : hintOk g = false := by simp [hintOk, hintL, h1]
      have e : hintR g = g := by simp [hintR, ho]
      repeat' first
        | (first | simp -implicitDefEqProofs only [h1, go_sem] | (refine And.intro ?_ ?_; omega) | (refine And.intro (shr_bd ?_ ?_) ?_; omega; omega) | refine sl_list rfl ?_ | refine sd_list rfl ?_ | refine sl_str ?_ | refine sd_str ?_)
        | refine callL1 (fun d => l37Copy_c d g (by omega)) rfl rfl rfl ?_
      exact fin_of (fun i => i) (fun i => 38) ⟨by simp [boxesR, listsR, csR, renC, keyC, optK, fnd, envR, St.get, keyPV, keyV1, renPV, renV1, hasKey, made_zero, e, ho] <;> omega, by simp [boxesR, listsR, csR, renC, keyC, optK, fnd, envR, St.get, keyPV, keyV1, renPV, renV1, hasKey, made_zero, e, ho] <;> omega, by simp [boxesR, listsR, csR, renC, keyC, optK, fnd, envR, St.get, keyPV, keyV1, renPV, renV1, hasKey, made_zero, e, ho] <;> omega, by simp [boxesR, listsR, csR, renC, keyC, optK, fnd, envR, St.get, keyPV, keyV1, renPV, renV1, hasKey, made_zero, e, ho] <;> omega, by simp [boxesR, listsR, csR, renC, keyC, optK, fnd, envR, St.get, keyPV, keyV1, renPV, renV1, hasKey, made_zero, e, ho] <;> omega⟩ (by simp [boxesR, listsR, csR, renC, keyC, optK, fnd, envR, St.get, keyPV, keyV1, renPV, renV1, hasKey, made_zero, e, ho] <;> omega) (by first | rfl | (simp [renPV, renV1, renC, e, ho]))
  · have ho : hintOk g = false := by simp [hintOk, h]
    have e : hintR g = g := by simp [hintR, ho]
    repeat' first
      | (first | simp -implicitDefEqProofs only [h, go_sem] | (refine And.intro ?_ ?_; omega) | (refine And.intro (shr_bd ?_ ?_) ?_; omega; omega) | refine sl_list rfl ?_ | refine sd_list rfl ?_ | refine sl_str ?_ | refine sd_str ?_)
      | refine callL1 (fun d => l37Copy_c d g (by omega)) rfl rfl rfl ?_
    exact fin_of (fun i => i) (fun i => 19) ⟨by simp [boxesR, listsR, csR, renC, keyC, optK, fnd, envR, St.get, keyPV, keyV1, renPV, renV1, hasKey, made_zero, e, ho] <;> omega, by simp [boxesR, listsR, csR, renC, keyC, optK, fnd, envR, St.get, keyPV, keyV1, renPV, renV1, hasKey, made_zero, e, ho] <;> omega, by simp [boxesR, listsR, csR, renC, keyC, optK, fnd, envR, St.get, keyPV, keyV1, renPV, renV1, hasKey, made_zero, e, ho] <;> omega, by simp [boxesR, listsR, csR, renC, keyC, optK, fnd, envR, St.get, keyPV, keyV1, renPV, renV1, hasKey, made_zero, e, ho] <;> omega, by simp [boxesR, listsR, csR, renC, keyC, optK, fnd, envR, St.get, keyPV, keyV1, renPV, renV1, hasKey, made_zero, e, ho] <;> omega⟩ (by simp [boxesR, listsR, csR, renC, keyC, optK, fnd, envR, St.get, keyPV, keyV1, renPV, renV1, hasKey, made_zero, e, ho] <;> omega) (by first | rfl | (simp [renPV, renV1, renC, e, ho]))
set_option maxHeartbeats 4000000 in
theorem iUseHint_c (d : Nat) (g : Gm) (hg : GmIn g) (hn : g.j.length ≤ 1048576) : PC Tryz.prog 64 [] [.a (gmL g)] (.t [.a (gmC (hintR g) (.o d)), .c (.v (.bool (hintOk g)))]) ⟨[], [(d, ⟨58, 3, (hintR g).j.map lineV, false, true⟩)]⟩ := by
  refine pc_of Tryz.func64 rfl (by kernel_rfl) _ Tryz.ntmps64 (by simp) ?_
  have h2 := hintG_in hg hn
  have hnow := nowOf_le (g := g)
  repeat' first
    | (first | simp -implicitDefEqProofs only [go_sem] | (refine And.intro ?_ ?_; omega) | (refine And.intro (shr_bd ?_ ?_) ?_; omega; omega) | refine sl_list rfl ?_ | refine sd_list rfl ?_ | refine sl_str ?_ | refine sd_str ?_)
    | refine draw_stepY Tryz.pl_follows (by kernel_rfl) ?_
    | refine callS (iNowOf_c g hg) rfl rfl rfl ?_
    | refine callS (iHintFor_c g.x (nowOf g) hg.x hnow) rfl rfl rfl ?_
  by_cases h : (hintFor g.x (nowOf g)).isSome = true
  · have hok := hint_ok h
    obtain ⟨b0, b1⟩ := gameOk_h hok
    obtain ⟨ex, eh, eu⟩ := makeG_x (g := g) (l := hintL g)
    have c0 : 0 ≤ (makeG g (lineO (hintFor g.x (nowOf g)))).h := by rw [makeG_x.2.1]; exact b0
    have c1 : (makeG g (lineO (hintFor g.x (nowOf g)))).h ≤ 1000 := by rw [makeG_x.2.1]; exact b1
    repeat' first
      | (first | simp -implicitDefEqProofs only [h, go_sem] | (refine And.intro ?_ ?_; omega) | (refine And.intro (shr_bd ?_ ?_) ?_; omega; omega) | refine sl_list rfl ?_ | refine sd_list rfl ?_ | refine sl_str ?_ | refine sd_str ?_)
      | refine callL1 (fun d => iMakeJump_c d g (lineO (hintFor g.x (nowOf g))) hg hn) rfl rfl rfl ?_
    by_cases h1 : makeOk g (lineO (hintFor g.x (nowOf g))) = true
    · (repeat' (first | simp -implicitDefEqProofs only [h1, go_sem] | (refine And.intro ?_ ?_; omega) | (refine And.intro (shr_bd ?_ ?_) ?_; omega; omega) | refine sl_list rfl ?_ | refine sd_list rfl ?_ | refine sl_str ?_ | refine sd_str ?_))
      refine callS (iGameOk_c (hintG g) h2) rfl rfl rfl ?_
      by_cases h3 : gameOk (hintG g) = true
      · have ho : hintOk g = true := by simp [hintOk, h, h3, hintL, h1]
        have e : hintR g = hintG g := by simp [hintR, ho]
        (repeat' (first | simp -implicitDefEqProofs only [h3, go_sem] | (refine And.intro ?_ ?_; omega) | (refine And.intro (shr_bd ?_ ?_) ?_; omega; omega) | refine sl_list rfl ?_ | refine sd_list rfl ?_ | refine sl_str ?_ | refine sd_str ?_))
        exact fin_of (fun i => i) (fun i => 22) ⟨by simp [boxesR, listsR, csR, renC, keyC, optK, fnd, envR, St.get, keyPV, keyV1, renPV, renV1, hasKey, made_zero, e, ho, hintG, hintL] <;> omega, by simp [boxesR, listsR, csR, renC, keyC, optK, fnd, envR, St.get, keyPV, keyV1, renPV, renV1, hasKey, made_zero, e, ho, hintG, hintL] <;> omega, by simp [boxesR, listsR, csR, renC, keyC, optK, fnd, envR, St.get, keyPV, keyV1, renPV, renV1, hasKey, made_zero, e, ho, hintG, hintL] <;> omega, by simp [boxesR, listsR, csR, renC, keyC, optK, fnd, envR, St.get, keyPV, keyV1, renPV, renV1, hasKey, made_zero, e, ho, hintG, hintL] <;> omega, by simp [boxesR, listsR, csR, renC, keyC, optK, fnd, envR, St.get, keyPV, keyV1, renPV, renV1, hasKey, made_zero, e, ho, hintG, hintL] <;> omega⟩ (by simp [boxesR, listsR, csR, renC, keyC, optK, fnd, envR, St.get, keyPV, keyV1, renPV, renV1, hasKey, made_zero, e, ho, hintG, hintL] <;> omega) (by first | rfl | (simp [renPV, renV1, renC, e, ho, hintG, hintL]))
      · have ho : hintOk g = false := by simp [hintOk, h3]
        have e : hintR g = g := by simp [hintR, ho]
        repeat' first
          | (first | simp -implicitDefEqProofs only [h3, go_sem] | (refine And.intro ?_ ?_; omega) | (refine And.intro (shr_bd ?_ ?_) ?_; omega; omega) | refine sl_list rfl ?_ | refine sd_list rfl ?_ | refine sl_str ?_ | refine sd_str ?_)
          | refine callL1 (fun d => iCopyGame_c d g (by omega)) rfl rfl rfl ?_
        exact fin_of (fun i => i) (fun i => 37) ⟨by simp [boxesR, listsR, csR, renC, keyC, optK, fnd, envR, St.get, keyPV, keyV1, renPV, renV1, hasKey, made_zero, e, ho] <;> omega, by simp [boxesR, listsR, csR, renC, keyC, optK, fnd, envR, St.get, keyPV, keyV1, renPV, renV1, hasKey, made_zero, e, ho] <;> omega, by simp [boxesR, listsR, csR, renC, keyC, optK, fnd, envR, St.get, keyPV, keyV1, renPV, renV1, hasKey, made_zero, e, ho] <;> omega, by simp [boxesR, listsR, csR, renC, keyC, optK, fnd, envR, St.get, keyPV, keyV1, renPV, renV1, hasKey, made_zero, e, ho] <;> omega, by simp [boxesR, listsR, csR, renC, keyC, optK, fnd, envR, St.get, keyPV, keyV1, renPV, renV1, hasKey, made_zero, e, ho] <;> omega⟩ (by simp [boxesR, listsR, csR, renC, keyC, optK, fnd, envR, St.get, keyPV, keyV1, renPV, renV1, hasKey, made_zero, e, ho] <;> omega) (by first | rfl | (simp [renPV, renV1, renC, e, ho]))
    · have ho : hintOk g = false := by simp [hintOk, hintL, h1]
      have e : hintR g = g := by simp [hintR, ho]
      repeat' first
        | (first | simp -implicitDefEqProofs only [h1, go_sem] | (refine And.intro ?_ ?_; omega) | (refine And.intro (shr_bd ?_ ?_) ?_; omega; omega) | refine sl_list rfl ?_ | refine sd_list rfl ?_ | refine sl_str ?_ | refine sd_str ?_)
        | refine callL1 (fun d => iCopyGame_c d g (by omega)) rfl rfl rfl ?_
      exact fin_of (fun i => i) (fun i => 37) ⟨by simp [boxesR, listsR, csR, renC, keyC, optK, fnd, envR, St.get, keyPV, keyV1, renPV, renV1, hasKey, made_zero, e, ho] <;> omega, by simp [boxesR, listsR, csR, renC, keyC, optK, fnd, envR, St.get, keyPV, keyV1, renPV, renV1, hasKey, made_zero, e, ho] <;> omega, by simp [boxesR, listsR, csR, renC, keyC, optK, fnd, envR, St.get, keyPV, keyV1, renPV, renV1, hasKey, made_zero, e, ho] <;> omega, by simp [boxesR, listsR, csR, renC, keyC, optK, fnd, envR, St.get, keyPV, keyV1, renPV, renV1, hasKey, made_zero, e, ho] <;> omega, by simp [boxesR, listsR, csR, renC, keyC, optK, fnd, envR, St.get, keyPV, keyV1, renPV, renV1, hasKey, made_zero, e, ho] <;> omega⟩ (by simp [boxesR, listsR, csR, renC, keyC, optK, fnd, envR, St.get, keyPV, keyV1, renPV, renV1, hasKey, made_zero, e, ho] <;> omega) (by first | rfl | (simp [renPV, renV1, renC, e, ho]))
  · have ho : hintOk g = false := by simp [hintOk, h]
    have e : hintR g = g := by simp [hintR, ho]
    repeat' first
      | (first | simp -implicitDefEqProofs only [h, go_sem] | (refine And.intro ?_ ?_; omega) | (refine And.intro (shr_bd ?_ ?_) ?_; omega; omega) | refine sl_list rfl ?_ | refine sd_list rfl ?_ | refine sl_str ?_ | refine sd_str ?_)
      | refine callL1 (fun d => iCopyGame_c d g (by omega)) rfl rfl rfl ?_
    exact fin_of (fun i => i) (fun i => 18) ⟨by simp [boxesR, listsR, csR, renC, keyC, optK, fnd, envR, St.get, keyPV, keyV1, renPV, renV1, hasKey, made_zero, e, ho] <;> omega, by simp [boxesR, listsR, csR, renC, keyC, optK, fnd, envR, St.get, keyPV, keyV1, renPV, renV1, hasKey, made_zero, e, ho] <;> omega, by simp [boxesR, listsR, csR, renC, keyC, optK, fnd, envR, St.get, keyPV, keyV1, renPV, renV1, hasKey, made_zero, e, ho] <;> omega, by simp [boxesR, listsR, csR, renC, keyC, optK, fnd, envR, St.get, keyPV, keyV1, renPV, renV1, hasKey, made_zero, e, ho] <;> omega, by simp [boxesR, listsR, csR, renC, keyC, optK, fnd, envR, St.get, keyPV, keyV1, renPV, renV1, hasKey, made_zero, e, ho] <;> omega⟩ (by simp [boxesR, listsR, csR, renC, keyC, optK, fnd, envR, St.get, keyPV, keyV1, renPV, renV1, hasKey, made_zero, e, ho] <;> omega) (by first | rfl | (simp [renPV, renV1, renC, e, ho]))
noncomputable def askOk (t : Tb) (s : Int) : Bool := tableOk t && (within s 0 100000 && (hintOk t.g && tickOk t.c (s + 10)))
noncomputable def askT (t : Tb) (s : Int) : Tb := if askOk t s = true then layG t (hintR t.g) (tickC t.c (s + 10)) else t
theorem askT_len {t : Tb} {s : Int} (h : TbS t) : (askT t s).g.j.length ≤ 1048577 ∧ (askT t s).r.length ≤ 1048576 := by
  have h1 := hintR_len (g := t.g) h.j
  have h2 := h.j
  have h3 := h.r
  unfold askT layG
  split
  · exact ⟨by simp only; omega, h3⟩
  · exact ⟨by omega, h3⟩
set_option maxHeartbeats 4000000 in
theorem AskHint_c (d e : Nat) (hde : d ≠ e) (t : Tb) (s : Int) (ht : TbS t) : PC Tryz.prog 33 [] [.a (tbL t), .c (.v (.int .i64 s))] (.t [.a (tbC (askT t s) (.o d) (.o e)), .c (.v (.bool (askOk t s)))])
    ⟨[], [(d, ⟨58, 3, (askT t s).g.j.map lineV, false, true⟩), (e, ⟨98, 4, (askT t s).r.map recV, false, true⟩)]⟩ := by
  have hed : e ≠ d := fun h => hde h.symm
  have hj := ht.j
  have hr := ht.r
  refine pc_of Tryz.func33 rfl (by kernel_rfl) _ Tryz.ntmps33 (by simp) ?_
  repeat' first
    | (first | simp -implicitDefEqProofs only [go_sem] | (refine And.intro ?_ ?_; omega) | (refine And.intro (shr_bd ?_ ?_) ?_; omega; omega) | refine sl_list rfl ?_ | refine sd_list rfl ?_ | refine sl_str ?_ | refine sd_str ?_)
    | refine callL2 (fun d e h => l38Copy_c d e h t (by omega) hr) rfl rfl rfl ?_
  refine callS (TableOk_c t ht.tb) rfl rfl rfl ?_
  by_cases h : tableOk t = true
  · by_cases hw : within s 0 100000 = true
    · obtain ⟨s0, s1⟩ := within_iff.1 hw
      repeat' first
        | (first | simp -implicitDefEqProofs only [h, hw, go_sem] | (refine And.intro ?_ ?_; omega) | (refine And.intro (shr_bd ?_ ?_) ?_; omega; omega) | refine sl_list rfl ?_ | refine sd_list rfl ?_ | refine sl_str ?_ | refine sd_str ?_)
        | refine callS (l01In_c _ _ _) rfl rfl rfl ?_
        | refine callL1 (fun d => UseHint_c d t.g ht.tb.g hj) rfl rfl rfl ?_
        | refine callS (TickClock_c t.c (s + 10)) rfl rfl rfl ?_
      by_cases h1 : hintOk t.g = true
      · by_cases h2 : tickOk t.c (s + 10) = true
        · have ho : askOk t s = true := by simp [askOk, h, hw, h1, h2]
          have e1 : askT t s = layG t (hintR t.g) (tickC t.c (s + 10)) := by simp [askT, ho]
          (repeat' (first | simp -implicitDefEqProofs only [h1, h2, go_sem] | (refine And.intro ?_ ?_; omega) | (refine And.intro (shr_bd ?_ ?_) ?_; omega; omega) | refine sl_list rfl ?_ | refine sd_list rfl ?_ | refine sl_str ?_ | refine sd_str ?_))
          exact fin_of (fun i => i) (fun i => if i = d then 25 else 1012) ⟨by simp [boxesR, listsR, csR, renC, keyC, optK, fnd, envR, St.get, keyPV, keyV1, renPV, renV1, hasKey, made_zero, e1, ho, hde, hed, layG] <;> omega, by simp [boxesR, listsR, csR, renC, keyC, optK, fnd, envR, St.get, keyPV, keyV1, renPV, renV1, hasKey, made_zero, e1, ho, hde, hed, layG] <;> omega, by simp [boxesR, listsR, csR, renC, keyC, optK, fnd, envR, St.get, keyPV, keyV1, renPV, renV1, hasKey, made_zero, e1, ho, hde, hed, layG] <;> omega, by simp [boxesR, listsR, csR, renC, keyC, optK, fnd, envR, St.get, keyPV, keyV1, renPV, renV1, hasKey, made_zero, e1, ho, hde, hed, layG] <;> omega, by simp [boxesR, listsR, csR, renC, keyC, optK, fnd, envR, St.get, keyPV, keyV1, renPV, renV1, hasKey, made_zero, e1, ho, hde, hed, layG] <;> omega⟩ (by simp [boxesR, listsR, csR, renC, keyC, optK, fnd, envR, St.get, keyPV, keyV1, renPV, renV1, hasKey, made_zero, e1, ho, hde, hed, layG] <;> omega) (by first | rfl | (simp [renPV, renV1, renC, e1, ho, hde, hed, layG]))
        · have ho : askOk t s = false := by simp [askOk, h2]
          have e1 : askT t s = t := by simp [askT, ho]
          (repeat' (first | simp -implicitDefEqProofs only [h1, h2, go_sem] | (refine And.intro ?_ ?_; omega) | (refine And.intro (shr_bd ?_ ?_) ?_; omega; omega) | refine sl_list rfl ?_ | refine sd_list rfl ?_ | refine sl_str ?_ | refine sd_str ?_))
          exact fin_of (fun i => i) (fun i => if i = d then 12 else 1012) ⟨by simp [boxesR, listsR, csR, renC, keyC, optK, fnd, envR, St.get, keyPV, keyV1, renPV, renV1, hasKey, made_zero, e1, ho, hde, hed] <;> omega, by simp [boxesR, listsR, csR, renC, keyC, optK, fnd, envR, St.get, keyPV, keyV1, renPV, renV1, hasKey, made_zero, e1, ho, hde, hed] <;> omega, by simp [boxesR, listsR, csR, renC, keyC, optK, fnd, envR, St.get, keyPV, keyV1, renPV, renV1, hasKey, made_zero, e1, ho, hde, hed] <;> omega, by simp [boxesR, listsR, csR, renC, keyC, optK, fnd, envR, St.get, keyPV, keyV1, renPV, renV1, hasKey, made_zero, e1, ho, hde, hed] <;> omega, by simp [boxesR, listsR, csR, renC, keyC, optK, fnd, envR, St.get, keyPV, keyV1, renPV, renV1, hasKey, made_zero, e1, ho, hde, hed] <;> omega⟩ (by simp [boxesR, listsR, csR, renC, keyC, optK, fnd, envR, St.get, keyPV, keyV1, renPV, renV1, hasKey, made_zero, e1, ho, hde, hed] <;> omega) (by first | rfl | (simp [renPV, renV1, renC, e1, ho, hde, hed]))
      · have ho : askOk t s = false := by simp [askOk, h1]
        have e1 : askT t s = t := by simp [askT, ho]
        (repeat' (first | simp -implicitDefEqProofs only [h1, go_sem] | (refine And.intro ?_ ?_; omega) | (refine And.intro (shr_bd ?_ ?_) ?_; omega; omega) | refine sl_list rfl ?_ | refine sd_list rfl ?_ | refine sl_str ?_ | refine sd_str ?_))
        exact fin_of (fun i => i) (fun i => if i = d then 12 else 1012) ⟨by simp [boxesR, listsR, csR, renC, keyC, optK, fnd, envR, St.get, keyPV, keyV1, renPV, renV1, hasKey, made_zero, e1, ho, hde, hed] <;> omega, by simp [boxesR, listsR, csR, renC, keyC, optK, fnd, envR, St.get, keyPV, keyV1, renPV, renV1, hasKey, made_zero, e1, ho, hde, hed] <;> omega, by simp [boxesR, listsR, csR, renC, keyC, optK, fnd, envR, St.get, keyPV, keyV1, renPV, renV1, hasKey, made_zero, e1, ho, hde, hed] <;> omega, by simp [boxesR, listsR, csR, renC, keyC, optK, fnd, envR, St.get, keyPV, keyV1, renPV, renV1, hasKey, made_zero, e1, ho, hde, hed] <;> omega, by simp [boxesR, listsR, csR, renC, keyC, optK, fnd, envR, St.get, keyPV, keyV1, renPV, renV1, hasKey, made_zero, e1, ho, hde, hed] <;> omega⟩ (by simp [boxesR, listsR, csR, renC, keyC, optK, fnd, envR, St.get, keyPV, keyV1, renPV, renV1, hasKey, made_zero, e1, ho, hde, hed] <;> omega) (by first | rfl | (simp [renPV, renV1, renC, e1, ho, hde, hed]))
    · have ho : askOk t s = false := by simp [askOk, hw]
      have e1 : askT t s = t := by simp [askT, ho]
      repeat' first
        | (first | simp -implicitDefEqProofs only [h, hw, go_sem] | (refine And.intro ?_ ?_; omega) | (refine And.intro (shr_bd ?_ ?_) ?_; omega; omega) | refine sl_list rfl ?_ | refine sd_list rfl ?_ | refine sl_str ?_ | refine sd_str ?_)
        | refine callS (l01In_c _ _ _) rfl rfl rfl ?_
      exact fin_of (fun i => i) (fun i => if i = d then 12 else 1012) ⟨by simp [boxesR, listsR, csR, renC, keyC, optK, fnd, envR, St.get, keyPV, keyV1, renPV, renV1, hasKey, made_zero, e1, ho, hde, hed] <;> omega, by simp [boxesR, listsR, csR, renC, keyC, optK, fnd, envR, St.get, keyPV, keyV1, renPV, renV1, hasKey, made_zero, e1, ho, hde, hed] <;> omega, by simp [boxesR, listsR, csR, renC, keyC, optK, fnd, envR, St.get, keyPV, keyV1, renPV, renV1, hasKey, made_zero, e1, ho, hde, hed] <;> omega, by simp [boxesR, listsR, csR, renC, keyC, optK, fnd, envR, St.get, keyPV, keyV1, renPV, renV1, hasKey, made_zero, e1, ho, hde, hed] <;> omega, by simp [boxesR, listsR, csR, renC, keyC, optK, fnd, envR, St.get, keyPV, keyV1, renPV, renV1, hasKey, made_zero, e1, ho, hde, hed] <;> omega⟩ (by simp [boxesR, listsR, csR, renC, keyC, optK, fnd, envR, St.get, keyPV, keyV1, renPV, renV1, hasKey, made_zero, e1, ho, hde, hed] <;> omega) (by first | rfl | (simp [renPV, renV1, renC, e1, ho, hde, hed]))
  · have ho : askOk t s = false := by simp [askOk, h]
    have e1 : askT t s = t := by simp [askT, ho]
    (repeat' (first | simp -implicitDefEqProofs only [h, go_sem] | (refine And.intro ?_ ?_; omega) | (refine And.intro (shr_bd ?_ ?_) ?_; omega; omega) | refine sl_list rfl ?_ | refine sd_list rfl ?_ | refine sl_str ?_ | refine sd_str ?_))
    exact fin_of (fun i => i) (fun i => if i = d then 12 else 1012) ⟨by simp [boxesR, listsR, csR, renC, keyC, optK, fnd, envR, St.get, keyPV, keyV1, renPV, renV1, hasKey, made_zero, e1, ho, hde, hed] <;> omega, by simp [boxesR, listsR, csR, renC, keyC, optK, fnd, envR, St.get, keyPV, keyV1, renPV, renV1, hasKey, made_zero, e1, ho, hde, hed] <;> omega, by simp [boxesR, listsR, csR, renC, keyC, optK, fnd, envR, St.get, keyPV, keyV1, renPV, renV1, hasKey, made_zero, e1, ho, hde, hed] <;> omega, by simp [boxesR, listsR, csR, renC, keyC, optK, fnd, envR, St.get, keyPV, keyV1, renPV, renV1, hasKey, made_zero, e1, ho, hde, hed] <;> omega, by simp [boxesR, listsR, csR, renC, keyC, optK, fnd, envR, St.get, keyPV, keyV1, renPV, renV1, hasKey, made_zero, e1, ho, hde, hed] <;> omega⟩ (by simp [boxesR, listsR, csR, renC, keyC, optK, fnd, envR, St.get, keyPV, keyV1, renPV, renV1, hasKey, made_zero, e1, ho, hde, hed] <;> omega) (by first | rfl | (simp [renPV, renV1, renC, e1, ho, hde, hed]))
set_option maxHeartbeats 4000000 in
theorem iAskHint_c (d e : Nat) (hde : d ≠ e) (t : Tb) (s : Int) (ht : TbS t) : PC Tryz.prog 24 [] [.a (tbL t), .c (.v (.int .i64 s))] (.t [.a (tbC (askT t s) (.o d) (.o e)), .c (.v (.bool (askOk t s)))])
    ⟨[], [(d, ⟨58, 3, (askT t s).g.j.map lineV, false, true⟩), (e, ⟨98, 4, (askT t s).r.map recV, false, true⟩)]⟩ := by
  have hed : e ≠ d := fun h => hde h.symm
  have hj := ht.j
  have hr := ht.r
  refine pc_of Tryz.func24 rfl (by kernel_rfl) _ Tryz.ntmps24 (by simp) ?_
  (repeat' (first | simp -implicitDefEqProofs only [go_sem] | (refine And.intro ?_ ?_; omega) | (refine And.intro (shr_bd ?_ ?_) ?_; omega; omega) | refine sl_list rfl ?_ | refine sd_list rfl ?_ | refine sl_str ?_ | refine sd_str ?_))
  refine callS (iTableOk_c t ht.tb) rfl rfl rfl ?_
  by_cases h : tableOk t = true
  · by_cases hw : within s 0 100000 = true
    · obtain ⟨s0, s1⟩ := within_iff.1 hw
      repeat' first
        | (first | simp -implicitDefEqProofs only [h, hw, go_sem] | (refine And.intro ?_ ?_; omega) | (refine And.intro (shr_bd ?_ ?_) ?_; omega; omega) | refine sl_list rfl ?_ | refine sd_list rfl ?_ | refine sl_str ?_ | refine sd_str ?_)
        | refine callS (within_c _ _ _) rfl rfl rfl ?_
        | refine callL1 (fun d => iUseHint_c d t.g ht.tb.g hj) rfl rfl rfl ?_
        | refine callS (iTickClock_c t.c (s + 10)) rfl rfl rfl ?_
      by_cases h1 : hintOk t.g = true
      · by_cases h2 : tickOk t.c (s + 10) = true
        · have ho : askOk t s = true := by simp [askOk, h, hw, h1, h2]
          have e1 : askT t s = layG t (hintR t.g) (tickC t.c (s + 10)) := by simp [askT, ho]
          repeat' first
            | (first | simp -implicitDefEqProofs only [h1, h2, go_sem] | (refine And.intro ?_ ?_; omega) | (refine And.intro (shr_bd ?_ ?_) ?_; omega; omega) | refine sl_list rfl ?_ | refine sd_list rfl ?_ | refine sl_str ?_ | refine sd_str ?_)
            | refine callI (movedT_c 23 1041 (by omega) t (hintR t.g) (tickC t.c (s + 10)) (by omega) hr) ⟨⟨rfl, rfl, rfl⟩, rfl, trivial⟩ rfl rfl rfl ?_
          exact fin_of (fun i => i) (fun i => if i = d then 23 else 1041) ⟨by simp [boxesR, listsR, csR, renC, keyC, optK, fnd, envR, St.get, keyPV, keyV1, renPV, renV1, hasKey, made_zero, e1, ho, hde, hed, layG] <;> omega, by simp [boxesR, listsR, csR, renC, keyC, optK, fnd, envR, St.get, keyPV, keyV1, renPV, renV1, hasKey, made_zero, e1, ho, hde, hed, layG] <;> omega, by simp [boxesR, listsR, csR, renC, keyC, optK, fnd, envR, St.get, keyPV, keyV1, renPV, renV1, hasKey, made_zero, e1, ho, hde, hed, layG] <;> omega, by simp [boxesR, listsR, csR, renC, keyC, optK, fnd, envR, St.get, keyPV, keyV1, renPV, renV1, hasKey, made_zero, e1, ho, hde, hed, layG] <;> omega, by simp [boxesR, listsR, csR, renC, keyC, optK, fnd, envR, St.get, keyPV, keyV1, renPV, renV1, hasKey, made_zero, e1, ho, hde, hed, layG] <;> omega⟩ (by simp [boxesR, listsR, csR, renC, keyC, optK, fnd, envR, St.get, keyPV, keyV1, renPV, renV1, hasKey, made_zero, e1, ho, hde, hed, layG] <;> omega) (by first | rfl | (simp [renPV, renV1, renC, e1, ho, hde, hed, layG]))
        · have ho : askOk t s = false := by simp [askOk, h2]
          have e1 : askT t s = t := by simp [askT, ho]
          repeat' first
            | (first | simp -implicitDefEqProofs only [h1, h2, go_sem] | (refine And.intro ?_ ?_; omega) | (refine And.intro (shr_bd ?_ ?_) ?_; omega; omega) | refine sl_list rfl ?_ | refine sd_list rfl ?_ | refine sl_str ?_ | refine sd_str ?_)
            | refine callL2 (fun d e h => movedF_c d e h t (hintR t.g) (tickC t.c (s + 10)) (by omega) hr) rfl rfl rfl ?_
          exact fin_of (fun i => i) (fun i => if i = d then 41 else 1041) ⟨by simp [boxesR, listsR, csR, renC, keyC, optK, fnd, envR, St.get, keyPV, keyV1, renPV, renV1, hasKey, made_zero, e1, ho, hde, hed] <;> omega, by simp [boxesR, listsR, csR, renC, keyC, optK, fnd, envR, St.get, keyPV, keyV1, renPV, renV1, hasKey, made_zero, e1, ho, hde, hed] <;> omega, by simp [boxesR, listsR, csR, renC, keyC, optK, fnd, envR, St.get, keyPV, keyV1, renPV, renV1, hasKey, made_zero, e1, ho, hde, hed] <;> omega, by simp [boxesR, listsR, csR, renC, keyC, optK, fnd, envR, St.get, keyPV, keyV1, renPV, renV1, hasKey, made_zero, e1, ho, hde, hed] <;> omega, by simp [boxesR, listsR, csR, renC, keyC, optK, fnd, envR, St.get, keyPV, keyV1, renPV, renV1, hasKey, made_zero, e1, ho, hde, hed] <;> omega⟩ (by simp [boxesR, listsR, csR, renC, keyC, optK, fnd, envR, St.get, keyPV, keyV1, renPV, renV1, hasKey, made_zero, e1, ho, hde, hed] <;> omega) (by first | rfl | (simp [renPV, renV1, renC, e1, ho, hde, hed]))
      · have ho : askOk t s = false := by simp [askOk, h1]
        have e1 : askT t s = t := by simp [askT, ho]
        repeat' first
          | (first | simp -implicitDefEqProofs only [h1, go_sem] | (refine And.intro ?_ ?_; omega) | (refine And.intro (shr_bd ?_ ?_) ?_; omega; omega) | refine sl_list rfl ?_ | refine sd_list rfl ?_ | refine sl_str ?_ | refine sd_str ?_)
          | refine callL2 (fun d e h => movedF_c d e h t (hintR t.g) (tickC t.c (s + 10)) (by omega) hr) rfl rfl rfl ?_
        exact fin_of (fun i => i) (fun i => if i = d then 41 else 1041) ⟨by simp [boxesR, listsR, csR, renC, keyC, optK, fnd, envR, St.get, keyPV, keyV1, renPV, renV1, hasKey, made_zero, e1, ho, hde, hed] <;> omega, by simp [boxesR, listsR, csR, renC, keyC, optK, fnd, envR, St.get, keyPV, keyV1, renPV, renV1, hasKey, made_zero, e1, ho, hde, hed] <;> omega, by simp [boxesR, listsR, csR, renC, keyC, optK, fnd, envR, St.get, keyPV, keyV1, renPV, renV1, hasKey, made_zero, e1, ho, hde, hed] <;> omega, by simp [boxesR, listsR, csR, renC, keyC, optK, fnd, envR, St.get, keyPV, keyV1, renPV, renV1, hasKey, made_zero, e1, ho, hde, hed] <;> omega, by simp [boxesR, listsR, csR, renC, keyC, optK, fnd, envR, St.get, keyPV, keyV1, renPV, renV1, hasKey, made_zero, e1, ho, hde, hed] <;> omega⟩ (by simp [boxesR, listsR, csR, renC, keyC, optK, fnd, envR, St.get, keyPV, keyV1, renPV, renV1, hasKey, made_zero, e1, ho, hde, hed] <;> omega) (by first | rfl | (simp [renPV, renV1, renC, e1, ho, hde, hed]))
    · have ho : askOk t s = false := by simp [askOk, hw]
      have e1 : askT t s = t := by simp [askT, ho]
      repeat' first
        | (first | simp -implicitDefEqProofs only [h, hw, go_sem] | (refine And.intro ?_ ?_; omega) | (refine And.intro (shr_bd ?_ ?_) ?_; omega; omega) | refine sl_list rfl ?_ | refine sd_list rfl ?_ | refine sl_str ?_ | refine sd_str ?_)
        | refine callS (within_c _ _ _) rfl rfl rfl ?_
        | refine callL2 (fun d e h => iCopyTable_c d e h t (by omega) hr) rfl rfl rfl ?_
      exact fin_of (fun i => i) (fun i => if i = d then 19 else 1019) ⟨by simp [boxesR, listsR, csR, renC, keyC, optK, fnd, envR, St.get, keyPV, keyV1, renPV, renV1, hasKey, made_zero, e1, ho, hde, hed] <;> omega, by simp [boxesR, listsR, csR, renC, keyC, optK, fnd, envR, St.get, keyPV, keyV1, renPV, renV1, hasKey, made_zero, e1, ho, hde, hed] <;> omega, by simp [boxesR, listsR, csR, renC, keyC, optK, fnd, envR, St.get, keyPV, keyV1, renPV, renV1, hasKey, made_zero, e1, ho, hde, hed] <;> omega, by simp [boxesR, listsR, csR, renC, keyC, optK, fnd, envR, St.get, keyPV, keyV1, renPV, renV1, hasKey, made_zero, e1, ho, hde, hed] <;> omega, by simp [boxesR, listsR, csR, renC, keyC, optK, fnd, envR, St.get, keyPV, keyV1, renPV, renV1, hasKey, made_zero, e1, ho, hde, hed] <;> omega⟩ (by simp [boxesR, listsR, csR, renC, keyC, optK, fnd, envR, St.get, keyPV, keyV1, renPV, renV1, hasKey, made_zero, e1, ho, hde, hed] <;> omega) (by first | rfl | (simp [renPV, renV1, renC, e1, ho, hde, hed]))
  · have ho : askOk t s = false := by simp [askOk, h]
    have e1 : askT t s = t := by simp [askT, ho]
    repeat' first
      | (first | simp -implicitDefEqProofs only [h, go_sem] | (refine And.intro ?_ ?_; omega) | (refine And.intro (shr_bd ?_ ?_) ?_; omega; omega) | refine sl_list rfl ?_ | refine sd_list rfl ?_ | refine sl_str ?_ | refine sd_str ?_)
      | refine callL2 (fun d e h => iCopyTable_c d e h t (by omega) hr) rfl rfl rfl ?_
    exact fin_of (fun i => i) (fun i => if i = d then 19 else 1019) ⟨by simp [boxesR, listsR, csR, renC, keyC, optK, fnd, envR, St.get, keyPV, keyV1, renPV, renV1, hasKey, made_zero, e1, ho, hde, hed] <;> omega, by simp [boxesR, listsR, csR, renC, keyC, optK, fnd, envR, St.get, keyPV, keyV1, renPV, renV1, hasKey, made_zero, e1, ho, hde, hed] <;> omega, by simp [boxesR, listsR, csR, renC, keyC, optK, fnd, envR, St.get, keyPV, keyV1, renPV, renV1, hasKey, made_zero, e1, ho, hde, hed] <;> omega, by simp [boxesR, listsR, csR, renC, keyC, optK, fnd, envR, St.get, keyPV, keyV1, renPV, renV1, hasKey, made_zero, e1, ho, hde, hed] <;> omega, by simp [boxesR, listsR, csR, renC, keyC, optK, fnd, envR, St.get, keyPV, keyV1, renPV, renV1, hasKey, made_zero, e1, ho, hde, hed] <;> omega⟩ (by simp [boxesR, listsR, csR, renC, keyC, optK, fnd, envR, St.get, keyPV, keyV1, renPV, renV1, hasKey, made_zero, e1, ho, hde, hed] <;> omega) (by first | rfl | (simp [renPV, renV1, renC, e1, ho, hde, hed]))
end Go.Proofs.YtggejdgohkfmmaaGreat
