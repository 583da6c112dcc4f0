/-
  What the functions compute that use a hint in a game and ask for one on a table.
  What the functions compute that count sweeps and claim a record on a table.
-/
import Derived.Test.YtahnbliabllflaaGreatDoorR1
import Derived.Test.YtahnbliabllflaaGreatDoorL2
namespace Go.Proofs.YtahnbliabllflaaGreatDoor
open Go.PL
set_option linter.unusedSimpArgs false
theorem nowOf_le {g : Gm} : nowOf g ≤ 9223372036854775807 := by
  unfold nowOf
  split
  · rename_i h
    simp only [gameOk, puzzleOk, Bool.and_eq_true] at h
    obtain ⟨⟨_, hp, _⟩, _, _, hs⟩ := h
    unfold playI
    cases hq : playAll g.x.b g.x.s g.j with
    | none => rw [hq] at hs; cases hs
    | some q =>
      simp only [Option.getD_some]
      unfold playAll at hq
      split at hq
      · have := pos_le (playF_pos hp hq)
        omega
      · cases hq
  · omega
theorem hint_ok {g : Gm} (h : (hintFor g.x (nowOf g)).isSome = true) : gameOk g = true := by
  by_cases hg : gameOk g = true
  · exact hg
  · have e : nowOf g = -1 := by simp [nowOf, hg]
    have : hintFor g.x (-1) = none := by simp [hintFor, positionOk]
    rw [e, this] at h
    cases h
noncomputable def hintL (g : Gm) : Ln := lineO (hintFor g.x (nowOf g))
noncomputable def hintG (g : Gm) : Gm := { makeG g (hintL g) with h := (makeG g (hintL g)).h + 1 }
noncomputable def hintOk (g : Gm) : Bool := (hintFor g.x (nowOf g)).isSome && (makeOk g (hintL g) && gameOk (hintG g))
noncomputable def hintR (g : Gm) : Gm := if hintOk g = true then hintG g else g
theorem makeG_x {g : Gm} {l : Ln} : (makeG g l).x = g.x ∧ (makeG g l).h = g.h ∧ (makeG g l).u = g.u := by
  unfold makeG addG
  split <;> exact ⟨rfl, rfl, rfl⟩
theorem hintG_in {g : Gm} (hg : GmIn g) (hn : g.j.length ≤ 1048576) : GmIn (hintG g) := by
  have h1 := makeG_len (g := g) (l := hintL g) hn
  refine ⟨?_, ?_⟩
  · show pzIn (makeG g (hintL g)).x
    rw [makeG_x.1]; exact hg.x
  · show (makeG g (hintL g)).j.length ≤ _
    omega
theorem gameOk_h {g : Gm} (h : gameOk g = true) : 0 ≤ g.h ∧ g.h ≤ 1000 := by
  simp only [gameOk, within, Bool.and_eq_true, decide_eq_true_eq] at h
  omega
set_option maxHeartbeats 4000000 in
theorem UseHint_c (d : Nat) (g : Gm) (hg : GmIn g) (hn : g.j.length ≤ 1048576) : PC Tryz.prog 131 [] [.a (gmL g)] (.t [.a (gmC (hintR g) (.o d)), .c (.v (.bool (hintOk g)))]) ⟨[], [(d, ⟨86, 3, (hintR g).j.map lineV, false, true⟩)]⟩ := by
  refine pc_of Tryz.func131 rfl (by kernel_rfl) _ Tryz.ntmps131 (by simp) ?_
  have h2 := hintG_in hg hn
  have hnow := nowOf_le (g := g)
  repeat' first
    | (first | simp -implicitDefEqProofs only [go_sem] | (refine And.intro ?_ ?_; omega) | (refine And.intro (shr_bd ?_ ?_) ?_; omega; omega) | refine sl_list rfl ?_ | refine sd_list rfl ?_ | refine sl_str ?_ | refine sd_str ?_)
    | refine draw_stepY Tryz.pl_follows (by kernel_rfl) ?_
    | refine callS (NowOf_c g hg) rfl rfl rfl ?_
    | refine callS (HintFor_c g.x (nowOf g) hg.x hnow) rfl rfl rfl ?_
  by_cases h : (hintFor g.x (nowOf g)).isSome = true
  · have hok := hint_ok h
    obtain ⟨b0, b1⟩ := gameOk_h hok
    obtain ⟨ex, eh, eu⟩ := makeG_x (g := g) (l := hintL g)
    have c0 : 0 ≤ (makeG g (lineO (hintFor g.x (nowOf g)))).h := by rw [makeG_x.2.1]; exact b0
    have c1 : (makeG g (lineO (hintFor g.x (nowOf g)))).h ≤ 1000 := by rw [makeG_x.2.1]; exact b1
    repeat' first
      | (first | simp -implicitDefEqProofs only [h, go_sem] | (refine And.intro ?_ ?_; omega) | (refine And.intro (shr_bd ?_ ?_) ?_; omega; omega) | refine sl_list rfl ?_ | refine sd_list rfl ?_ | refine sl_str ?_ | refine sd_str ?_)
      | refine callL1 (fun d => MakeJump_c d g (lineO (hintFor g.x (nowOf g))) hg hn) rfl rfl rfl ?_
    by_cases h1 : makeOk g (lineO (hintFor g.x (nowOf g))) = true
    · (repeat' (first | simp -implicitDefEqProofs only [h1, go_sem] | (refine And.intro ?_ ?_; omega) | (refine And.intro (shr_bd ?_ ?_) ?_; omega; omega) | refine sl_list rfl ?_ | refine sd_list rfl ?_ | refine sl_str ?_ | refine sd_str ?_))
      refine callS (GameOk_c (hintG g) h2) rfl rfl rfl ?_
      by_cases h3 : gameOk (hintG g) = true
      · have ho : hintOk g = true := by simp [hintOk, h, h3, hintL, h1]
        have e : hintR g = hintG g := by simp [hintR, ho]
        (repeat' (first | simp -implicitDefEqProofs only [h3, go_sem] | (refine And.intro ?_ ?_; omega) | (refine And.intro (shr_bd ?_ ?_) ?_; omega; omega) | refine sl_list rfl ?_ | refine sd_list rfl ?_ | refine sl_str ?_ | refine sd_str ?_))
        exact fin_of (fun i => i) (fun i => 23) ⟨by simp [e, ho, hintG, hintL] <;> omega, by simp [e, ho, hintG, hintL] <;> omega, by simp [e, ho, hintG, hintL] <;> omega, by simp [e, ho, hintG, hintL] <;> omega, by simp [e, ho, hintG, hintL] <;> omega⟩ (by simp [e, ho, hintG, hintL] <;> omega) (by first | rfl | (simp [renPV, renV1, renC, e, ho, hintG, hintL]))
      · have ho : hintOk g = false := by simp [hintOk, h3]
        have e : hintR g = g := by simp [hintR, ho]
        repeat' first
          | (first | simp -implicitDefEqProofs only [h3, go_sem] | (refine And.intro ?_ ?_; omega) | (refine And.intro (shr_bd ?_ ?_) ?_; omega; omega) | refine sl_list rfl ?_ | refine sd_list rfl ?_ | refine sl_str ?_ | refine sd_str ?_)
          | refine callL1 (fun d => l37Copy_c d g (by omega)) rfl rfl rfl ?_
        exact fin_of (fun i => i) (fun i => 38) ⟨by simp [e, ho] <;> omega, by simp [e, ho] <;> omega, by simp [e, ho] <;> omega, by simp [e, ho] <;> omega, by simp [e, ho] <;> omega⟩ (by simp [e, ho] <;> omega) (by first | rfl | (simp [renPV, renV1, renC, e, ho]))
    · have ho : hintOk g = false := by simp [hintOk, hintL, h1]
      have e : hintR g = g := by simp [hintR, ho]
      repeat' first
        | (first | simp -implicitDefEqProofs only [h1, go_sem] | (refine And.intro ?_ ?_; omega) | (refine And.intro (shr_bd ?_ ?_) ?_; omega; omega) | refine sl_list rfl ?_ | refine sd_list rfl ?_ | refine sl_str ?_ | refine sd_str ?_)
        | refine callL1 (fun d => l37Copy_c d g (by omega)) rfl rfl rfl ?_
      exact fin_of (fun i => i) (fun i => 38) ⟨by simp [e, ho] <;> omega, by simp [e, ho] <;> omega, by simp [e, ho] <;> omega, by simp [e, ho] <;> omega, by simp [e, ho] <;> omega⟩ (by simp [e, ho] <;> omega) (by first | rfl | (simp [renPV, renV1, renC, e, ho]))
  · have ho : hintOk g = false := by simp [hintOk, h]
    have e : hintR g = g := by simp [hintR, ho]
    repeat' first
      | (first | simp -implicitDefEqProofs only [h, go_sem] | (refine And.intro ?_ ?_; omega) | (refine And.intro (shr_bd ?_ ?_) ?_; omega; omega) | refine sl_list rfl ?_ | refine sd_list rfl ?_ | refine sl_str ?_ | refine sd_str ?_)
      | refine callL1 (fun d => l37Copy_c d g (by omega)) rfl rfl rfl ?_
    exact fin_of (fun i => i) (fun i => 19) ⟨by simp [e, ho] <;> omega, by simp [e, ho] <;> omega, by simp [e, ho] <;> omega, by simp [e, ho] <;> omega, by simp [e, ho] <;> omega⟩ (by simp [e, ho] <;> omega) (by first | rfl | (simp [renPV, renV1, renC, e, ho]))
set_option maxHeartbeats 4000000 in
theorem iUseHint_c (d : Nat) (g : Gm) (hg : GmIn g) (hn : g.j.length ≤ 1048576) : PC Tryz.prog 119 [] [.a (gmL g)] (.t [.a (gmC (hintR g) (.o d)), .c (.v (.bool (hintOk g)))]) ⟨[], [(d, ⟨86, 3, (hintR g).j.map lineV, false, true⟩)]⟩ := by
  refine pc_of Tryz.func119 rfl (by kernel_rfl) _ Tryz.ntmps119 (by simp) ?_
  have h2 := hintG_in hg hn
  have hnow := nowOf_le (g := g)
  repeat' first
    | (first | simp -implicitDefEqProofs only [go_sem] | (refine And.intro ?_ ?_; omega) | (refine And.intro (shr_bd ?_ ?_) ?_; omega; omega) | refine sl_list rfl ?_ | refine sd_list rfl ?_ | refine sl_str ?_ | refine sd_str ?_)
    | refine draw_stepY Tryz.pl_follows (by kernel_rfl) ?_
    | refine callS (iNowOf_c g hg) rfl rfl rfl ?_
    | refine callS (iHintFor_c g.x (nowOf g) hg.x hnow) rfl rfl rfl ?_
  by_cases h : (hintFor g.x (nowOf g)).isSome = true
  · have hok := hint_ok h
    obtain ⟨b0, b1⟩ := gameOk_h hok
    obtain ⟨ex, eh, eu⟩ := makeG_x (g := g) (l := hintL g)
    have c0 : 0 ≤ (makeG g (lineO (hintFor g.x (nowOf g)))).h := by rw [makeG_x.2.1]; exact b0
    have c1 : (makeG g (lineO (hintFor g.x (nowOf g)))).h ≤ 1000 := by rw [makeG_x.2.1]; exact b1
    repeat' first
      | (first | simp -implicitDefEqProofs only [h, go_sem] | (refine And.intro ?_ ?_; omega) | (refine And.intro (shr_bd ?_ ?_) ?_; omega; omega) | refine sl_list rfl ?_ | refine sd_list rfl ?_ | refine sl_str ?_ | refine sd_str ?_)
      | refine callL1 (fun d => iMakeJump_c d g (lineO (hintFor g.x (nowOf g))) hg hn) rfl rfl rfl ?_
    by_cases h1 : makeOk g (lineO (hintFor g.x (nowOf g))) = true
    · (repeat' (first | simp -implicitDefEqProofs only [h1, go_sem] | (refine And.intro ?_ ?_; omega) | (refine And.intro (shr_bd ?_ ?_) ?_; omega; omega) | refine sl_list rfl ?_ | refine sd_list rfl ?_ | refine sl_str ?_ | refine sd_str ?_))
      refine callS (iGameOk_c (hintG g) h2) rfl rfl rfl ?_
      by_cases h3 : gameOk (hintG g) = true
      · have ho : hintOk g = true := by simp [hintOk, h, h3, hintL, h1]
        have e : hintR g = hintG g := by simp [hintR, ho]
        (repeat' (first | simp -implicitDefEqProofs only [h3, go_sem] | (refine And.intro ?_ ?_; omega) | (refine And.intro (shr_bd ?_ ?_) ?_; omega; omega) | refine sl_list rfl ?_ | refine sd_list rfl ?_ | refine sl_str ?_ | refine sd_str ?_))
        exact fin_of (fun i => i) (fun i => 22) ⟨by simp [e, ho, hintG, hintL] <;> omega, by simp [e, ho, hintG, hintL] <;> omega, by simp [e, ho, hintG, hintL] <;> omega, by simp [e, ho, hintG, hintL] <;> omega, by simp [e, ho, hintG, hintL] <;> omega⟩ (by simp [e, ho, hintG, hintL] <;> omega) (by first | rfl | (simp [renPV, renV1, renC, e, ho, hintG, hintL]))
      · have ho : hintOk g = false := by simp [hintOk, h3]
        have e : hintR g = g := by simp [hintR, ho]
        repeat' first
          | (first | simp -implicitDefEqProofs only [h3, go_sem] | (refine And.intro ?_ ?_; omega) | (refine And.intro (shr_bd ?_ ?_) ?_; omega; omega) | refine sl_list rfl ?_ | refine sd_list rfl ?_ | refine sl_str ?_ | refine sd_str ?_)
          | refine callL1 (fun d => iCopyGame_c d g (by omega)) rfl rfl rfl ?_
        exact fin_of (fun i => i) (fun i => 37) ⟨by simp [e, ho] <;> omega, by simp [e, ho] <;> omega, by simp [e, ho] <;> omega, by simp [e, ho] <;> omega, by simp [e, ho] <;> omega⟩ (by simp [e, ho] <;> omega) (by first | rfl | (simp [renPV, renV1, renC, e, ho]))
    · have ho : hintOk g = false := by simp [hintOk, hintL, h1]
      have e : hintR g = g := by simp [hintR, ho]
      repeat' first
        | (first | simp -implicitDefEqProofs only [h1, go_sem] | (refine And.intro ?_ ?_; omega) | (refine And.intro (shr_bd ?_ ?_) ?_; omega; omega) | refine sl_list rfl ?_ | refine sd_list rfl ?_ | refine sl_str ?_ | refine sd_str ?_)
        | refine callL1 (fun d => iCopyGame_c d g (by omega)) rfl rfl rfl ?_
      exact fin_of (fun i => i) (fun i => 37) ⟨by simp [e, ho] <;> omega, by simp [e, ho] <;> omega, by simp [e, ho] <;> omega, by simp [e, ho] <;> omega, by simp [e, ho] <;> omega⟩ (by simp [e, ho] <;> omega) (by first | rfl | (simp [renPV, renV1, renC, e, ho]))
  · have ho : hintOk g = false := by simp [hintOk, h]
    have e : hintR g = g := by simp [hintR, ho]
    repeat' first
      | (first | simp -implicitDefEqProofs only [h, go_sem] | (refine And.intro ?_ ?_; omega) | (refine And.intro (shr_bd ?_ ?_) ?_; omega; omega) | refine sl_list rfl ?_ | refine sd_list rfl ?_ | refine sl_str ?_ | refine sd_str ?_)
      | refine callL1 (fun d => iCopyGame_c d g (by omega)) rfl rfl rfl ?_
    exact fin_of (fun i => i) (fun i => 18) ⟨by simp [e, ho] <;> omega, by simp [e, ho] <;> omega, by simp [e, ho] <;> omega, by simp [e, ho] <;> omega, by simp [e, ho] <;> omega⟩ (by simp [e, ho] <;> omega) (by first | rfl | (simp [renPV, renV1, renC, e, ho]))
noncomputable def askOk (t : Tb) (s : Int) : Bool := tableOk t && (within s 0 100000 && (hintOk t.g && tickOk t.c (s + 10)))
noncomputable def askT (t : Tb) (s : Int) : Tb := if askOk t s = true then layG t (hintR t.g) (tickC t.c (s + 10)) else t
set_option maxHeartbeats 4000000 in
theorem AskHint_c (d e : Nat) (hde : d ≠ e) (t : Tb) (s : Int) (ht : TbS t) : PC Tryz.prog 69 [] [.a (tbL t), .c (.v (.int .i64 s))] (.t [.a (tbC (askT t s) (.o d) (.o e)), .c (.v (.bool (askOk t s)))])
    ⟨[], [(d, ⟨86, 3, (askT t s).g.j.map lineV, false, true⟩), (e, ⟨140, 4, (askT t s).r.map recV, false, true⟩)]⟩ := by
  have hed : e ≠ d := fun h => hde h.symm
  have hj := ht.j
  have hr := ht.r
  refine pc_of Tryz.func69 rfl (by kernel_rfl) _ Tryz.ntmps69 (by simp) ?_
  repeat' first
    | (first | simp -implicitDefEqProofs only [go_sem] | (refine And.intro ?_ ?_; omega) | (refine And.intro (shr_bd ?_ ?_) ?_; omega; omega) | refine sl_list rfl ?_ | refine sd_list rfl ?_ | refine sl_str ?_ | refine sd_str ?_)
    | refine callL2 (fun d e h => l38Copy_c d e h t (by omega) hr) rfl rfl rfl ?_
  refine callS (TableOk_c t ht.tb) rfl rfl rfl ?_
  by_cases h : tableOk t = true
  · by_cases hw : within s 0 100000 = true
    · obtain ⟨s0, s1⟩ := within_iff.1 hw
      repeat' first
        | (first | simp -implicitDefEqProofs only [h, hw, go_sem] | (refine And.intro ?_ ?_; omega) | (refine And.intro (shr_bd ?_ ?_) ?_; omega; omega) | refine sl_list rfl ?_ | refine sd_list rfl ?_ | refine sl_str ?_ | refine sd_str ?_)
        | refine callS (l01In_c _ _ _) rfl rfl rfl ?_
        | refine callL1 (fun d => UseHint_c d t.g ht.tb.g hj) rfl rfl rfl ?_
        | refine callS (TickClock_c t.c (s + 10)) rfl rfl rfl ?_
      by_cases h1 : hintOk t.g = true
      · by_cases h2 : tickOk t.c (s + 10) = true
        · have ho : askOk t s = true := by simp [askOk, h, hw, h1, h2]
          have e1 : askT t s = layG t (hintR t.g) (tickC t.c (s + 10)) := by simp [askT, ho]
          (repeat' (first | simp -implicitDefEqProofs only [h1, h2, go_sem] | (refine And.intro ?_ ?_; omega) | (refine And.intro (shr_bd ?_ ?_) ?_; omega; omega) | refine sl_list rfl ?_ | refine sd_list rfl ?_ | refine sl_str ?_ | refine sd_str ?_))
          exact fin_of (fun i => i) (fun i => if i = d then 25 else 1012) ⟨by simp [e1, ho, hde, hed, layG] <;> omega, by simp [e1, ho, hde, hed, layG] <;> omega, by simp [e1, ho, hde, hed, layG] <;> omega, by simp [e1, ho, hde, hed, layG] <;> omega, by simp [e1, ho, hde, hed, layG] <;> omega⟩ (by simp [e1, ho, hde, hed, layG] <;> omega) (by first | rfl | (simp [renPV, renV1, renC, e1, ho, hde, hed, layG]))
        · have ho : askOk t s = false := by simp [askOk, h2]
          have e1 : askT t s = t := by simp [askT, ho]
          (repeat' (first | simp -implicitDefEqProofs only [h1, h2, go_sem] | (refine And.intro ?_ ?_; omega) | (refine And.intro (shr_bd ?_ ?_) ?_; omega; omega) | refine sl_list rfl ?_ | refine sd_list rfl ?_ | refine sl_str ?_ | refine sd_str ?_))
          exact fin_of (fun i => i) (fun i => if i = d then 12 else 1012) ⟨by simp [e1, ho, hde, hed] <;> omega, by simp [e1, ho, hde, hed] <;> omega, by simp [e1, ho, hde, hed] <;> omega, by simp [e1, ho, hde, hed] <;> omega, by simp [e1, ho, hde, hed] <;> omega⟩ (by simp [e1, ho, hde, hed] <;> omega) (by first | rfl | (simp [renPV, renV1, renC, e1, ho, hde, hed]))
      · have ho : askOk t s = false := by simp [askOk, h1]
        have e1 : askT t s = t := by simp [askT, ho]
        (repeat' (first | simp -implicitDefEqProofs only [h1, go_sem] | (refine And.intro ?_ ?_; omega) | (refine And.intro (shr_bd ?_ ?_) ?_; omega; omega) | refine sl_list rfl ?_ | refine sd_list rfl ?_ | refine sl_str ?_ | refine sd_str ?_))
        exact fin_of (fun i => i) (fun i => if i = d then 12 else 1012) ⟨by simp [e1, ho, hde, hed] <;> omega, by simp [e1, ho, hde, hed] <;> omega, by simp [e1, ho, hde, hed] <;> omega, by simp [e1, ho, hde, hed] <;> omega, by simp [e1, ho, hde, hed] <;> omega⟩ (by simp [e1, ho, hde, hed] <;> omega) (by first | rfl | (simp [renPV, renV1, renC, e1, ho, hde, hed]))
    · have ho : askOk t s = false := by simp [askOk, hw]
      have e1 : askT t s = t := by simp [askT, ho]
      repeat' first
        | (first | simp -implicitDefEqProofs only [h, hw, go_sem] | (refine And.intro ?_ ?_; omega) | (refine And.intro (shr_bd ?_ ?_) ?_; omega; omega) | refine sl_list rfl ?_ | refine sd_list rfl ?_ | refine sl_str ?_ | refine sd_str ?_)
        | refine callS (l01In_c _ _ _) rfl rfl rfl ?_
      exact fin_of (fun i => i) (fun i => if i = d then 12 else 1012) ⟨by simp [e1, ho, hde, hed] <;> omega, by simp [e1, ho, hde, hed] <;> omega, by simp [e1, ho, hde, hed] <;> omega, by simp [e1, ho, hde, hed] <;> omega, by simp [e1, ho, hde, hed] <;> omega⟩ (by simp [e1, ho, hde, hed] <;> omega) (by first | rfl | (simp [renPV, renV1, renC, e1, ho, hde, hed]))
  · have ho : askOk t s = false := by simp [askOk, h]
    have e1 : askT t s = t := by simp [askT, ho]
    (repeat' (first | simp -implicitDefEqProofs only [h, go_sem] | (refine And.intro ?_ ?_; omega) | (refine And.intro (shr_bd ?_ ?_) ?_; omega; omega) | refine sl_list rfl ?_ | refine sd_list rfl ?_ | refine sl_str ?_ | refine sd_str ?_))
    exact fin_of (fun i => i) (fun i => if i = d then 12 else 1012) ⟨by simp [e1, ho, hde, hed] <;> omega, by simp [e1, ho, hde, hed] <;> omega, by simp [e1, ho, hde, hed] <;> omega, by simp [e1, ho, hde, hed] <;> omega, by simp [e1, ho, hde, hed] <;> omega⟩ (by simp [e1, ho, hde, hed] <;> omega) (by first | rfl | (simp [renPV, renV1, renC, e1, ho, hde, hed]))
set_option maxHeartbeats 4000000 in
theorem iAskHint_c (d e : Nat) (hde : d ≠ e) (t : Tb) (s : Int) (ht : TbS t) : PC Tryz.prog 60 [] [.a (tbL t), .c (.v (.int .i64 s))] (.t [.a (tbC (askT t s) (.o d) (.o e)), .c (.v (.bool (askOk t s)))])
    ⟨[], [(d, ⟨86, 3, (askT t s).g.j.map lineV, false, true⟩), (e, ⟨140, 4, (askT t s).r.map recV, false, true⟩)]⟩ := by
  have hed : e ≠ d := fun h => hde h.symm
  have hj := ht.j
  have hr := ht.r
  refine pc_of Tryz.func60 rfl (by kernel_rfl) _ Tryz.ntmps60 (by simp) ?_
  (repeat' (first | simp -implicitDefEqProofs only [go_sem] | (refine And.intro ?_ ?_; omega) | (refine And.intro (shr_bd ?_ ?_) ?_; omega; omega) | refine sl_list rfl ?_ | refine sd_list rfl ?_ | refine sl_str ?_ | refine sd_str ?_))
  refine callS (iTableOk_c t ht.tb) rfl rfl rfl ?_
  by_cases h : tableOk t = true
  · by_cases hw : within s 0 100000 = true
    · obtain ⟨s0, s1⟩ := within_iff.1 hw
      repeat' first
        | (first | simp -implicitDefEqProofs only [h, hw, go_sem] | (refine And.intro ?_ ?_; omega) | (refine And.intro (shr_bd ?_ ?_) ?_; omega; omega) | refine sl_list rfl ?_ | refine sd_list rfl ?_ | refine sl_str ?_ | refine sd_str ?_)
        | refine callS (within_c _ _ _) rfl rfl rfl ?_
        | refine callL1 (fun d => iUseHint_c d t.g ht.tb.g hj) rfl rfl rfl ?_
        | refine callS (iTickClock_c t.c (s + 10)) rfl rfl rfl ?_
      by_cases h1 : hintOk t.g = true
      · by_cases h2 : tickOk t.c (s + 10) = true
        · have ho : askOk t s = true := by simp [askOk, h, hw, h1, h2]
          have e1 : askT t s = layG t (hintR t.g) (tickC t.c (s + 10)) := by simp [askT, ho]
          repeat' first
            | (first | simp -implicitDefEqProofs only [h1, h2, go_sem] | (refine And.intro ?_ ?_; omega) | (refine And.intro (shr_bd ?_ ?_) ?_; omega; omega) | refine sl_list rfl ?_ | refine sd_list rfl ?_ | refine sl_str ?_ | refine sd_str ?_)
            | refine callI (movedT_c 23 1041 (by omega) t (hintR t.g) (tickC t.c (s + 10)) (by omega) hr) ⟨⟨rfl, rfl, rfl⟩, rfl, trivial⟩ rfl rfl rfl ?_
          exact fin_of (fun i => i) (fun i => if i = d then 23 else 1041) ⟨by simp [e1, ho, hde, hed, layG] <;> omega, by simp [e1, ho, hde, hed, layG] <;> omega, by simp [e1, ho, hde, hed, layG] <;> omega, by simp [e1, ho, hde, hed, layG] <;> omega, by simp [e1, ho, hde, hed, layG] <;> omega⟩ (by simp [e1, ho, hde, hed, layG] <;> omega) (by first | rfl | (simp [renPV, renV1, renC, e1, ho, hde, hed, layG]))
        · have ho : askOk t s = false := by simp [askOk, h2]
          have e1 : askT t s = t := by simp [askT, ho]
          repeat' first
            | (first | simp -implicitDefEqProofs only [h1, h2, go_sem] | (refine And.intro ?_ ?_; omega) | (refine And.intro (shr_bd ?_ ?_) ?_; omega; omega) | refine sl_list rfl ?_ | refine sd_list rfl ?_ | refine sl_str ?_ | refine sd_str ?_)
            | refine callL2 (fun d e h => movedF_c d e h t (hintR t.g) (tickC t.c (s + 10)) (by omega) hr) rfl rfl rfl ?_
          exact fin_of (fun i => i) (fun i => if i = d then 41 else 1041) ⟨by simp [e1, ho, hde, hed] <;> omega, by simp [e1, ho, hde, hed] <;> omega, by simp [e1, ho, hde, hed] <;> omega, by simp [e1, ho, hde, hed] <;> omega, by simp [e1, ho, hde, hed] <;> omega⟩ (by simp [e1, ho, hde, hed] <;> omega) (by first | rfl | (simp [renPV, renV1, renC, e1, ho, hde, hed]))
      · have ho : askOk t s = false := by simp [askOk, h1]
        have e1 : askT t s = t := by simp [askT, ho]
        repeat' first
          | (first | simp -implicitDefEqProofs only [h1, go_sem] | (refine And.intro ?_ ?_; omega) | (refine And.intro (shr_bd ?_ ?_) ?_; omega; omega) | refine sl_list rfl ?_ | refine sd_list rfl ?_ | refine sl_str ?_ | refine sd_str ?_)
          | refine callL2 (fun d e h => movedF_c d e h t (hintR t.g) (tickC t.c (s + 10)) (by omega) hr) rfl rfl rfl ?_
        exact fin_of (fun i => i) (fun i => if i = d then 41 else 1041) ⟨by simp [e1, ho, hde, hed] <;> omega, by simp [e1, ho, hde, hed] <;> omega, by simp [e1, ho, hde, hed] <;> omega, by simp [e1, ho, hde, hed] <;> omega, by simp [e1, ho, hde, hed] <;> omega⟩ (by simp [e1, ho, hde, hed] <;> omega) (by first | rfl | (simp [renPV, renV1, renC, e1, ho, hde, hed]))
    · have ho : askOk t s = false := by simp [askOk, hw]
      have e1 : askT t s = t := by simp [askT, ho]
      repeat' first
        | (first | simp -implicitDefEqProofs only [h, hw, go_sem] | (refine And.intro ?_ ?_; omega) | (refine And.intro (shr_bd ?_ ?_) ?_; omega; omega) | refine sl_list rfl ?_ | refine sd_list rfl ?_ | refine sl_str ?_ | refine sd_str ?_)
        | refine callS (within_c _ _ _) rfl rfl rfl ?_
        | refine callL2 (fun d e h => iCopyTable_c d e h t (by omega) hr) rfl rfl rfl ?_
      exact fin_of (fun i => i) (fun i => if i = d then 19 else 1019) ⟨by simp [e1, ho, hde, hed] <;> omega, by simp [e1, ho, hde, hed] <;> omega, by simp [e1, ho, hde, hed] <;> omega, by simp [e1, ho, hde, hed] <;> omega, by simp [e1, ho, hde, hed] <;> omega⟩ (by simp [e1, ho, hde, hed] <;> omega) (by first | rfl | (simp [renPV, renV1, renC, e1, ho, hde, hed]))
  · have ho : askOk t s = false := by simp [askOk, h]
    have e1 : askT t s = t := by simp [askT, ho]
    repeat' first
      | (first | simp -implicitDefEqProofs only [h, go_sem] | (refine And.intro ?_ ?_; omega) | (refine And.intro (shr_bd ?_ ?_) ?_; omega; omega) | refine sl_list rfl ?_ | refine sd_list rfl ?_ | refine sl_str ?_ | refine sd_str ?_)
      | refine callL2 (fun d e h => iCopyTable_c d e h t (by omega) hr) rfl rfl rfl ?_
    exact fin_of (fun i => i) (fun i => if i = d then 19 else 1019) ⟨by simp [e1, ho, hde, hed] <;> omega, by simp [e1, ho, hde, hed] <;> omega, by simp [e1, ho, hde, hed] <;> omega, by simp [e1, ho, hde, hed] <;> omega, by simp [e1, ho, hde, hed] <;> omega⟩ (by simp [e1, ho, hde, hed] <;> omega) (by first | rfl | (simp [renPV, renV1, renC, e1, ho, hde, hed]))
end Go.Proofs.YtahnbliabllflaaGreatDoor
namespace Go.Proofs.YtahnbliabllflaaGreatDoor
open Go.PL
set_option linter.unusedSimpArgs false
def newAt (js : List Ln) (i : Nat) : Bool := decide (i = 0) || match js[i]?, js[i - 1]? with
  | some l, some m => !decide (l.f = m.t)
  | _, _ => false
def sweepsN (js : List Ln) (i : Nat) : Nat := ((List.range i).filter (newAt js)).length
def sweeps (js : List Ln) : Nat := sweepsN js js.length
theorem sw_hit {js : List Ln} {i : Nat} (h : newAt js i = true) : sweepsN js (i + 1) = sweepsN js i + 1 := by simp [sweepsN, List.range_succ, List.filter_append, h]
theorem sw_miss {js : List Ln} {i : Nat} (h : newAt js i = false) : sweepsN js (i + 1) = sweepsN js i := by simp [sweepsN, List.range_succ, List.filter_append, h]
theorem sw_le {js : List Ln} {i : Nat} : sweepsN js i ≤ i := by
  have := List.length_filter_le (newAt js) (List.range i)
  unfold sweepsN; simpa using this
theorem newAt_eq {js : List Ln} {i : Nat} (h0 : i ≠ 0) (h : i < js.length) : newAt js i = !decide (js[i].f = (js[i - 1]'(by omega)).t) := by
  have e1 : js[i]? = some js[i] := by simp [h]
  have e2 : js[i - 1]? = some (js[i - 1]'(by omega)) := List.getElem?_eq_getElem (by omega)
  unfold newAt
  rw [e1, e2]
  simp [h0]
set_option maxHeartbeats 2000000 in
theorem CountSweeps_c (js : List Ln) (hn : js.length ≤ 4194304) : PC Tryz.prog 135 [] [.c (.l 3 (js.map lineV))] (vN (sweeps js)) ⟨[], []⟩ := by
  refine pc_of Tryz.func135 rfl (by kernel_rfl) _ Tryz.ntmps135 (by simp) ?_
  (repeat' (first | simp -implicitDefEqProofs only [go_sem] | (refine And.intro ?_ ?_; omega) | (refine And.intro (shr_bd ?_ ?_) ?_; omega; omega) | refine sl_list rfl ?_ | refine sd_list rfl ?_ | refine sl_str ?_ | refine sd_str ?_))
  refine loop_step (X := Nat) (fun i => ⟨30, [(0, vL 3 (js.map lineV)), (3, vN (sweepsN js i)), (4, vN i)], ⟨[], []⟩⟩)
    (fun i => i ≤ js.length) (fun i => js.length - i) 0 (by omega) (weak_of (fun i => i) (fun i => i) rfl ⟨by simp [sweepsN] <;> omega, by simp [sweepsN] <;> omega, by simp [sweepsN] <;> omega, by simp [sweepsN] <;> omega, by simp [sweepsN] <;> omega⟩ (by simp [sweepsN] <;> omega)) (fun i hi => ?_)
  have hs := sw_le (js := js) (i := i)
  simp -implicitDefEqProofs only [go_sem]
  refine if_splitP (fun h => ?_) (fun h => ?_)
  · have hlt : i < js.length := by omega
    have hg := map_get (f := lineV) hlt
    (repeat' (first | simp -implicitDefEqProofs only [go_sem] | (refine And.intro ?_ ?_; omega) | (refine And.intro (shr_bd ?_ ?_) ?_; omega; omega) | refine sl_list rfl ?_ | refine sd_list rfl ?_ | refine sl_str ?_ | refine sd_str ?_))
    refine draw_step Tryz.pl_follows (by kernel_rfl) ?_
    by_cases h0 : (i : Int) = 0
    · have e1 := sw_hit (js := js) (i := i) (by have : i = 0 := by omega
                                                simp [newAt, this])
      (repeat' (first | simp -implicitDefEqProofs only [h0, go_sem] | (refine And.intro ?_ ?_; omega) | (refine And.intro (shr_bd ?_ ?_) ?_; omega; omega) | refine sl_list rfl ?_ | refine sd_list rfl ?_ | refine sl_str ?_ | refine sd_str ?_))
      exact ⟨i + 1, by omega, by omega, weak_of (fun i => i) (fun i => i) rfl ⟨by simp [e1] <;> omega, by simp [e1] <;> omega, by simp [e1] <;> omega, by simp [e1] <;> omega, by simp [e1] <;> omega⟩ (by simp [e1] <;> omega)⟩
    · have hlt' : i - 1 < js.length := by omega
      have hg' := map_get (f := lineV) hlt'
      have ei : ((i : Int) - 1).toNat = i - 1 := by omega
      have en := newAt_eq (js := js) (i := i) (by omega) hlt
      by_cases hq : js[i].f = js[i - 1].t
      · have e1 := sw_miss (js := js) (i := i) (by rw [en]; simp [hq])
        (repeat' (first | simp -implicitDefEqProofs only [h0, hg, hlt, hg', hlt', ei, lineV, hq, go_sem] | (refine And.intro ?_ ?_; omega) | (refine And.intro (shr_bd ?_ ?_) ?_; omega; omega) | refine sl_list rfl ?_ | refine sd_list rfl ?_ | refine sl_str ?_ | refine sd_str ?_))
        exact ⟨i + 1, by omega, by omega, weak_of (fun i => i) (fun i => i) rfl ⟨by simp [e1] <;> omega, by simp [e1] <;> omega, by simp [e1] <;> omega, by simp [e1] <;> omega, by simp [e1] <;> omega⟩ (by simp [e1] <;> omega)⟩
      · have e1 := sw_hit (js := js) (i := i) (by rw [en]; simp [hq])
        (repeat' (first | simp -implicitDefEqProofs only [h0, hg, hlt, hg', hlt', ei, lineV, hq, go_sem] | (refine And.intro ?_ ?_; omega) | (refine And.intro (shr_bd ?_ ?_) ?_; omega; omega) | refine sl_list rfl ?_ | refine sd_list rfl ?_ | refine sl_str ?_ | refine sd_str ?_))
        exact ⟨i + 1, by omega, by omega, weak_of (fun i => i) (fun i => i) rfl ⟨by simp [e1] <;> omega, by simp [e1] <;> omega, by simp [e1] <;> omega, by simp [e1] <;> omega, by simp [e1] <;> omega⟩ (by simp [e1] <;> omega)⟩
  · have hle : i = js.length := by omega
    subst hle
    (repeat' (first | simp -implicitDefEqProofs only [go_sem] | (refine And.intro ?_ ?_; omega) | (refine And.intro (shr_bd ?_ ?_) ?_; omega; omega) | refine sl_list rfl ?_ | refine sd_list rfl ?_ | refine sl_str ?_ | refine sd_str ?_))
    exact fin_scal rfl rfl
set_option maxHeartbeats 2000000 in
theorem iCountSweeps_c (js : List Ln) (hn : js.length ≤ 4194304) : PC Tryz.prog 122 [] [.c (.l 3 (js.map lineV))] (vN (sweeps js)) ⟨[], []⟩ := by
  refine pc_of Tryz.func122 rfl (by kernel_rfl) _ Tryz.ntmps122 (by simp) ?_
  (repeat' (first | simp -implicitDefEqProofs only [go_sem] | (refine And.intro ?_ ?_; omega) | (refine And.intro (shr_bd ?_ ?_) ?_; omega; omega) | refine sl_list rfl ?_ | refine sd_list rfl ?_ | refine sl_str ?_ | refine sd_str ?_))
  refine loop_step (X := Nat) (fun i => ⟨30, [(0, vL 3 (js.map lineV)), (3, vN (sweepsN js i)), (6, vL 3 (js.map lineV)), (7, vN js.length), (8, vN i)], ⟨[], []⟩⟩)
    (fun i => i ≤ js.length) (fun i => js.length - i) 0 (by omega) (weak_of (fun i => i) (fun i => i) rfl ⟨by simp [sweepsN] <;> omega, by simp [sweepsN] <;> omega, by simp [sweepsN] <;> omega, by simp [sweepsN] <;> omega, by simp [sweepsN] <;> omega⟩ (by simp [sweepsN] <;> omega)) (fun i hi => ?_)
  have hs := sw_le (js := js) (i := i)
  simp -implicitDefEqProofs only [go_sem]
  refine if_splitP (fun h => ?_) (fun h => ?_)
  · have hlt : i < js.length := by omega
    have hg := map_get (f := lineV) hlt
    (repeat' (first | simp -implicitDefEqProofs only [hg, hlt, lineV, go_sem] | (refine And.intro ?_ ?_; omega) | (refine And.intro (shr_bd ?_ ?_) ?_; omega; omega) | refine sl_list rfl ?_ | refine sd_list rfl ?_ | refine sl_str ?_ | refine sd_str ?_))
    refine draw_step Tryz.pl_follows (by kernel_rfl) ?_
    by_cases h0 : (i : Int) = 0
    · have e1 := sw_hit (js := js) (i := i) (by have : i = 0 := by omega
                                                simp [newAt, this])
      (repeat' (first | simp -implicitDefEqProofs only [h0, go_sem] | (refine And.intro ?_ ?_; omega) | (refine And.intro (shr_bd ?_ ?_) ?_; omega; omega) | refine sl_list rfl ?_ | refine sd_list rfl ?_ | refine sl_str ?_ | refine sd_str ?_))
      exact ⟨i + 1, by omega, by omega, weak_of (fun i => i) (fun i => i) rfl ⟨by simp [e1] <;> omega, by simp [e1] <;> omega, by simp [e1] <;> omega, by simp [e1] <;> omega, by simp [e1] <;> omega⟩ (by simp [e1] <;> omega)⟩
    · have hlt' : i - 1 < js.length := by omega
      have hg' := map_get (f := lineV) hlt'
      have ei : ((i : Int) - 1).toNat = i - 1 := by omega
      have en := newAt_eq (js := js) (i := i) (by omega) hlt
      by_cases hq : js[i - 1].t = js[i].f
      · have e1 := sw_miss (js := js) (i := i) (by rw [en]; simp [hq])
        (repeat' (first | simp -implicitDefEqProofs only [h0, hg, hlt, hg', hlt', ei, lineV, hq, go_sem] | (refine And.intro ?_ ?_; omega) | (refine And.intro (shr_bd ?_ ?_) ?_; omega; omega) | refine sl_list rfl ?_ | refine sd_list rfl ?_ | refine sl_str ?_ | refine sd_str ?_))
        exact ⟨i + 1, by omega, by omega, weak_of (fun i => i) (fun i => i) rfl ⟨by simp [e1] <;> omega, by simp [e1] <;> omega, by simp [e1] <;> omega, by simp [e1] <;> omega, by simp [e1] <;> omega⟩ (by simp [e1] <;> omega)⟩
      · have hq' : ¬ js[i].f = js[i - 1].t := fun h => hq h.symm
        have e1 := sw_hit (js := js) (i := i) (by rw [en]; simp [hq'])
        (repeat' (first | simp -implicitDefEqProofs only [h0, hg, hlt, hg', hlt', ei, lineV, hq, go_sem] | (refine And.intro ?_ ?_; omega) | (refine And.intro (shr_bd ?_ ?_) ?_; omega; omega) | refine sl_list rfl ?_ | refine sd_list rfl ?_ | refine sl_str ?_ | refine sd_str ?_))
        exact ⟨i + 1, by omega, by omega, weak_of (fun i => i) (fun i => i) rfl ⟨by simp [e1] <;> omega, by simp [e1] <;> omega, by simp [e1] <;> omega, by simp [e1] <;> omega, by simp [e1] <;> omega⟩ (by simp [e1] <;> omega)⟩
  · have hle : i = js.length := by omega
    subst hle
    (repeat' (first | simp -implicitDefEqProofs only [go_sem] | (refine And.intro ?_ ?_; omega) | (refine And.intro (shr_bd ?_ ?_) ?_; omega; omega) | refine sl_list rfl ?_ | refine sd_list rfl ?_ | refine sl_str ?_ | refine sd_str ?_))
    exact fin_scal rfl rfl
theorem enter_no {rs : List Rec} {r : Rec} (h : (enterRecord rs r).2 = false) : (enterRecord rs r).1 = rs := by
  unfold enterRecord at h ⊢
  split
  · split
    · rename_i h1 h2
      simp [h1, h2] at h
    · rfl
  · rfl
def claimR (t : Tb) (n day : Int) : Rec := ⟨n, t.n, sweeps t.g.j, day⟩
def claimOk (t : Tb) (n day : Int) : Bool := tableOk t && (isWon t.g && (decide (t.g.h = 0) && (enterRecord t.r (claimR t n day)).2))
def claimT (t : Tb) (n day : Int) : Tb := if claimOk t n day = true then { t with r := (enterRecord t.r (claimR t n day)).1 } else t
set_option maxHeartbeats 4000000 in
theorem ClaimRecord_c (d e : Nat) (hde : d ≠ e) (t : Tb) (n day : Int) (ht : TbS t) : PC Tryz.prog 71 [] [.a (tbL t), .c (.v (.int .i64 n)), .c (.v (.int .i64 day))] (.t [.a (tbC (claimT t n day) (.o d) (.o e)), .c (.v (.bool (claimOk t n day)))])
    ⟨[], [(d, ⟨86, 3, (claimT t n day).g.j.map lineV, false, true⟩), (e, ⟨140, 4, (claimT t n day).r.map recV, false, true⟩)]⟩ := by
  have hed : e ≠ d := fun h => hde h.symm
  have hj := ht.j
  have hr := ht.r
  refine pc_of Tryz.func71 rfl (by kernel_rfl) _ Tryz.ntmps71 (by simp) ?_
  repeat' first
    | (first | simp -implicitDefEqProofs only [go_sem] | (refine And.intro ?_ ?_; omega) | (refine And.intro (shr_bd ?_ ?_) ?_; omega; omega) | refine sl_list rfl ?_ | refine sd_list rfl ?_ | refine sl_str ?_ | refine sd_str ?_)
    | refine callL2 (fun d e h => l38Copy_c d e h t (by omega) hr) rfl rfl rfl ?_
  refine callS (TableOk_c t ht.tb) rfl rfl rfl ?_
  by_cases h : tableOk t = true
  · (repeat' (first | simp -implicitDefEqProofs only [h, go_sem] | (refine And.intro ?_ ?_; omega) | (refine And.intro (shr_bd ?_ ?_) ?_; omega; omega) | refine sl_list rfl ?_ | refine sd_list rfl ?_ | refine sl_str ?_ | refine sd_str ?_))
    refine callS (IsWon_c t.g ht.tb.g) rfl rfl rfl ?_
    by_cases h1 : isWon t.g = true
    · by_cases h2 : t.g.h = 0
      · repeat' first
          | (first | simp -implicitDefEqProofs only [h1, h2, go_sem] | (refine And.intro ?_ ?_; omega) | (refine And.intro (shr_bd ?_ ?_) ?_; omega; omega) | refine sl_list rfl ?_ | refine sd_list rfl ?_ | refine sl_str ?_ | refine sd_str ?_)
          | refine draw_stepY Tryz.pl_follows (by kernel_rfl) ?_
          | refine callS (CountSweeps_c t.g.j (by omega)) rfl rfl rfl ?_
          | refine callL1 (fun d => EnterRecord_c d t.r (claimR t n day) hr) rfl rfl rfl ?_
        by_cases h3 : (enterRecord t.r (claimR t n day)).2 = true
        · have ho : claimOk t n day = true := by simp [claimOk, h, h1, h2, h3]
          have e1 : claimT t n day = { t with r := (enterRecord t.r (claimR t n day)).1 } := by simp [claimT, ho]
          (repeat' (first | simp -implicitDefEqProofs only [h3, go_sem] | (refine And.intro ?_ ?_; omega) | (refine And.intro (shr_bd ?_ ?_) ?_; omega; omega) | refine sl_list rfl ?_ | refine sd_list rfl ?_ | refine sl_str ?_ | refine sd_str ?_))
          exact fin_of (fun i => i) (fun i => if i = d then 12 else 41) ⟨by simp [e1, ho, hde, hed, h2] <;> omega, by simp [e1, ho, hde, hed, h2] <;> omega, by simp [e1, ho, hde, hed, h2] <;> omega, by simp [e1, ho, hde, hed, h2] <;> omega, by simp [e1, ho, hde, hed, h2] <;> omega⟩ (by simp [e1, ho, hde, hed, h2] <;> omega) (by first | rfl | (simp [renPV, renV1, renC, e1, ho, hde, hed, h2]))
        · have ho : claimOk t n day = false := by simp [claimOk, h3]
          have e1 : claimT t n day = t := by simp [claimT, ho]
          (repeat' (first | simp -implicitDefEqProofs only [h3, go_sem] | (refine And.intro ?_ ?_; omega) | (refine And.intro (shr_bd ?_ ?_) ?_; omega; omega) | refine sl_list rfl ?_ | refine sd_list rfl ?_ | refine sl_str ?_ | refine sd_str ?_))
          exact fin_of (fun i => i) (fun i => if i = d then 12 else 1012) ⟨by simp [e1, ho, hde, hed, h2] <;> omega, by simp [e1, ho, hde, hed, h2] <;> omega, by simp [e1, ho, hde, hed, h2] <;> omega, by simp [e1, ho, hde, hed, h2] <;> omega, by simp [e1, ho, hde, hed, h2] <;> omega⟩ (by simp [e1, ho, hde, hed, h2] <;> omega) (by first | rfl | (simp [renPV, renV1, renC, e1, ho, hde, hed, h2]))
      · have ho : claimOk t n day = false := by simp [claimOk, h2]
        have e1 : claimT t n day = t := by simp [claimT, ho]
        (repeat' (first | simp -implicitDefEqProofs only [h1, h2, go_sem] | (refine And.intro ?_ ?_; omega) | (refine And.intro (shr_bd ?_ ?_) ?_; omega; omega) | refine sl_list rfl ?_ | refine sd_list rfl ?_ | refine sl_str ?_ | refine sd_str ?_))
        exact fin_of (fun i => i) (fun i => if i = d then 12 else 1012) ⟨by simp [e1, ho, hde, hed] <;> omega, by simp [e1, ho, hde, hed] <;> omega, by simp [e1, ho, hde, hed] <;> omega, by simp [e1, ho, hde, hed] <;> omega, by simp [e1, ho, hde, hed] <;> omega⟩ (by simp [e1, ho, hde, hed] <;> omega) (by first | rfl | (simp [renPV, renV1, renC, e1, ho, hde, hed]))
    · have ho : claimOk t n day = false := by simp [claimOk, h1]
      have e1 : claimT t n day = t := by simp [claimT, ho]
      (repeat' (first | simp -implicitDefEqProofs only [h1, go_sem] | (refine And.intro ?_ ?_; omega) | (refine And.intro (shr_bd ?_ ?_) ?_; omega; omega) | refine sl_list rfl ?_ | refine sd_list rfl ?_ | refine sl_str ?_ | refine sd_str ?_))
      exact fin_of (fun i => i) (fun i => if i = d then 12 else 1012) ⟨by simp [e1, ho, hde, hed] <;> omega, by simp [e1, ho, hde, hed] <;> omega, by simp [e1, ho, hde, hed] <;> omega, by simp [e1, ho, hde, hed] <;> omega, by simp [e1, ho, hde, hed] <;> omega⟩ (by simp [e1, ho, hde, hed] <;> omega) (by first | rfl | (simp [renPV, renV1, renC, e1, ho, hde, hed]))
  · have ho : claimOk t n day = false := by simp [claimOk, h]
    have e1 : claimT t n day = t := by simp [claimT, ho]
    (repeat' (first | simp -implicitDefEqProofs only [h, go_sem] | (refine And.intro ?_ ?_; omega) | (refine And.intro (shr_bd ?_ ?_) ?_; omega; omega) | refine sl_list rfl ?_ | refine sd_list rfl ?_ | refine sl_str ?_ | refine sd_str ?_))
    exact fin_of (fun i => i) (fun i => if i = d then 12 else 1012) ⟨by simp [e1, ho, hde, hed] <;> omega, by simp [e1, ho, hde, hed] <;> omega, by simp [e1, ho, hde, hed] <;> omega, by simp [e1, ho, hde, hed] <;> omega, by simp [e1, ho, hde, hed] <;> omega⟩ (by simp [e1, ho, hde, hed] <;> omega) (by first | rfl | (simp [renPV, renV1, renC, e1, ho, hde, hed]))
set_option maxHeartbeats 4000000 in
theorem iClaimRecord_c (d e : Nat) (hde : d ≠ e) (t : Tb) (n day : Int) (ht : TbS t) : PC Tryz.prog 62 [] [.a (tbL t), .c (.v (.int .i64 n)), .c (.v (.int .i64 day))] (.t [.a (tbC (claimT t n day) (.o d) (.o e)), .c (.v (.bool (claimOk t n day)))])
    ⟨[], [(d, ⟨86, 3, (claimT t n day).g.j.map lineV, false, true⟩), (e, ⟨140, 4, (claimT t n day).r.map recV, false, true⟩)]⟩ := by
  have hed : e ≠ d := fun h => hde h.symm
  have hj := ht.j
  have hr := ht.r
  refine pc_of Tryz.func62 rfl (by kernel_rfl) _ Tryz.ntmps62 (by simp) ?_
  repeat' first
    | (first | simp -implicitDefEqProofs only [go_sem] | (refine And.intro ?_ ?_; omega) | (refine And.intro (shr_bd ?_ ?_) ?_; omega; omega) | refine sl_list rfl ?_ | refine sd_list rfl ?_ | refine sl_str ?_ | refine sd_str ?_)
    | refine callL2 (fun d e h => iCopyTable_c d e h t (by omega) hr) rfl rfl rfl ?_
  refine callS (iTableOk_c t ht.tb) rfl rfl rfl ?_
  by_cases h : tableOk t = true
  · (repeat' (first | simp -implicitDefEqProofs only [h, go_sem] | (refine And.intro ?_ ?_; omega) | (refine And.intro (shr_bd ?_ ?_) ?_; omega; omega) | refine sl_list rfl ?_ | refine sd_list rfl ?_ | refine sl_str ?_ | refine sd_str ?_))
    refine callS (iIsWon_c t.g ht.tb.g) rfl rfl rfl ?_
    by_cases h1 : isWon t.g = true
    · by_cases h2 : t.g.h = 0
      · repeat' first
          | (first | simp -implicitDefEqProofs only [h1, h2, go_sem] | (refine And.intro ?_ ?_; omega) | (refine And.intro (shr_bd ?_ ?_) ?_; omega; omega) | refine sl_list rfl ?_ | refine sd_list rfl ?_ | refine sl_str ?_ | refine sd_str ?_)
          | refine draw_stepY Tryz.pl_follows (by kernel_rfl) ?_
          | refine callS (iCountSweeps_c t.g.j (by omega)) rfl rfl rfl ?_
          | refine callL1 (fun d => iEnterRecord_c d t.r (claimR t n day) hr) rfl rfl rfl ?_
        by_cases h3 : (enterRecord t.r (claimR t n day)).2 = true
        · have ho : claimOk t n day = true := by simp [claimOk, h, h1, h2, h3]
          have e1 : claimT t n day = { t with r := (enterRecord t.r (claimR t n day)).1 } := by simp [claimT, ho]
          exact fin_of (fun i => i) (fun i => if i = d then 13 else 43) ⟨by simp [e1, ho, h3, hde, hed, h2] <;> omega, by simp [e1, ho, h3, hde, hed, h2] <;> omega, by simp [e1, ho, h3, hde, hed, h2] <;> omega, by simp [e1, ho, h3, hde, hed, h2] <;> omega, by simp [e1, ho, h3, hde, hed, h2] <;> omega⟩ (by simp [e1, ho, h3, hde, hed, h2] <;> omega) (by first | rfl | (simp [renPV, renV1, renC, e1, ho, h3, hde, hed, h2]))
        · have h3' : (enterRecord t.r (claimR t n day)).2 = false := by simpa using h3
          have e2 := enter_no h3'
          have ho : claimOk t n day = false := by simp [claimOk, h3]
          have e1 : claimT t n day = t := by simp [claimT, ho]
          exact fin_of (fun i => i) (fun i => if i = d then 13 else 43) ⟨by simp [e1, ho, h3', e2, hde, hed, h2] <;> omega, by simp [e1, ho, h3', e2, hde, hed, h2] <;> omega, by simp [e1, ho, h3', e2, hde, hed, h2] <;> omega, by simp [e1, ho, h3', e2, hde, hed, h2] <;> omega, by simp [e1, ho, h3', e2, hde, hed, h2] <;> omega⟩ (by simp [e1, ho, h3', e2, hde, hed, h2] <;> omega) (by first | rfl | (simp [renPV, renV1, renC, e1, ho, h3', e2, hde, hed, h2]))
      · have ho : claimOk t n day = false := by simp [claimOk, h2]
        have e1 : claimT t n day = t := by simp [claimT, ho]
        (repeat' (first | simp -implicitDefEqProofs only [h1, h2, go_sem] | (refine And.intro ?_ ?_; omega) | (refine And.intro (shr_bd ?_ ?_) ?_; omega; omega) | refine sl_list rfl ?_ | refine sd_list rfl ?_ | refine sl_str ?_ | refine sd_str ?_))
        exact fin_of (fun i => i) (fun i => if i = d then 13 else 1013) ⟨by simp [e1, ho, hde, hed] <;> omega, by simp [e1, ho, hde, hed] <;> omega, by simp [e1, ho, hde, hed] <;> omega, by simp [e1, ho, hde, hed] <;> omega, by simp [e1, ho, hde, hed] <;> omega⟩ (by simp [e1, ho, hde, hed] <;> omega) (by first | rfl | (simp [renPV, renV1, renC, e1, ho, hde, hed]))
    · have ho : claimOk t n day = false := by simp [claimOk, h1]
      have e1 : claimT t n day = t := by simp [claimT, ho]
      (repeat' (first | simp -implicitDefEqProofs only [h1, go_sem] | (refine And.intro ?_ ?_; omega) | (refine And.intro (shr_bd ?_ ?_) ?_; omega; omega) | refine sl_list rfl ?_ | refine sd_list rfl ?_ | refine sl_str ?_ | refine sd_str ?_))
      exact fin_of (fun i => i) (fun i => if i = d then 13 else 1013) ⟨by simp [e1, ho, hde, hed] <;> omega, by simp [e1, ho, hde, hed] <;> omega, by simp [e1, ho, hde, hed] <;> omega, by simp [e1, ho, hde, hed] <;> omega, by simp [e1, ho, hde, hed] <;> omega⟩ (by simp [e1, ho, hde, hed] <;> omega) (by first | rfl | (simp [renPV, renV1, renC, e1, ho, hde, hed]))
  · have ho : claimOk t n day = false := by simp [claimOk, h]
    have e1 : claimT t n day = t := by simp [claimT, ho]
    (repeat' (first | simp -implicitDefEqProofs only [h, go_sem] | (refine And.intro ?_ ?_; omega) | (refine And.intro (shr_bd ?_ ?_) ?_; omega; omega) | refine sl_list rfl ?_ | refine sd_list rfl ?_ | refine sl_str ?_ | refine sd_str ?_))
    exact fin_of (fun i => i) (fun i => if i = d then 13 else 1013) ⟨by simp [e1, ho, hde, hed] <;> omega, by simp [e1, ho, hde, hed] <;> omega, by simp [e1, ho, hde, hed] <;> omega, by simp [e1, ho, hde, hed] <;> omega, by simp [e1, ho, hde, hed] <;> omega⟩ (by simp [e1, ho, hde, hed] <;> omega) (by first | rfl | (simp [renPV, renV1, renC, e1, ho, hde, hed]))
end Go.Proofs.YtahnbliabllflaaGreatDoor
