/-
  Drawn games: what holds of hints.
-/
import Derived.Test.YtggejdgohkfmmaaGreatS5
import Derived.Test.YtggejdgohkfmmaaGreatR4
namespace Go.Proofs.YtggejdgohkfmmaaGreat
open Go.PL
set_option linter.unusedSimpArgs false
/-- what holds of a hint that is used -/
structure Hinted (g : Gm) : Prop where
  ok : hintOk g = true
  rch : canReach g.x.b (nowOf g) g.x.g = true
  ne : nowOf g ≠ g.x.g
  h : (hintR g).h = g.h + 1
  x : (hintR g).x = g.x
  now : canReach g.x.b (nowOf (hintR g)) g.x.g = true
  len : (hintR g).j.length = g.j.length + 1
theorem hint_law {g : Gm} (h : DrawnG g) : Hinted g ∨ (hintOk g = false ∧ ¬ (canReach g.x.b (nowOf g) g.x.g = true ∧ nowOf g ≠ g.x.g)) := by
  obtain ⟨r, P⟩ := game_pl h
  have hh := h.h
  have hu := h.u
  have hlen := P.len
  have hx' := P.px
  simp only [puzzleOk, Bool.and_eq_true] at hx'
  obtain ⟨hs, hps, hpg⟩ := hx'
  obtain ⟨hb, g0, hgs⟩ := pos_sub hpg
  obtain ⟨q, eq⟩ : ∃ q : Nat, g.x.g = q := ⟨g.x.g.toNat, by omega⟩
  have hpg' := hpg
  rw [eq] at hpg'
  have hf : ∀ l, flip (r : Int) l = ((r ^^^ bitsL l : Nat) : Int) := fun l => by simp [flip]
  by_cases hc : canReach g.x.b (nowOf g) g.x.g = true ∧ nowOf g ≠ g.x.g
  · left
    obtain ⟨c1, c2⟩ := hc
    have c1' := c1
    rw [canReach_back, P.now, eq] at c1'
    rw [P.now, eq] at c2
    obtain ⟨l0, hl0, hh0⟩ := way_more hpg' hs c1' (by omega)
    have hne : goodJ g.x.b (r : Int) g.x.g ≠ [] := fun e => by
      have : l0 ∈ goodJ g.x.b (r : Int) g.x.g := List.mem_filter.2 ⟨hl0, by simp only [goodAt', hf, eq]; exact hh0⟩
      rw [e] at this; simp at this
    obtain ⟨l, t, elt⟩ := List.exists_cons_of_ne_nil hne
    have hl : l ∈ goodJ g.x.b (r : Int) g.x.g := by rw [elt]; simp
    obtain ⟨hlj, hlg⟩ := List.mem_filter.1 hl
    have hhint : hintFor g.x (nowOf g) = some l := by
      rw [P.now]
      simp [hintFor, P.px, P.pos, elt]
    have hL : hintL g = l := by simp [hintL, hhint, lineO]
    have J := jumped h (l := l) (by rw [P.now]; exact hlj)
    have hcj := jumps_can hlj
    have a1 := gameOk_mk (x := g.x) (j := g.j ++ [l]) (h := g.h + 1) (u := g.u) P.px (playF_snoc P.ply hcj) (by simp; omega) (by omega) (by omega)
    have eG : hintG g = ⟨g.x, g.j ++ [l], g.h + 1, g.u⟩ := by simp [hintG, hL, J.m2, addG]
    have ok : hintOk g = true := by simp [hintOk, hhint, hL, J.m1, eG, a1.1]
    have eR : hintR g = ⟨g.x, g.j ++ [l], g.h + 1, g.u⟩ := by simp [hintR, ok, eG]
    refine ⟨ok, c1, by rw [P.now, eq]; exact c2, by rw [eR], by rw [eR], ?_, by rw [eR]; simp⟩
    rw [eR, a1.2, canReach_back]
    exact hlg
  · right
    refine ⟨?_, hc⟩
    have hnone : goodJ g.x.b (r : Int) g.x.g = [] := by
      cases hg : goodJ g.x.b (r : Int) g.x.g with
      | nil => rfl
      | cons l t =>
        exfalso
        have hl : l ∈ goodJ g.x.b (r : Int) g.x.g := by rw [hg]; simp
        obtain ⟨hlj, hlg⟩ := List.mem_filter.1 hl
        obtain ⟨_, hm, hcj⟩ := jumps_mem hlj
        have hpj := pegs_jump hm hcj
        simp only [goodAt', hf, eq] at hlg
        have hr := (has_spread.1 hlg).2.2.2
        rw [Int.toNat_natCast, Int.toNat_natCast] at hr
        apply hc
        refine ⟨?_, fun e => ?_⟩
        · rw [canReach_back, P.now, eq]
          have ha : able false r l = true := by simpa [able] using hcj
          have hst := Rch.step (r ^^^ bitsL l) l hr hm (able_turn hm false ha)
          rw [xor_xor] at hst
          exact has_spread.2 ⟨hs, hpg', P.pos, by rw [Int.toNat_natCast, Int.toNat_natCast]; exact hst⟩
        · rw [P.now, eq] at e
          have e : r = q := by omega
          subst e
          rcases rch_pegs hr with e | e
          · rw [e] at hpj; omega
          · omega
    have hhint : hintFor g.x (nowOf g) = none := by
      rw [P.now]
      simp [hintFor, hnone]
    simp [hintOk, hhint]
theorem new_now {x : Pz} (h : puzzleOk x = true) : nowOf (⟨x, [], 0, 0⟩ : Gm) = x.s :=
  (gameOk_mk (r := x.s) h rfl (by simp) (by omega) (by omega)).2
theorem ne_lnF {t : TypeId} {K : Value → Prop} {x : Ln} (hs : intS Tryz.prog t 3 = true) (hK : K (.bool false)) : binR Tryz.prog .neq t K (.s (.a (lineC x))) (.s (.a (lineC x))) :=
  ne_ints [x.f, x.o, x.t] [x.f, x.o, x.t] 3 hs rfl rfl (by simpa using hK)
theorem SameJumps_c (ls : List Ln) (hn : ls.length ≤ 1048576) : PC Tryz.prog 10 [] [.c (.l 3 (ls.map lineV)), .c (.l 3 (ls.map lineV))] (vB true) ⟨[], []⟩ := by
  refine pc_of Tryz.func10 rfl (by kernel_rfl) _ Tryz.ntmps10 (by simp) ?_
  (repeat' (first | simp -implicitDefEqProofs only [go_sem] | (refine And.intro ?_ ?_; omega) | (refine And.intro (shr_bd ?_ ?_) ?_; omega; omega) | refine sl_list rfl ?_ | refine sd_list rfl ?_ | refine sl_str ?_ | refine sd_str ?_))
  refine loop_step (X := Nat) (fun i => ⟨26, [(0, vL 3 (ls.map lineV)), (1, vL 3 (ls.map lineV)), (5, vN i)], ⟨[], []⟩⟩)
    (fun i => i ≤ ls.length) (fun i => ls.length - i) 0 (by omega) (weak_of (fun i => i) (fun i => i) rfl ⟨by simp [boxesR, listsR, csR, renC, keyC, optK, fnd, envR, St.get, keyPV, keyV1, renPV, renV1, hasKey, made_zero] <;> omega, by simp [boxesR, listsR, csR, renC, keyC, optK, fnd, envR, St.get, keyPV, keyV1, renPV, renV1, hasKey, made_zero] <;> omega, by simp [boxesR, listsR, csR, renC, keyC, optK, fnd, envR, St.get, keyPV, keyV1, renPV, renV1, hasKey, made_zero] <;> omega, by simp [boxesR, listsR, csR, renC, keyC, optK, fnd, envR, St.get, keyPV, keyV1, renPV, renV1, hasKey, made_zero] <;> omega, by simp [boxesR, listsR, csR, renC, keyC, optK, fnd, envR, St.get, keyPV, keyV1, renPV, renV1, hasKey, made_zero] <;> omega⟩ (by simp [boxesR, listsR, csR, renC, keyC, optK, fnd, envR, St.get, keyPV, keyV1, renPV, renV1, hasKey, made_zero] <;> omega)) (fun i hi => ?_)
  by_cases hlt : i < ls.length
  · have e0 : ((i : Int) < ls.length) = True := eq_true (by omega)
    have h1 := map_get (f := lineV) hlt
    repeat' first
      | (first | simp -implicitDefEqProofs only [e0, h1, lineV, go_sem] | (refine And.intro ?_ ?_; omega) | (refine And.intro (shr_bd ?_ ?_) ?_; omega; omega) | refine sl_list rfl ?_ | refine sd_list rfl ?_ | refine sl_str ?_ | refine sd_str ?_)
      | refine draw_step Tryz.pl_follows (by kernel_rfl) ?_
      | refine ne_lnF (by kernel_rfl) ?_
    exact ⟨i + 1, by omega, by omega, weak_of (fun i => i) (fun i => i) rfl ⟨by simp [boxesR, listsR, csR, renC, keyC, optK, fnd, envR, St.get, keyPV, keyV1, renPV, renV1, hasKey, made_zero] <;> omega, by simp [boxesR, listsR, csR, renC, keyC, optK, fnd, envR, St.get, keyPV, keyV1, renPV, renV1, hasKey, made_zero] <;> omega, by simp [boxesR, listsR, csR, renC, keyC, optK, fnd, envR, St.get, keyPV, keyV1, renPV, renV1, hasKey, made_zero] <;> omega, by simp [boxesR, listsR, csR, renC, keyC, optK, fnd, envR, St.get, keyPV, keyV1, renPV, renV1, hasKey, made_zero] <;> omega, by simp [boxesR, listsR, csR, renC, keyC, optK, fnd, envR, St.get, keyPV, keyV1, renPV, renV1, hasKey, made_zero] <;> omega⟩ (by simp [boxesR, listsR, csR, renC, keyC, optK, fnd, envR, St.get, keyPV, keyV1, renPV, renV1, hasKey, made_zero] <;> omega)⟩
  · have e0 : ((i : Int) < ls.length) = False := eq_false (by omega)
    (repeat' (first | simp -implicitDefEqProofs only [e0, go_sem] | (refine And.intro ?_ ?_; omega) | (refine And.intro (shr_bd ?_ ?_) ?_; omega; omega) | refine sl_list rfl ?_ | refine sd_list rfl ?_ | refine sl_str ?_ | refine sd_str ?_))
    exact fin_scal rfl rfl
end Go.Proofs.YtggejdgohkfmmaaGreat
