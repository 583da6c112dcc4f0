/-
  Drawn games: what holds of hints.
-/
import Derived.Test.YtahnbliabllflaaGreatDoorS5
import Derived.Test.YtahnbliabllflaaGreatDoorR4
namespace Go.Proofs.YtahnbliabllflaaGreatDoor
open Go.PL
set_option linter.unusedSimpArgs false
structure Hinted (g : Gm) : Prop where
  ok : hintOk g = true
  rch : canReach g.x.b (nowOf g) g.x.g = true
  ne : nowOf g ≠ g.x.g
  h : (hintR g).h = g.h + 1
  x : (hintR g).x = g.x
  now : canReach g.x.b (nowOf (hintR g)) g.x.g = true
  len : (hintR g).j.length = g.j.length + 1
theorem ne_lnF {t : TypeId} {K : Value → Prop} {x : Ln} (hs : intS Tryz.prog t 3 = true) (hK : K (.bool false)) : binR Tryz.prog .neq t K (.s (.a (lineC x))) (.s (.a (lineC x))) :=
  ne_ints [x.f, x.o, x.t] [x.f, x.o, x.t] 3 hs rfl rfl (by simpa using hK)
theorem SameJumps_c (ls : List Ln) (hn : ls.length ≤ 1048576) : PC Tryz.prog 27 [] [.c (.l 3 (ls.map lineV)), .c (.l 3 (ls.map lineV))] (vB true) ⟨[], []⟩ := by
  refine pc_of Tryz.func27 rfl (by kernel_rfl) _ Tryz.ntmps27 (by simp) ?_
  (repeat' (first | simp -implicitDefEqProofs only [go_sem] | (refine And.intro ?_ ?_; omega) | (refine And.intro (shr_bd ?_ ?_) ?_; omega; omega) | refine sl_list rfl ?_ | refine sd_list rfl ?_ | refine sl_str ?_ | refine sd_str ?_))
  refine loop_step (X := Nat) (fun i => ⟨26, [(0, vL 3 (ls.map lineV)), (1, vL 3 (ls.map lineV)), (5, vN i)], ⟨[], []⟩⟩)
    (fun i => i ≤ ls.length) (fun i => ls.length - i) 0 (by omega) (weak_of (fun i => i) (fun i => i) rfl ⟨by simp <;> omega, by simp <;> omega, by simp <;> omega, by simp <;> omega, by simp <;> omega⟩ (by simp <;> omega)) (fun i hi => ?_)
  by_cases hlt : i < ls.length
  · have e0 : ((i : Int) < ls.length) = True := eq_true (by omega)
    have h1 := map_get (f := lineV) hlt
    repeat' first
      | (first | simp -implicitDefEqProofs only [e0, h1, lineV, go_sem] | (refine And.intro ?_ ?_; omega) | (refine And.intro (shr_bd ?_ ?_) ?_; omega; omega) | refine sl_list rfl ?_ | refine sd_list rfl ?_ | refine sl_str ?_ | refine sd_str ?_)
      | refine draw_step Tryz.pl_follows (by kernel_rfl) ?_
      | refine ne_lnF (by kernel_rfl) ?_
    exact ⟨i + 1, by omega, by omega, weak_of (fun i => i) (fun i => i) rfl ⟨by simp <;> omega, by simp <;> omega, by simp <;> omega, by simp <;> omega, by simp <;> omega⟩ (by simp <;> omega)⟩
  · have e0 : ((i : Int) < ls.length) = False := eq_false (by omega)
    (repeat' (first | simp -implicitDefEqProofs only [e0, go_sem] | (refine And.intro ?_ ?_; omega) | (refine And.intro (shr_bd ?_ ?_) ?_; omega; omega) | refine sl_list rfl ?_ | refine sd_list rfl ?_ | refine sl_str ?_ | refine sd_str ?_))
    exact fin_scal rfl rfl
end Go.Proofs.YtahnbliabllflaaGreatDoor
