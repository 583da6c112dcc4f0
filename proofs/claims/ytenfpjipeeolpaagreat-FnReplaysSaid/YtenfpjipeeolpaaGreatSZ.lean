/-
  What all laws over drawn values share: bytes that come in, and how many may.
-/
import Derived.Test.YtenfpjipeeolpaaGreatD3
import Derived.Test.YtenfpjipeeolpaaGreatEg
namespace Go.Proofs.YtenfpjipeeolpaaGreat
open Go.PL
set_option linter.unusedSimpArgs false
theorem iRect_c {w h : Int} (h1 : 1 ≤ w) (h2 : w ≤ 7) (h3 : 1 ≤ h) (h4 : h ≤ 7) : PC Tryz.prog 22 [] [.c (.v (.int .i64 w)), .c (.v (.int .i64 h))] (.s (.a (brdC (rect w h)))) ⟨[], []⟩ := by
  have m := mul_bd h1 h2 h3 h4
  have p := pow_bd (m := w * h) (by omega) m.2
  have e1 : within w 1 7 = true := within_iff.2 ⟨h1, h2⟩
  have e2 : within h 1 7 = true := within_iff.2 ⟨h3, h4⟩
  have ep : ((2 ^ (w * h).toNat : Nat) : Int) = (2 : Int) ^ (w * h).toNat := by simp
  refine pc_of Tryz.func22 rfl (by kernel_rfl) _ Tryz.ntmps22 (by simp) ?_
  repeat' first
    | (first | simp -implicitDefEqProofs only [e1, e2, Int.one_mul, ep, go_sem] | (refine And.intro ?_ ?_; omega) | (refine And.intro (shr_bd ?_ ?_) ?_; omega; omega) | refine sl_list rfl ?_ | refine sd_list rfl ?_ | refine sl_str ?_ | refine sd_str ?_)
    | refine callS (within_c _ _ _) rfl rfl rfl ?_
  exact fin_scal rfl (by simp [rect])
theorem lawBig_c (bs : List Nat) : PC Tryz.prog 5 [] [.c (.l 1 (bs.map bV))] (vB (decide ((1048576 : Int) < bs.length))) ⟨[], []⟩ := by
  refine pc_of Tryz.func5 rfl (by kernel_rfl) _ Tryz.ntmps5 (by simp) ?_
  (repeat' (first | simp -implicitDefEqProofs only [go_sem] | (refine And.intro ?_ ?_; omega) | (refine And.intro (shr_bd ?_ ?_) ?_; omega; omega) | refine sl_list rfl ?_ | refine sd_list rfl ?_ | refine sl_str ?_ | refine sd_str ?_))
  exact fin_scal rfl rfl
theorem lawBytes_of {c : C} (h : TC (.l 1 false [.i .u8]) c) : ∃ l : List Nat, c = .l 1 (l.map bV) ∧ ∀ b ∈ l, b ≤ 255 := by
  obtain ⟨xs, rfl, hl, hx⟩ := tc_l h
  obtain ⟨rs, rfl, hr⟩ := list_of bV (fun b => b ≤ 255) (xs := xs) (fun x hm => by
    obtain ⟨k, hk, h⟩ := hx x hm
    obtain rfl := (List.cons.inj hk).1.symm
    obtain ⟨a, rfl, ha⟩ := h
    have h1 : (0 : Int) ≤ a := ha.1
    have h2 : a ≤ 255 := ha.2
    exact ⟨a.toNat, by simp only [bV, Int.toNat_of_nonneg h1], by omega⟩)
  exact ⟨rs, rfl, hr⟩
end Go.Proofs.YtenfpjipeeolpaaGreat
