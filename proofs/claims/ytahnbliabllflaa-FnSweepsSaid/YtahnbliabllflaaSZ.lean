/-
  What all laws over drawn values share: bytes that come in, and how many may.
-/
import Derived.Test.YtahnbliabllflaaD3
import Derived.Test.YtahnbliabllflaaEg
namespace Go.Proofs.Ytahnbliabllflaa
open Go.PL
set_option linter.unusedSimpArgs false
theorem lawBig_c (bs : List Nat) : PC Try.prog 4 [] [.c (.l 1 (bs.map bV))] (vB (decide ((1048576 : Int) < bs.length))) ⟨[], []⟩ := by
  refine pc_of Try.func4 rfl (by kernel_rfl) _ Try.ntmps4 (by simp) ?_
  (repeat' (first | simp -implicitDefEqProofs only [go_sem] | (refine And.intro ?_ ?_; omega) | (refine And.intro (shr_bd ?_ ?_) ?_; omega; omega) | refine sl_list rfl ?_ | refine sd_list rfl ?_ | refine sl_str ?_ | refine sd_str ?_))
  exact fin_scal rfl rfl
theorem lawBytes_of {c : C} (h : TC (.l 1 false [.i .u8]) c) : ∃ l : List Nat, c = .l 1 (l.map bV) ∧ ∀ b ∈ l, b ≤ 255 := by
  obtain ⟨xs, rfl, hl, hx⟩ := tc_l h
  obtain ⟨rs, rfl, hr⟩ := list_of bV (fun b => b ≤ 255) (xs := xs) (fun x hm => by
    obtain ⟨k, hk, h⟩ := hx x hm
    obtain rfl := (List.cons.inj hk).1.symm
    obtain ⟨a, rfl, ha⟩ := h
    have h1 : (0 : Int) ≤ a := ha.1
    have h2 : a ≤ 255 := ha.2
    exact ⟨a.toNat, by simp only [bV, Int.toNat_of_nonneg h1], by omega⟩)
  exact ⟨rs, rfl, hr⟩
end Go.Proofs.Ytahnbliabllflaa
