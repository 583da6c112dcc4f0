/-
  The law on tables drawn and played.
-/
import Derived.Test.YtenfpjipeeolpaaSA1
import Derived.Test.YtenfpjipeeolpaaSA2
import Derived.Test.YtenfpjipeeolpaaSA3
namespace Go.Proofs.Ytenfpjipeeolpaa
open Go.PL
set_option linter.unusedSimpArgs false
theorem lawTables_c (bs : List Nat) (hbs : ∀ b ∈ bs, b ≤ 255) : PC Try.prog 8 [] [.c (.l 1 (bs.map bV))] (vB true) ⟨[], []⟩ := by
  by_cases hn : (1048576 : Int) < bs.length
  · refine pc_of Try.func8 rfl (by kernel_rfl) _ Try.ntmps8 (by simp) ?_
    repeat' first
      | (first | simp -implicitDefEqProofs only [hn, go_sem, Nat.reduceLT, Nat.reduceLeDiff, Nat.reduceEqDiff, Nat.reduceAdd, Nat.reduceSub, Nat.reduceMul, Int.reduceEq, Int.reduceLT, Int.reduceLE, Int.reduceNeg, Int.reduceAdd, Int.reduceSub, Int.reduceMul, Int.reduceToNat, reduceIte, reduceCtorEq, List.map_cons, List.map_nil] | (refine And.intro ?_ ?_; omega) | (refine And.intro (shr_bd ?_ ?_) ?_; omega; omega) | refine sl_list rfl ?_ | refine sd_list rfl ?_ | refine sl_str ?_ | refine sd_str ?_)
      | refine callS (lawBig_c bs) rfl rfl rfl ?_
    exact fin_scal rfl rfl
  obtain ⟨t, D, pd⟩ := drawTable_ex ⟨bs, hbs, by omega⟩
  obtain ⟨a0, ha0, pa⟩ := at_ex bs hbs (by omega) 0 (by omega)
  by_cases h0 : (jumpsOf t.g.x.b (nowOf t.g)).length = 0
  · exact lawTables_1 bs hbs hn t D pd a0 pa h0
  · by_cases hle : (a0 : Int) % 30 ≤ t.c.a
    · exact lawTables_2 bs hbs hn t D pd a0 pa h0 hle
    · exact lawTables_3 bs hbs hn t D pd a0 pa h0 hle
theorem fnTables.law_c {c : C} (h : TC (.l 1 false [.i .u8]) c) : PC Try.prog 8 [] [.c c] (vB true) ⟨[], []⟩ := by
  obtain ⟨bs, rfl, hb⟩ := lawBytes_of h
  exact lawTables_c bs hb
end Go.Proofs.Ytenfpjipeeolpaa
