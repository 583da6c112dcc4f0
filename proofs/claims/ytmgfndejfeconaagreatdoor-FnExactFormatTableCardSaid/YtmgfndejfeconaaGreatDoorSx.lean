/-
  The library's functions that the program calls, as contracts.
-/
import Derived.Test.YtmgfndejfeconaaGreatDoorSh
import Derived.Test.YtmgfndejfeconaaGreatDoorEl
import Derived.Test.YtmgfndejfeconaaGreatDoorFa
import Derived.Lib.AppendIntMem
import Derived.Lib.AtoiErrMem
import Derived.Lib.ItoaLen
namespace Go.Proofs.YtmgfndejfeconaaGreatDoor
open Go.PL Go.RowKit
set_option linter.unusedSimpArgs false
theorem args_1 {g : Gh} {h : Hp} {x : V1} {cargs : Array Value} (ha : All2 (RepV1 g h) [x] cargs.toList) : ∃ u, cargs = #[u] ∧ RepV1 g h x u := by
  obtain ⟨l⟩ := cargs
  match l, ha with
  | [u], ⟨h1, _⟩ => exact ⟨u, rfl, h1⟩
  | [], h => exact h.elim
  | _ :: _ :: _, ⟨_, h⟩ => exact h.elim
theorem var_of_block {P : Program} {w : World} {name : String} {gn : Nat} {cs : Array Value} {ty : TypeId} {fz : Nat × Nat} (hg : P.globalNamed name = some gn) (hb : w.heap[gn]? = some (.cells cs ty fz)) : w.var? P name = some cs := by
  unfold World.var?
  rw [hg]
  simp [hb]
theorem pow_cells : ((List.range 20).map fun i => Value.int .u64 (10 ^ i : Nat)) = Lib.pow10Tab.map fun z => Value.int .u64 z := by
  simp [Lib.pow10Tab]
/-- the powers of ten lie in their block -/
def PowIs (w : World) : Prop := ∃ ty fz, w.heap[(0 : Nat)]? = some (.cells (Lib.pow10Tab.map fun z => Value.int .u64 z).toArray ty fz)
theorem PowIs.lt {w : World} (h : PowIs w) : (0 : Nat) < w.heap.size := by
  obtain ⟨ty, fz, h⟩ := h
  exact (Array.getElem?_eq_some_iff.1 h).1
theorem PowIs.below {w w' : World} (h : PowIs w) (hb : Below w.heap.size w w') : PowIs w' := by
  have hl := h.lt
  obtain ⟨ty, fz, h⟩ := h
  exact ⟨ty, fz, by rw [hb.block _ hl]; exact h⟩
theorem heap_pow {g0 : Gh} {pk : Pk} {g : Gh} {h : Hp} (hk : HeapOk g0 pk g h) : PowIs g.w := by
  obtain ⟨rows, ht, hb⟩ := hk.table
  obtain ⟨ty, fz, hblk⟩ := hb _ (TabP_pow ht)
  rw [pow_cells] at hblk
  exact ⟨ty, fz, hblk⟩
theorem itoa_calls (n : Int) (h0 : -9223372036854775808 ≤ n) (h1 : n ≤ 9223372036854775807) (w : World) (hp : PowIs w) :
    Calls Tryz.prog 60 #[.int .i64 n] w fun e w' => e = .returned (.string (sB (Lib.itoa n))) ∧ Below w.heap.size w w' := by
  obtain ⟨ty, fz, hblk⟩ := hp
  refine (Any.strconv_Itoa Tryz.laysM171 n h0 h1 w (var_of_block (by kernel_rfl) hblk)).mono fun e w' hx => ?_
  obtain ⟨he, k, os, hw⟩ := hx
  exact ⟨he, by rw [hw]; exact Lib.below_grow _ w (Nat.le_refl _) k os⟩
theorem libItoa_c (n : Int) (h0 : -9223372036854775808 ≤ n) (h1 : n ≤ 9223372036854775807) : PC Tryz.prog 60 [] [.c (.v (.int .i64 n))] (vS (Lib.itoa n)) ⟨[], []⟩ := by
  refine pc_lib ⟨_, Tryz.func60, by kernel_rfl, by kernel_rfl⟩ fun g cargs hk ha => ?_
  obtain ⟨u, rfl, hu⟩ := args_1 ha
  have hu : u = .int .i64 n := hu
  subst hu
  exact (itoa_calls n h0 h1 g.w (heap_pow hk)).mono fun e w' ⟨he, hb⟩ => ⟨⟨_, he, fun _ _ => rfl⟩, hb⟩
theorem iFormatInt_c (n : Int) (h0 : -9223372036854775808 ≤ n) (h1 : n ≤ 9223372036854775807) : PC Tryz.prog 28 [] [.c (.v (.int .i64 n))] (vS (Lib.itoa n)) ⟨[], []⟩ := by
  refine pc_of Tryz.func28 rfl (by kernel_rfl) _ Tryz.ntmps28 (by simp) ?_
  repeat' first
    | (first | simp -implicitDefEqProofs only [go_sem] | (refine And.intro ?_ ?_; omega) | (refine And.intro (shr_bd ?_ ?_) ?_; omega; omega) | refine sl_list rfl ?_ | refine sd_list rfl ?_ | refine sl_str ?_ | refine sd_str ?_)
    | refine callS (libItoa_c n h0 h1) rfl rfl rfl ?_
  exact fin_scal rfl rfl
end Go.Proofs.YtmgfndejfeconaaGreatDoor
