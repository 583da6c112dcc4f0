/-
  The library's functions that the program calls, as contracts.
-/
import Derived.Test.YtnbopnipfegboaaDoorSh
import Derived.Test.YtnbopnipfegboaaDoorEn
import Derived.Test.YtnbopnipfegboaaDoorFa
import Derived.Lib.AppendIntMem
import Derived.Lib.AtoiErrMem
import Derived.Lib.ItoaLen
namespace Go.Proofs.YtnbopnipfegboaaDoor
open Go.PL Go.RowKit
set_option linter.unusedSimpArgs false
theorem args_1 {g : Gh} {h : Hp} {x : V1} {cargs : Array Value} (ha : All2 (RepV1 g h) [x] cargs.toList) : ∃ u, cargs = #[u] ∧ RepV1 g h x u := by
  obtain ⟨l⟩ := cargs
  match l, ha with
  | [u], ⟨h1, _⟩ => exact ⟨u, rfl, h1⟩
  | [], h => exact h.elim
  | _ :: _ :: _, ⟨_, h⟩ => exact h.elim
theorem args_2 {g : Gh} {h : Hp} {x y : V1} {cargs : Array Value} (ha : All2 (RepV1 g h) [x, y] cargs.toList) : ∃ u v, cargs = #[u, v] ∧ RepV1 g h x u ∧ RepV1 g h y v := by
  obtain ⟨l⟩ := cargs
  match l, ha with
  | [u, v], ⟨h1, h2, _⟩ => exact ⟨u, v, rfl, h1, h2⟩
  | [], h => exact h.elim
  | [_], ⟨_, h⟩ => exact h.elim
  | _ :: _ :: _ :: _, ⟨_, _, h⟩ => exact h.elim
theorem flat_sV : ∀ xs : List (List UInt8), flat (xs.map sV) = xs.map sV
  | [] => rfl
  | x :: xs => by
    have := flat_sV xs
    simp only [flat, List.map_cons, List.flatMap_cons] at this ⊢
    rw [this]; rfl
theorem var_of_block {P : Program} {w : World} {name : String} {gn : Nat} {cs : Array Value} {ty : TypeId} {fz : Nat × Nat} (hg : P.globalNamed name = some gn) (hb : w.heap[gn]? = some (.cells cs ty fz)) : w.var? P name = some cs := by
  unfold World.var?
  rw [hg]
  simp [hb]
theorem pow_cells : ((List.range 20).map fun i => Value.int .u64 (10 ^ i : Nat)) = Lib.pow10Tab.map fun z => Value.int .u64 z := by
  simp [Lib.pow10Tab]
/-- the powers of ten lie in their block -/
def PowIs (w : World) : Prop := ∃ ty fz, w.heap[(1 : Nat)]? = some (.cells (Lib.pow10Tab.map fun z => Value.int .u64 z).toArray ty fz)
theorem PowIs.lt {w : World} (h : PowIs w) : (1 : Nat) < w.heap.size := by
  obtain ⟨ty, fz, h⟩ := h
  exact (Array.getElem?_eq_some_iff.1 h).1
theorem PowIs.below {w w' : World} (h : PowIs w) (hb : Below w.heap.size w w') : PowIs w' := by
  have hl := h.lt
  obtain ⟨ty, fz, h⟩ := h
  exact ⟨ty, fz, by rw [hb.block _ hl]; exact h⟩
theorem heap_pow {g0 : Gh} {pk : Pk} {g : Gh} {h : Hp} (hk : HeapOk g0 pk g h) : PowIs g.w := by
  obtain ⟨rows, ht, hb⟩ := hk.table
  obtain ⟨ty, fz, hblk⟩ := hb _ (TabP_pow ht)
  rw [pow_cells] at hblk
  exact ⟨ty, fz, hblk⟩
theorem itoa_calls (n : Int) (h0 : -9223372036854775808 ≤ n) (h1 : n ≤ 9223372036854775807) (w : World) (hp : PowIs w) :
    Calls Tryd.prog 24 #[.int .i64 n] w fun e w' => e = .returned (.string (sB (Lib.itoa n))) ∧ Below w.heap.size w w' := by
  obtain ⟨ty, fz, hblk⟩ := hp
  refine (Any.strconv_Itoa Tryd.laysM171 n h0 h1 w (var_of_block (by kernel_rfl) hblk)).mono fun e w' hx => ?_
  obtain ⟨he, k, os, hw⟩ := hx
  exact ⟨he, by rw [hw]; exact Lib.below_grow _ w (Nat.le_refl _) k os⟩
theorem libItoa_c (n : Int) (h0 : -9223372036854775808 ≤ n) (h1 : n ≤ 9223372036854775807) : PC Tryd.prog 24 [] [.c (.v (.int .i64 n))] (vS (Lib.itoa n)) ⟨[], []⟩ := by
  refine pc_lib ⟨_, Tryd.func24, by kernel_rfl, by kernel_rfl⟩ fun g cargs hk ha => ?_
  obtain ⟨u, rfl, hu⟩ := args_1 ha
  have hu : u = .int .i64 n := hu
  subst hu
  exact (itoa_calls n h0 h1 g.w (heap_pow hk)).mono fun e w' ⟨he, hb⟩ => ⟨⟨_, he, fun _ _ => rfl⟩, hb⟩
theorem iFormatInt_c (n : Int) (h0 : -9223372036854775808 ≤ n) (h1 : n ≤ 9223372036854775807) : PC Tryd.prog 17 [] [.c (.v (.int .i64 n))] (vS (Lib.itoa n)) ⟨[], []⟩ := by
  refine pc_of Tryd.func17 rfl (by kernel_rfl) _ Tryd.ntmps17 (by simp) ?_
  repeat' first
    | (first | simp -implicitDefEqProofs only [go_sem] | (refine And.intro ?_ ?_; omega) | (refine And.intro (shr_bd ?_ ?_) ?_; omega; omega) | refine sl_list rfl ?_ | refine sd_list rfl ?_ | refine sl_str ?_ | refine sd_str ?_)
    | refine callS (libItoa_c n h0 h1) rfl rfl rfl ?_
  exact fin_scal rfl rfl
theorem fmt_calls (n : Int) (h0 : -9223372036854775808 ≤ n) (h1 : n ≤ 9223372036854775807) (w : World) (hp : PowIs w) :
    Calls Tryd.prog 17 #[.int .i64 n] w fun e w' => e = .returned (.string (sB (Lib.itoa n))) ∧ Below w.heap.size w w' := by
  have c := itoa_calls n h0 h1 w hp
  go_enter Tryd.func17, Tryd.ntmps17
  go_wp2_with (go_at_call 24; refine c.mono ?_; rintro e w' ⟨rfl, hw⟩)
  go_ret
  exact ⟨rfl, hw⟩
theorem map_sB_data : ∀ xs : List (List UInt8), (xs.map sB).map (·.data.toList) = xs
  | [] => rfl
  | x :: xs => by rw [List.map_cons, List.map_cons, map_sB_data xs, sB_data]
theorem libJoin_c (xs : List (List UInt8)) (sep : List UInt8) (hN : xs.length ≤ 140737488355328) (hlen : (Lib.join xs sep).length ≤ 140737488355328) : PC Tryd.prog 18 [] [.c (.l 1 (xs.map sV)), .c (.v (.string (sB sep)))] (vS (Lib.join xs sep)) ⟨[], []⟩ := by
  refine pc_lib ⟨_, Tryd.func18, by kernel_rfl, by kernel_rfl⟩ fun g cargs hk ha => ?_
  obtain ⟨u, v, rfl, hu, hv⟩ := args_2 ha
  have hv : v = .string (sB sep) := hv
  subst hv
  obtain ⟨a, cap, rfl, hle, _, _, _, hnil, hrow⟩ := hu
  cases a with
  | none =>
    have hc := hnil rfl
    have h0 : xs = [] := by
      rw [List.length_map] at hle
      exact List.eq_nil_of_length_eq_zero (by omega)
    subst h0
    refine (Any.strings_Join_none Tryd.lays156 Tryd.Builder_Extra_156 none cap (sB sep) g.w).mono fun e w' hx => ?_
    obtain ⟨he, rfl⟩ := hx
    exact ⟨⟨_, he, fun _ _ => rfl⟩, Below.refl _ _⟩
  | some ad =>
    obtain ⟨hs, hr⟩ := hrow ad rfl
    obtain ⟨b, off, sp⟩ := ad
    simp only at hs hr
    subst hs
    rw [flat_sV] at hr
    cases xs with
    | nil =>
      refine (Any.strings_Join_none Tryd.lays156 Tryd.Builder_Extra_156 (some ⟨b, off, none⟩) cap (sB sep) g.w).mono fun e w' hx => ?_
      obtain ⟨he, rfl⟩ := hx
      exact ⟨⟨_, he, fun _ _ => rfl⟩, Below.refl _ _⟩
    | cons x xs =>
      have hb : b < g.w.heap.size := hk.vin b (off + 0) (hr 0 (by simp)).2
      have c := Any.strings_Join Tryd.lays156 Tryd.Builder_Extra_156 b off cap ((x :: xs).map sB) (sB sep) g.w (fun j y hy => by
        rw [List.getElem?_map] at hy
        obtain ⟨z, hz, rfl⟩ := Option.map_eq_some_iff.1 hy
        obtain ⟨hj, ez⟩ := List.getElem?_eq_some_iff.1 hz
        have := (hr j (by simpa using hj)).1
        rw [this]
        simp only [List.getElem_map, ez]) hb (by simpa using hN) (by simpa using hle) (by rw [map_sB_data, sB_data]; exact hlen)
      rw [map_sB_data, sB_data] at c
      rw [List.length_map] at c ⊢
      exact c.mono fun e w' ⟨he, hb⟩ => ⟨⟨_, he, fun _ _ => rfl⟩, hb⟩
end Go.Proofs.YtnbopnipfegboaaDoor
