/-
  The library's functions that the program calls, as contracts.
-/
import Derived.Test.YtahnbliabllflaaGreatDoorSh
import Derived.Test.YtahnbliabllflaaGreatDoorEl
import Derived.Test.YtahnbliabllflaaGreatDoorFa
import Derived.Lib.AppendIntMem
import Derived.Lib.AtoiErrMem
import Derived.Lib.ItoaLen
namespace Go.Proofs.YtahnbliabllflaaGreatDoor
open Go.PL Go.RowKit
set_option linter.unusedSimpArgs false
def pU (l : List UInt8) : Option Int := match Lib.atoiAll l with
  | .ok v => if 0 ≤ v ∧ v ≤ 1000000000 ∧ Lib.itoa v = l then some v else none
  | _ => none
theorem args_1 {g : Gh} {h : Hp} {x : V1} {cargs : Array Value} (ha : All2 (RepV1 g h) [x] cargs.toList) : ∃ u, cargs = #[u] ∧ RepV1 g h x u := by
  obtain ⟨l⟩ := cargs
  match l, ha with
  | [u], ⟨h1, _⟩ => exact ⟨u, rfl, h1⟩
  | [], h => exact h.elim
  | _ :: _ :: _, ⟨_, h⟩ => exact h.elim
theorem args_2 {g : Gh} {h : Hp} {x y : V1} {cargs : Array Value} (ha : All2 (RepV1 g h) [x, y] cargs.toList) : ∃ u v, cargs = #[u, v] ∧ RepV1 g h x u ∧ RepV1 g h y v := by
  obtain ⟨l⟩ := cargs
  match l, ha with
  | [u, v], ⟨h1, h2, _⟩ => exact ⟨u, v, rfl, h1, h2⟩
  | [], h => exact h.elim
  | [_], ⟨_, h⟩ => exact h.elim
  | _ :: _ :: _ :: _, ⟨_, _, h⟩ => exact h.elim
theorem flat_sV : ∀ xs : List (List UInt8), flat (xs.map sV) = xs.map sV
  | [] => rfl
  | x :: xs => by
    have := flat_sV xs
    simp only [flat, List.map_cons, List.flatMap_cons] at this ⊢
    rw [this]; rfl
theorem var_of_block {P : Program} {w : World} {name : String} {gn : Nat} {cs : Array Value} {ty : TypeId} {fz : Nat × Nat} (hg : P.globalNamed name = some gn) (hb : w.heap[gn]? = some (.cells cs ty fz)) : w.var? P name = some cs := by
  unfold World.var?
  rw [hg]
  simp [hb]
theorem pow_cells : ((List.range 20).map fun i => Value.int .u64 (10 ^ i : Nat)) = Lib.pow10Tab.map fun z => Value.int .u64 z := by
  simp [Lib.pow10Tab]
def PowIs (w : World) : Prop := ∃ ty fz, w.heap[(3 : Nat)]? = some (.cells (Lib.pow10Tab.map fun z => Value.int .u64 z).toArray ty fz)
theorem PowIs.lt {w : World} (h : PowIs w) : (3 : Nat) < w.heap.size := by
  obtain ⟨ty, fz, h⟩ := h
  exact (Array.getElem?_eq_some_iff.1 h).1
theorem PowIs.below {w w' : World} (h : PowIs w) (hb : Below w.heap.size w w') : PowIs w' := by
  have hl := h.lt
  obtain ⟨ty, fz, h⟩ := h
  exact ⟨ty, fz, by rw [hb.block _ hl]; exact h⟩
theorem heap_pow {g0 : Gh} {pk : Pk} {g : Gh} {h : Hp} (hk : HeapOk g0 pk g h) : PowIs g.w := by
  obtain ⟨rows, ht, hb⟩ := hk.table
  obtain ⟨ty, fz, hblk⟩ := hb _ (TabP_pow ht)
  rw [pow_cells] at hblk
  exact ⟨ty, fz, hblk⟩
theorem itoa_calls (n : Int) (h0 : -9223372036854775808 ≤ n) (h1 : n ≤ 9223372036854775807) (w : World) (hp : PowIs w) :
    Calls Tryz.prog 54 #[.int .i64 n] w fun e w' => e = .returned (.string (sB (Lib.itoa n))) ∧ Below w.heap.size w w' := by
  obtain ⟨ty, fz, hblk⟩ := hp
  refine (Any.strconv_Itoa Tryz.laysM171 n h0 h1 w (var_of_block (by kernel_rfl) hblk)).mono fun e w' hx => ?_
  obtain ⟨he, k, os, hw⟩ := hx
  exact ⟨he, by rw [hw]; exact Lib.below_grow _ w (Nat.le_refl _) k os⟩
theorem libItoa_c (n : Int) (h0 : -9223372036854775808 ≤ n) (h1 : n ≤ 9223372036854775807) : PC Tryz.prog 54 [] [.c (.v (.int .i64 n))] (vS (Lib.itoa n)) ⟨[], []⟩ := by
  refine pc_lib ⟨_, Tryz.func54, by kernel_rfl, by kernel_rfl⟩ fun g cargs hk ha => ?_
  obtain ⟨u, rfl, hu⟩ := args_1 ha
  have hu : u = .int .i64 n := hu
  subst hu
  exact (itoa_calls n h0 h1 g.w (heap_pow hk)).mono fun e w' ⟨he, hb⟩ => ⟨⟨_, he, fun _ _ => rfl⟩, hb⟩
theorem iFormatInt_c (n : Int) (h0 : -9223372036854775808 ≤ n) (h1 : n ≤ 9223372036854775807) : PC Tryz.prog 19 [] [.c (.v (.int .i64 n))] (vS (Lib.itoa n)) ⟨[], []⟩ := by
  refine pc_of Tryz.func19 rfl (by kernel_rfl) _ Tryz.ntmps19 (by simp) ?_
  repeat' first
    | (first | simp -implicitDefEqProofs only [go_sem] | (refine And.intro ?_ ?_; omega) | (refine And.intro (shr_bd ?_ ?_) ?_; omega; omega) | refine sl_list rfl ?_ | refine sd_list rfl ?_ | refine sl_str ?_ | refine sd_str ?_)
    | refine callS (libItoa_c n h0 h1) rfl rfl rfl ?_
  exact fin_scal rfl rfl
theorem fmt_calls (n : Int) (h0 : -9223372036854775808 ≤ n) (h1 : n ≤ 9223372036854775807) (w : World) (hp : PowIs w) :
    Calls Tryz.prog 19 #[.int .i64 n] w fun e w' => e = .returned (.string (sB (Lib.itoa n))) ∧ Below w.heap.size w w' := by
  have c := itoa_calls n h0 h1 w hp
  go_enter Tryz.func19, Tryz.ntmps19
  go_wp2_with (go_at_call 54; refine c.mono ?_; rintro e w' ⟨rfl, hw⟩)
  go_ret
  exact ⟨rfl, hw⟩
theorem map_sB_data : ∀ xs : List (List UInt8), (xs.map sB).map (·.data.toList) = xs
  | [] => rfl
  | x :: xs => by rw [List.map_cons, List.map_cons, map_sB_data xs, sB_data]
theorem libJoin_c (xs : List (List UInt8)) (sep : List UInt8) (hN : xs.length ≤ 140737488355328) (hlen : (Lib.join xs sep).length ≤ 140737488355328) : PC Tryz.prog 39 [] [.c (.l 1 (xs.map sV)), .c (.v (.string (sB sep)))] (vS (Lib.join xs sep)) ⟨[], []⟩ := by
  refine pc_lib ⟨_, Tryz.func39, by kernel_rfl, by kernel_rfl⟩ fun g cargs hk ha => ?_
  obtain ⟨u, v, rfl, hu, hv⟩ := args_2 ha
  have hv : v = .string (sB sep) := hv
  subst hv
  obtain ⟨a, cap, rfl, hle, _, _, _, hnil, hrow⟩ := hu
  cases a with
  | none =>
    have hc := hnil rfl
    have h0 : xs = [] := by
      rw [List.length_map] at hle
      exact List.eq_nil_of_length_eq_zero (by omega)
    subst h0
    refine (Any.strings_Join_none Tryz.lays156 Tryz.Builder_Extra_156 none cap (sB sep) g.w).mono fun e w' hx => ?_
    obtain ⟨he, rfl⟩ := hx
    exact ⟨⟨_, he, fun _ _ => rfl⟩, Below.refl _ _⟩
  | some ad =>
    obtain ⟨hs, hr⟩ := hrow ad rfl
    obtain ⟨b, off, sp⟩ := ad
    simp only at hs hr
    subst hs
    rw [flat_sV] at hr
    cases xs with
    | nil =>
      refine (Any.strings_Join_none Tryz.lays156 Tryz.Builder_Extra_156 (some ⟨b, off, none⟩) cap (sB sep) g.w).mono fun e w' hx => ?_
      obtain ⟨he, rfl⟩ := hx
      exact ⟨⟨_, he, fun _ _ => rfl⟩, Below.refl _ _⟩
    | cons x xs =>
      have hb : b < g.w.heap.size := hk.vin b (off + 0) (hr 0 (by simp)).2
      have c := Any.strings_Join Tryz.lays156 Tryz.Builder_Extra_156 b off cap ((x :: xs).map sB) (sB sep) g.w (fun j y hy => by
        rw [List.getElem?_map] at hy
        obtain ⟨z, hz, rfl⟩ := Option.map_eq_some_iff.1 hy
        obtain ⟨hj, ez⟩ := List.getElem?_eq_some_iff.1 hz
        have := (hr j (by simpa using hj)).1
        rw [this]
        simp only [List.getElem_map, ez]) hb (by simpa using hN) (by simpa using hle) (by rw [map_sB_data, sB_data]; exact hlen)
      rw [map_sB_data, sB_data] at c
      rw [List.length_map] at c ⊢
      exact c.mono fun e w' ⟨he, hb⟩ => ⟨⟨_, he, fun _ _ => rfl⟩, hb⟩
theorem errs_at {g0 : Gh} {pk : Pk} {g : Gh} {h : Hp} (hk : HeapOk g0 pk g h) : ∃ es er, isErr es ∧ isErr er ∧ g.w.cell? ⟨1, 0, none⟩ = some es ∧ g.w.cell? ⟨2, 0, none⟩ = some er := by
  obtain ⟨rows, ht, hb⟩ := hk.table
  obtain ⟨es, er, h1, h2, h3, h4⟩ := TabP_err ht
  obtain ⟨ty, fz, e1⟩ := hb _ h3
  obtain ⟨ty', fz', e2⟩ := hb _ h4
  exact ⟨es, er, h1, h2, by rw [cell_of_row _ _ _ _ _ _ e1]; rfl, by rw [cell_of_row _ _ _ _ _ _ e2]; rfl⟩
theorem parse_calls (l : List UInt8) (hl : l.length ≤ 281474976710656) {g0 : Gh} {pk : Pk} {g : Gh} {h : Hp} (hk : HeapOk g0 pk g h) :
    Calls Tryz.prog 42 #[.string (sB l)] g.w fun e w' => e = .returned (.tuple #[.int .i64 ((pU l).getD 0), .bool (pU l).isSome]) ∧ Below g.w.heap.size g.w w' := by
  have hs : (sB l).size = l.length := sB_size l
  have hd : (sB l).data.toList = l := sB_data l
  have hp := (heap_pow hk)
  obtain ⟨es, er, hes, her, c1, c2⟩ := errs_at hk
  have bad : ∀ {r : Int}, pU l = none → Calls Tryz.prog 96 #[.string (sB l)] g.w (fun e w' => ∃ N, e = .returned (.tuple #[.int .i64 r, .iface 171 (.pointer (some ⟨N, 0, none⟩))]) ∧ Below g.w.heap.size g.w w') →
      Calls Tryz.prog 42 #[.string (sB l)] g.w fun e w' => e = .returned (.tuple #[.int .i64 ((pU l).getD 0), .bool (pU l).isSome]) ∧ Below g.w.heap.size g.w w' := by
    intro r hn c
    rw [hn]
    go_enter Tryz.func42, Tryz.ntmps42
    go_wp2_with (go_at_call 96; refine c.mono ?_; rintro e w' ⟨N, rfl, hw⟩)
    go_ret2
    exact ⟨rfl, hw⟩
  rcases ha : Lib.atoiAll l with v | _ | _
  rotate_left
  · refine bad (r := 0) (by simp [pU, ha]) ?_
    refine (Any.strconv_Atoi_syntax Tryz.laysC172 (sB l) (by rw [hs]; exact hl) (by rw [hd]; exact ha) es g.w c1 (.inr hes)).mono fun e w' hx => ?_
    obtain ⟨N, he, _, _, hb⟩ := hx
    exact ⟨N, he, hb⟩
  · refine bad (r := Lib.atoiSat l) (by simp [pU, ha]) ?_
    refine (Any.strconv_Atoi_range Tryz.laysC172 (sB l) (by rw [hs]; exact hl) (by rw [hd]; exact ha) er g.w c2 (.inr her)).mono fun e w' hx => ?_
    obtain ⟨N, he, _, _, hb⟩ := hx
    rw [hd] at he
    exact ⟨N, he, hb⟩
  · have c : Calls Tryz.prog 96 #[.string (sB l)] g.w fun e w' => e = .returned (.tuple #[.int .i64 v, .nilIface]) ∧ Below g.w.heap.size g.w w' := by
      refine (Any.strconv_Atoi_ok Tryz.laysC172 (sB l) (by rw [hs]; omega) v (by rw [hd]; exact ha) g.w).mono fun e w' hx => ?_
      obtain ⟨he, hw⟩ := hx
      refine ⟨he, ?_⟩
      rcases hw with rfl | ⟨t, rfl⟩
      · exact Below.refl _ _
      · exact Lib.bytesWorld_below _ _ _
    by_cases h0 : v < 0
    · have hn : pU l = none := by
        have : ¬ 0 ≤ v := by omega
        simp [pU, ha, this]
      rw [hn]
      go_enter Tryz.func42, Tryz.ntmps42
      go_wp2_with (go_at_call 96; refine c.mono ?_; rintro e w' ⟨rfl, hw⟩)
      go_ret2
      exact ⟨rfl, hw⟩
    by_cases h9 : 1000000000 < v
    · have hn : pU l = none := by
        have : ¬ v ≤ 1000000000 := by omega
        simp [pU, ha, this]
      rw [hn]
      go_enter Tryz.func42, Tryz.ntmps42
      go_wp2_with (go_at_call 96; refine c.mono ?_; rintro e w' ⟨rfl, hw⟩)
      go_ret2
      exact ⟨rfl, hw⟩
    have cf : ∀ w', Below g.w.heap.size g.w w' → Calls Tryz.prog 19 #[.int .i64 v] w' fun e w'' => e = .returned (.string (sB (Lib.itoa v))) ∧ Below g.w.heap.size g.w w'' := fun w' hb =>
      (fmt_calls v (by omega) (by omega) w' (hp.below hb)).mono fun e w'' ⟨he, hb2⟩ => ⟨he, hb.trans (hb2.mono hb.size)⟩
    by_cases he : Lib.itoa v = l
    · have hn : pU l = some v := by
        have h1 : 0 ≤ v := by omega
        have h2 : v ≤ 1000000000 := by omega
        simp [pU, ha, h1, h2, he]
      rw [hn]
      have hq : ((sB (Lib.itoa v)).toList == (sB l).toList) = true := by rw [he]; simp
      go_enter Tryz.func42, Tryz.ntmps42
      go_wp2_with (first | (go_at_call 96; refine c.mono ?_; rintro e w' ⟨rfl, hw⟩) | (go_at_call 19; refine (cf _ hw).mono ?_; rintro e w'' ⟨rfl, hw'⟩))
      go_ret2
      exact ⟨rfl, hw'⟩
    · have hn : pU l = none := by simp [pU, ha, he]
      rw [hn]
      have hq : ((sB (Lib.itoa v)).toList == (sB l).toList) = false := by rw [sB_toList, sB_toList]; simpa using he
      go_enter Tryz.func42, Tryz.ntmps42
      go_wp2_with (first | (go_at_call 96; refine c.mono ?_; rintro e w' ⟨rfl, hw⟩) | (go_at_call 19; refine (cf _ hw).mono ?_; rintro e w'' ⟨rfl, hw'⟩))
      go_ret2
      exact ⟨rfl, hw'⟩
end Go.Proofs.YtahnbliabllflaaGreatDoor
