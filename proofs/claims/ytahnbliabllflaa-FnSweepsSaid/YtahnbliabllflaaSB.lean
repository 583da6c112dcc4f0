/-
  The plain law of holes: sums of degrees, parts, corners, and the bound by corners against games.
-/
import Derived.Test.YtahnbliabllflaaS1
import Derived.Test.YtahnbliabllflaaQ2
import Derived.Test.YtahnbliabllflaaQ3
import Derived.Test.YtahnbliabllflaaR4
import Derived.Test.YtahnbliabllflaaD5
import Derived.Test.YtahnbliabllflaaSH
namespace Go.Proofs.Ytahnbliabllflaa
open Go.PL
set_option linter.unusedSimpArgs false
/-! ### counting by a value -/
def sumK (g : Ln → Int) (ls : List Ln) (ks : List Int) (i : Nat) : Nat := ((ks.take i).map fun k => (ls.filter fun l => decide (g l = k)).length).sum
theorem sumK_zero {g : Ln → Int} {ls : List Ln} {ks : List Int} : sumK g ls ks 0 = 0 := rfl
theorem sumK_step {g : Ln → Int} {ls : List Ln} {ks : List Int} {i : Nat} (h : i < ks.length) : sumK g ls ks (i + 1) = sumK g ls ks i + (ls.filter fun l => decide (g l = ks[i])).length := by
  unfold sumK
  rw [List.take_succ_eq_append_getElem h, List.map_append, List.sum_append]
  simp
theorem sum_map_add {α : Type} (f h : α → Nat) : ∀ xs : List α, (xs.map fun x => f x + h x).sum = (xs.map f).sum + (xs.map h).sum
  | [] => rfl
  | x :: xs => by simp only [List.map_cons, List.sum_cons, sum_map_add f h xs]; omega
theorem sum_one {a : Int} : ∀ {ks : List Int}, ks.Nodup → a ∈ ks → (ks.map fun k => if a = k then 1 else 0).sum = 1
  | [], _, h => by simp at h
  | k :: ks, hn, h => by
    obtain ⟨h1, h2⟩ := List.nodup_cons.1 hn
    rw [List.map_cons, List.sum_cons]
    by_cases e : a = k
    · subst e
      have : ∀ (ks : List Int), a ∉ ks → (ks.map fun k => if a = k then 1 else 0).sum = 0 := by
        intro ks
        induction ks with
        | nil => intro _; rfl
        | cons x xs ih =>
          intro hx
          have hx1 : ¬ a = x := fun e => hx (by rw [e]; simp)
          rw [List.map_cons, List.sum_cons, if_neg hx1, ih (fun h => hx (List.mem_cons_of_mem _ h))]
      rw [if_pos rfl, this ks h1]
    · rcases List.mem_cons.1 h with h | h
      · exact absurd h e
      · rw [if_neg e, sum_one h2 h]
theorem sum_zero : ∀ ks : List Int, (ks.map fun _ => 0).sum = 0
  | [] => rfl
  | k :: ks => by rw [List.map_cons, List.sum_cons, sum_zero ks]
theorem sum_all {g : Ln → Int} {ks : List Int} (hn : ks.Nodup) : ∀ {ls : List Ln}, (∀ l ∈ ls, g l ∈ ks) → (ks.map fun k => (ls.filter fun l => decide (g l = k)).length).sum = ls.length
  | [], _ => by
    simp only [List.filter_nil, List.length_nil]
    exact sum_zero ks
  | l :: ls, h => by
    have e : ∀ k, ((l :: ls).filter fun l => decide (g l = k)).length = (if g l = k then 1 else 0) + (ls.filter fun l => decide (g l = k)).length := fun k => by
      by_cases e : g l = k
      · simp [List.filter_cons, e]; omega
      · simp [List.filter_cons, e]
    simp only [e]
    rw [sum_map_add, sum_one hn (h l (by simp)), sum_all hn (fun m hm => h m (List.mem_cons_of_mem _ hm))]
    simp; omega
theorem cntL_all {p : Ln → Bool} {ls : List Ln} : cntL p ls ls.length = (ls.filter p).length := by simp [cntL]
theorem degree_at {b : Brd} {i : Nat} (h : i < (holesOf b).length) : degreeOf b (holesOf b)[i] = ((linesOf b).filter fun l => decide (l.f = (holesOf b)[i])).length := by
  simp [degreeOf, hole_at h, cntL_all]
theorem over_at {b : Brd} {i : Nat} (h : i < (holesOf b).length) : overCount b (holesOf b)[i] = ((linesOf b).filter fun l => decide (l.o = (holesOf b)[i])).length := by
  simp [overCount, hole_at h, cntL_all]
theorem sum_deg {b : Brd} : sumK (·.f) (linesOf b) (holesOf b) (holesOf b).length = (linesOf b).length := by
  unfold sumK
  rw [List.take_length]
  exact sum_all holes_nodup fun l hl => hole_mem (mem_lines hl).2.1
theorem sum_over {b : Brd} : sumK (·.o) (linesOf b) (holesOf b) (holesOf b).length = (linesOf b).length := by
  unfold sumK
  rw [List.take_length]
  exact sum_all holes_nodup fun l hl => hole_mem (mem_lines hl).2.2.1
theorem sumK_le {g : Ln → Int} {ls : List Ln} {ks : List Int} : ∀ i, sumK g ls ks i ≤ i * ls.length
  | 0 => by simp [sumK]
  | i + 1 => by
    by_cases h : i < ks.length
    · rw [sumK_step h]
      have := sumK_le (g := g) (ls := ls) (ks := ks) i
      have h2 := List.length_filter_le (fun l => decide (g l = ks[i])) ls
      rw [Nat.add_mul]; omega
    · have e : ks.take (i + 1) = ks.take i := by rw [List.take_of_length_le (by omega), List.take_of_length_le (by omega)]
      have := sumK_le (g := g) (ls := ls) (ks := ks) i
      unfold sumK at this ⊢
      rw [e, Nat.add_mul]; omega
/-! ### the union of the parts -/
noncomputable def unionN (b : Brd) : Nat → Nat
  | 0 => 0
  | i + 1 => unionN b i ||| (partAt b i).toNat
theorem union_bit {b : Brd} {x : Nat} : ∀ i, (unionN b i).testBit x = true ↔ ∃ j, j < i ∧ (partAt b j).toNat.testBit x = true
  | 0 => by simp [unionN]
  | i + 1 => by
    simp only [unionN, Nat.testBit_or, Bool.or_eq_true, union_bit i]
    constructor
    · rintro (⟨j, hj, h⟩ | h)
      · exact ⟨j, by omega, h⟩
      · exact ⟨i, by omega, h⟩
    · rintro ⟨j, hj, h⟩
      by_cases e : j = i
      · subst e; exact .inr h
      · exact .inl ⟨j, by omega, h⟩
theorem union_lt {b : Brd} : ∀ i, i ≤ (holesOf b).length → unionN b i < 2 ^ 49
  | 0, _ => by simp [unionN]
  | i + 1, h => by
    obtain ⟨s, hs, e, _⟩ := part_ex (hole_at (b := b) (i := i) (by omega))
    rw [unionN, partAt_eq (by omega), e, Int.toNat_natCast]
    exact Nat.or_lt_two_pow (union_lt i (by omega)) hs
theorem reach_hole {b : Brd} {k x : Int} (hk : hasHole b k = true) (h : Reach (linesOf b) k x) : hasHole b x = true := by
  cases h with
  | refl => exact hk
  | step l hl _ => exact (mem_lines hl).2.2.2
theorem union_all {b : Brd} (hb : boardOk b = true) : (unionN b (holesOf b).length : Int) = b.n := by
  obtain ⟨w1, w2, h1, h2, m1, m2, n1, n2, n3⟩ := bok hb
  have : unionN b (holesOf b).length = b.n.toNat := by
    apply Nat.eq_of_testBit_eq
    intro x
    rw [Bool.eq_iff_iff, union_bit]
    constructor
    · rintro ⟨j, hj, h⟩
      obtain ⟨s, hs, e, hp⟩ := part_ex (hole_at hj)
      rw [partAt_eq hj, e, Int.toNat_natCast] at h
      have hh := reach_hole (hole_at hj) ((hp x).1 h)
      have := (hole_tb (hole_mem hh)).1
      rwa [Int.toNat_natCast] at this
    · intro h
      have hlt : x < 49 := bit_lt (n := 49) (by omega) h
      have hx : (x : Int) ∈ holesOf b := by
        rw [← holes_49 hb]
        simp only [bitsN, List.mem_map, List.mem_filter, List.mem_range]
        refine ⟨x, ⟨by omega, ?_⟩, rfl⟩
        rw [← Int.toNat_of_nonneg (show 0 ≤ b.n by omega), bitAt_nat]
        exact h
      obtain ⟨j, hj, e⟩ := List.mem_iff_getElem.1 hx
      refine ⟨j, hj, ?_⟩
      obtain ⟨s, hs, es, hp⟩ := part_ex (hole_at hj)
      rw [partAt_eq hj, es, Int.toNat_natCast]
      rw [hp, ← e]
      exact .refl
  omega
/-! ### corners -/
theorem corner_not_over {b : Brd} {l : Ln} (hl : l ∈ linesOf b) : l.o ∉ cornersOf b := fun h => by
  have := (List.mem_filter.1 h).2
  simp only [isCorner, Bool.and_eq_true, decide_eq_true_eq] at this
  have hh := (mem_lines hl).2.2.1
  have h0 : overCount b l.o = ((linesOf b).filter fun m => decide (m.o = l.o)).length := by simp [overCount, hh, cntL_all]
  have : l ∈ (linesOf b).filter fun m => decide (m.o = l.o) := List.mem_filter.2 ⟨hl, by simp⟩
  have := List.length_pos_of_mem this
  omega
theorem part_line {b : Brd} {l : Ln} (hl : l ∈ linesOf b) : partOf b l.f = partOf b l.t :=
  (part_iff (mem_lines hl).2.1 (mem_lines hl).2.2.2).2 (.step l hl .refl)
theorem flip_bit {p : Int} {l : Ln} {k : Int} (hp : 0 ≤ p) (hk : 0 ≤ k) (hl : LnIn l) (h1 : l.f ≠ k) (h2 : l.o ≠ k) (h3 : l.t ≠ k) : bitAt (flip p l) k = bitAt p k := by
  obtain ⟨f0, f1, o0, o1, t0, t1⟩ := hl
  rw [flip, bitAt_int hk, bitAt_toNat hp hk, Nat.testBit_xor, bitsL, Nat.testBit_or, Nat.testBit_or, Nat.testBit_two_pow, Nat.testBit_two_pow, Nat.testBit_two_pow]
  have a1 : ¬ l.f.toNat = k.toNat := by omega
  have a2 : ¬ l.o.toNat = k.toNat := by omega
  have a3 : ¬ l.t.toNat = k.toNat := by omega
  simp [a1, a2, a3]
/-- a peg that leaves a hole which no line crosses leaves it by a jump that begins a sweep -/
theorem leaves {b : Brd} {k : Int} (hk : 0 ≤ k) (hc : ∀ l ∈ linesOf b, l.o ≠ k) : ∀ {ls : List Ln} {p q : Int}, 0 ≤ p → playF b p ls = some q → bitAt p k = true → bitAt q k = false →
    ∃ i, ∃ h : i < ls.length, ls[i].f = k ∧ (i = 0 ∨ (ls[i - 1]'(by omega)).t ≠ k)
  | [], p, q, _, h, h1, h2 => by
    simp only [playF, Option.some.injEq] at h
    subst h
    rw [h1] at h2; cases h2
  | l :: ls, p, q, hp, h, h1, h2 => by
    simp only [playF] at h
    split at h
    · rename_i hcd
      have hcd' := hcd
      simp only [canDo, Bool.and_eq_true] at hcd'
      obtain ⟨_, hl, hcj⟩ := hcd'
      have hm := isLine_mem hl
      have hin := lnIn hm
      have ht : l.t ≠ k := fun e => by
        simp only [canJ, Bool.and_eq_true] at hcj
        rw [e, h1] at hcj
        simp at hcj
      by_cases hf : l.f = k
      · exact ⟨0, by simp, hf, .inl rfl⟩
      · have hb := flip_bit hp hk hin hf (hc l hm) ht
        have h0 : 0 ≤ flip p l := by simp only [flip]; omega
        obtain ⟨i, hi, e1, e2⟩ := leaves hk hc h0 h (by rw [hb]; exact h1) h2
        refine ⟨i + 1, by simp; omega, by simpa using e1, .inr ?_⟩
        rcases e2 with e2 | e2
        · subst e2; simpa using ht
        · cases i with
          | zero => simpa using ht
          | succ i => simpa using e2
    · cases h
theorem nodup_le {α : Type} [DecidableEq α] : ∀ {xs ys : List α}, xs.Nodup → (∀ x ∈ xs, x ∈ ys) → xs.length ≤ ys.length
  | [], _, _, _ => by simp
  | x :: xs, ys, hn, h => by
    obtain ⟨h1, h2⟩ := List.nodup_cons.1 hn
    have hx := h x (by simp)
    have := nodup_le (ys := ys.erase x) h2 fun y hy => (List.mem_erase_of_ne (fun e => h1 (by rw [← e]; exact hy))).2 (h y (List.mem_cons_of_mem _ hy))
    rw [List.length_erase_of_mem hx] at this
    have := List.length_pos_of_mem hx
    simp; omega
theorem bound_sweeps {b : Brd} {p q : Int} {ls : List Ln} (hp : positionOk b p = true) (h : playF b p ls = some q) : cornerBound b p q ≤ (sweeps ls : Int) := by
  have hq := playF_pos hp h
  have p0 := (pos0 hp).2
  unfold cornerBound
  rw [if_pos ⟨hp, hq⟩]
  have : ((cornersOf b).filter (losesAt p q)).length ≤ (((List.range ls.length).filter (newAt ls)).map fun i => (ls[i]?.map (·.f)).getD 0).length := by
    refine nodup_le ((holes_nodup.filter _).filter _) fun k hk => ?_
    obtain ⟨hk1, hk2⟩ := List.mem_filter.1 hk
    simp only [losesAt, Bool.and_eq_true, Bool.not_eq_true'] at hk2
    obtain ⟨i, hi, e1, e2⟩ := leaves (mem_corners hk1).1 (fun l hl e => corner_not_over hl (by rw [e]; exact hk1)) p0 h hk2.1 hk2.2
    refine List.mem_map.2 ⟨i, List.mem_filter.2 ⟨List.mem_range.2 hi, ?_⟩, by simp [hi, e1]⟩
    by_cases e0 : i = 0
    · simp [newAt, e0]
    · rw [newAt_eq e0 hi]
      rcases e2 with e2 | e2
      · exact absurd e2 e0
      · simp only [Bool.not_eq_true', decide_eq_false_iff_not, e1]
        exact fun e => e2 e.symm
  rw [List.length_map] at this
  unfold sweeps sweepsN
  omega
theorem bound_0 {b : Brd} {p q : Int} : 0 ≤ cornerBound b p q := by
  unfold cornerBound; split <;> omega
theorem corners_33 : (cornersOf (rect 3 3)).length = 4 := by kernel_rfl
theorem play_lines {b : Brd} : ∀ {ls : List Ln} {p q : Int}, playF b p ls = some q → ∀ l ∈ ls, l ∈ linesOf b
  | [], _, _, _, l, hl => by simp at hl
  | m :: ls, p, q, h, l, hl => by
    simp only [playF] at h
    split at h
    · rename_i hcd
      simp only [canDo, Bool.and_eq_true] at hcd
      rcases List.mem_cons.1 hl with rfl | hl
      · exact isLine_mem hcd.2.1
      · exact play_lines h l hl
    · cases h
end Go.Proofs.Ytahnbliabllflaa
