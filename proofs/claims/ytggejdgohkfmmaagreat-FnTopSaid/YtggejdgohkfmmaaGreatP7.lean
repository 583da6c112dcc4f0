/-
  What the functions compute that find the pegs that can be spared and tight positions; the laws on them.
  What the functions compute that take spared pegs away; the law on them.
  What the functions compute that count the bits of a number.
  What the functions compute that find the least start and count tight positions; the laws on them.
-/
import Derived.Test.YtggejdgohkfmmaaGreatP4
import Derived.Test.YtggejdgohkfmmaaGreatL6
import Derived.Test.YtggejdgohkfmmaaGreatP2
import Derived.Test.YtggejdgohkfmmaaGreatN1
import Derived.Test.YtggejdgohkfmmaaGreatGa
namespace Go.Proofs.YtggejdgohkfmmaaGreat
open Go.PL
set_option linter.unusedSimpArgs false
theorem bitsN_sub {b : Brd} {p : Nat} (hb : boardOk b = true) (h : Sub b p) : bitsN (p : Int) 49 = (holesOf b).filter (bitAt (p : Int)) := by
  have n1 := (bok hb).n1
  rw [← holes_49 hb]
  unfold bitsN
  rw [List.filter_map, List.filter_filter]
  congr 1
  apply List.filter_congr
  intro k _
  simp only [Function.comp]
  cases hk : bitAt (p : Int) (k : Int) with
  | false => rfl
  | true =>
    rw [bitAt_nat] at hk
    have := h k hk
    have e : bitAt b.n (k : Int) = b.n.toNat.testBit k := by
      have := bitAt_toNat (p := b.n) (k := (k : Int)) (by omega) (by omega)
      rw [Int.toNat_natCast] at this
      exact this
    rw [e, this]; rfl
theorem spares_eq {b : Brd} {S : List Bool} {p : Nat} (hb : boardOk b = true) (h : Sub b p) : spares b S (p : Int) = (bitsN (p : Int) 49).filter fun k => hasS S ((p : Int) - 2 ^ k.toNat) := by
  rw [bitsN_sub hb h, List.filter_filter]
  unfold spares
  apply List.filter_congr
  intro k hk
  obtain ⟨_, _, k0, _⟩ := mem_holes hk
  simp only [spAt]
  cases hb : bitAt (p : Int) k with
  | false => simp
  | true =>
    rw [bitAt_int k0] at hb
    have e := ndiff_sub hb
    have hle : 2 ^ k.toNat ≤ p := Nat.ge_two_pow_of_testBit hb
    have e2 : ((ndiff p (2 ^ k.toNat) : Nat) : Int) = (p : Int) - 2 ^ k.toNat := by
      rw [e, Int.ofNat_sub hle]; simp
    rw [Int.toNat_natCast, e2]
    simp
noncomputable def isTight (b : Brd) (p g : Int) : Bool := hasS (spreadL b true g) p && decide ((spares b (spreadL b true g) p).length = 0)
theorem len0_cast {n : Nat} : decide ((n : Int) = 0) = decide (n = 0) := by simp
theorem spread_at {b : Brd} {bk : Bool} {g p : Int} (h : hasS (spreadL b bk g) p = true) : isSmall b = true ∧ positionOk b g = true ∧ positionOk b p = true ∧ boardOk b = true ∧ 0 ≤ p ∧ Sub b p.toNat ∧ p.toNat < (spreadL b bk g).length ∧ p ≤ 65536 := by
  obtain ⟨h1, h2, h3, h4⟩ := has_spread.1 h
  obtain ⟨hb, p0, hsub⟩ := pos_sub h3
  have hlt := sub_lt hb hsub
  have hN := board_le h1
  refine ⟨h1, h2, h3, hb, p0, hsub, ?_, by omega⟩
  simp only [spreadL, h1, h2, and_self, if_true, seenL_len]
  exact hlt
noncomputable def sparePegs (b : Brd) (p g : Int) : List Int := if canReach b p g = true then spares b (spreadL b true g) p else []
end Go.Proofs.YtggejdgohkfmmaaGreat
namespace Go.Proofs.YtggejdgohkfmmaaGreat
open Go.PL
set_option linter.unusedSimpArgs false
/-- spared pegs are taken away, the first one first -/
def tight (b : Brd) (S : List Bool) (p : Nat) : Nat :=
  match spares b S (p : Int) with
  | [] => p
  | k :: _ => if h : p - 2 ^ k.toNat < p then tight b S (p - 2 ^ k.toNat) else p
  termination_by p
theorem tight_nil {b : Brd} {S : List Bool} {p : Nat} (h : spares b S (p : Int) = []) : tight b S p = p := by
  rw [tight, h]
theorem tight_cons {b : Brd} {S : List Bool} {p : Nat} {k : Int} {r : List Int} (h : spares b S (p : Int) = k :: r) (hlt : p - 2 ^ k.toNat < p) : tight b S p = tight b S (p - 2 ^ k.toNat) := by
  conv => lhs; rw [tight, h]
  simp only [hlt, dite_true]
theorem spare_at {b : Brd} {S : List Bool} {p : Nat} {k : Int} (h : k ∈ spares b S (p : Int)) : 0 ≤ k ∧ k ≤ 48 ∧ p.testBit k.toNat = true ∧ 2 ^ k.toNat ≤ p ∧ p - 2 ^ k.toNat < p ∧ ndiff p (2 ^ k.toNat) = p - 2 ^ k.toNat ∧ hasS S ((p - 2 ^ k.toNat : Nat) : Int) = true := by
  unfold spares at h
  obtain ⟨h1, h2⟩ := List.mem_filter.1 h
  obtain ⟨_, _, k0, k1⟩ := mem_holes h1
  simp only [spAt, Bool.and_eq_true] at h2
  obtain ⟨h3, h4⟩ := h2
  rw [bitAt_int k0] at h3
  have e := ndiff_sub h3
  have hle : 2 ^ k.toNat ≤ p := Nat.ge_two_pow_of_testBit h3
  have hpos : 0 < 2 ^ k.toNat := Nat.pow_pos (by omega)
  rw [Int.toNat_natCast, e] at h4
  exact ⟨k0, k1, h3, hle, by omega, e, h4⟩
noncomputable def tightI (b : Brd) (p g : Int) : Int := if canReach b p g = true then (tight b (spreadL b true g) p.toNat : Nat) else p
end Go.Proofs.YtggejdgohkfmmaaGreat
namespace Go.Proofs.YtggejdgohkfmmaaGreat
open Go.PL
set_option linter.unusedSimpArgs false
def pop1 (x : Nat) : Nat := (x / 2 ^ 1 &&& 6148914691236517205) + (x &&& 6148914691236517205)
def pop2 (x : Nat) : Nat := (x / 2 ^ 2 &&& 3689348814741910323) + (x &&& 3689348814741910323)
def pop3 (x : Nat) : Nat := (x / 2 ^ 4 + x) &&& 1085102592571150095
def pop4 (x : Nat) : Nat := x + x / 2 ^ 8
def pop5 (x : Nat) : Nat := x + x / 2 ^ 16
def pop6 (x : Nat) : Nat := x + x / 2 ^ 32
def popN (x : Nat) : Nat := pop6 (pop5 (pop4 (pop3 (pop2 (pop1 x))))) &&& 127
def popAll : Bool := (List.range 256).all fun a => (List.range 256).all fun c => popN (256 * a + c) == cardN 8 a + cardN 8 c
set_option maxRecDepth 100000 in
theorem popAll_true : popAll = true := by decide +kernel
theorem cardN_split : ∀ (m a c : Nat), c < 256 → cardN (8 + m) (256 * a + c) = cardN m a + cardN 8 c
  | 0, a, c, hc => by
    have e : ∀ j, j ≤ 8 → cardN j (256 * a + c) = cardN j c := by
      intro j
      induction j with
      | zero => intro _; rfl
      | succ j ih =>
        intro hj
        have : (256 * a + c).testBit j = c.testBit j := by
          have h := Nat.testBit_two_pow_mul_add (i := 8) a (b := c) (by simpa using hc) j
          rw [show (2 : Nat) ^ 8 = 256 from rfl] at h
          rw [h, if_pos (by omega)]
        simp only [cardN, ih (by omega), this]
    rw [Nat.add_zero, e 8 (by omega)]
    simp [cardN]
  | m + 1, a, c, hc => by
    have ih := cardN_split m a c hc
    have : (256 * a + c).testBit (8 + m) = a.testBit m := by
      have h := Nat.testBit_two_pow_mul_add (i := 8) a (b := c) (by simpa using hc) (8 + m)
      rw [show (2 : Nat) ^ 8 = 256 from rfl] at h
      rw [h, if_neg (by omega)]
      congr 1
      omega
    rw [← Nat.add_assoc, show cardN (8 + m + 1) (256 * a + c) = cardN (8 + m) (256 * a + c) + (if (256 * a + c).testBit (8 + m) = true then 1 else 0) from rfl,
      show cardN (m + 1) a = cardN m a + (if a.testBit m = true then 1 else 0) from rfl, this, ih]
    omega
theorem popN_card {x : Nat} (hx : x < 65536) : popN x = cardN 16 x := by
  have h := popAll_true
  unfold popAll at h
  have h1 := List.all_eq_true.1 h (x / 256) (List.mem_range.2 (by omega))
  have h2 := List.all_eq_true.1 h1 (x % 256) (List.mem_range.2 (by omega))
  have e : 256 * (x / 256) + x % 256 = x := by omega
  rw [e] at h2
  have h3 := cardN_split 8 (x / 256) (x % 256) (by omega)
  rw [e] at h3
  rw [h3]
  simpa using h2
theorem shr_nat {x n : Nat} : (x : Int) / 2 ^ n = ((x / 2 ^ n : Nat) : Int) := by simp
theorem add_nat {a c : Nat} : (a : Int) + (c : Int) = ((a + c : Nat) : Int) := by simp
theorem bitsN_card {x : Nat} : ∀ {m : Nat}, (bitsN (x : Int) m).length = cardN m x
  | 0 => rfl
  | m + 1 => by
    have ih := bitsN_card (x := x) (m := m)
    cases h : bitAt (x : Int) (m : Int) with
    | true =>
      rw [bitsN_hit h, List.length_append, ih]
      rw [bitAt_nat] at h
      simp [cardN, h]
    | false =>
      rw [bitsN_miss h, ih]
      rw [bitAt_nat] at h
      simp [cardN, h]
theorem cardN_more {x m : Nat} (h : x < 2 ^ m) : ∀ d, cardN (m + d) x = cardN m x
  | 0 => rfl
  | d + 1 => by
    rw [← Nat.add_assoc]
    have : x.testBit (m + d) = false := Nat.testBit_lt_two_pow (Nat.lt_of_lt_of_le h (Nat.pow_le_pow_right (by omega) (by omega)))
    simp only [cardN, this, cardN_more h d]
    simp
theorem small_n {b : Brd} (hs : isSmall b = true) : b.n.toNat < 65536 ∧ (b.n.toNat : Int) = b.n ∧ boardOk b = true := by
  have hb : boardOk b = true := by simp only [isSmall, Bool.and_eq_true] at hs; exact hs.1
  have n1 := (bok hb).n1
  have n2 := (bok hb).n2
  simp only [isSmall, Bool.and_eq_true, decide_eq_true_eq] at hs
  have h1 : (2 : Nat) ^ (b.w * b.h).toNat ≤ 2 ^ 16 := Nat.pow_le_pow_right (by omega) (by omega)
  have e : ((2 ^ (b.w * b.h).toNat : Nat) : Int) = (2 : Int) ^ (b.w * b.h).toNat := by simp
  exact ⟨by omega, by omega, hb⟩
theorem holes_card {b : Brd} (hs : isSmall b = true) : (holesOf b).length = cardN 16 b.n.toNat := by
  obtain ⟨h1, h2, h3⟩ := small_n hs
  rw [← holes_49 h3]
  conv => lhs; rw [← h2]
  rw [bitsN_card]
  exact cardN_more (m := 16) (by simpa using h1) 33
theorem CountHoles_c (b : Brd) : PC Tryz.prog 125 [] [.a (brdC b)] (vN ((holesOf b).length)) ⟨[], []⟩ := by
  refine pc_of Tryz.func125 rfl (by kernel_rfl) _ Tryz.ntmps125 (by simp) ?_
  simp -implicitDefEqProofs only [go_sem]
  refine callL (HolesOf_c 4 b) rfl rfl rfl ?_
  simp -implicitDefEqProofs only [go_sem]
  exact fin_scal rfl rfl
def pegs (x : Nat) : Nat := cardN 49 x
theorem pegs_16 {x : Nat} (h : x < 65536) : pegs x = cardN 16 x := cardN_more (m := 16) (by simpa using h) 33
theorem CountPegs_c (b : Brd) (x : Nat) (h : positionOk b (x : Int) = true) (hx : x ≤ 9223372036854775807) : PC Tryz.prog 14 [] [.a (brdC b), .c (.v (.int .i64 (x : Int)))] (vN (pegs x)) ⟨[], []⟩ := by
  refine pc_of Tryz.func14 rfl (by kernel_rfl) _ Tryz.ntmps14 (by simp) ?_
  simp -implicitDefEqProofs only [go_sem]
  refine callS (PositionOk_c b (x : Int) (by omega)) rfl rfl rfl ?_
  (repeat' (first | simp -implicitDefEqProofs only [h, go_sem] | (refine And.intro ?_ ?_; omega) | (refine And.intro (shr_bd ?_ ?_) ?_; omega; omega) | refine sl_list rfl ?_ | refine sd_list rfl ?_ | refine sl_str ?_ | refine sd_str ?_))
  refine callL (l02List_c 10 (x : Int) (by omega) (by omega)) rfl rfl rfl ?_
  simp -implicitDefEqProofs only [bitsN_card, go_sem]
  exact fin_scal rfl rfl
end Go.Proofs.YtggejdgohkfmmaaGreat
namespace Go.Proofs.YtggejdgohkfmmaaGreat
open Go.PL
set_option linter.unusedSimpArgs false
noncomputable def backOf (b : Brd) (g : Int) : List Nat := listS (spreadL b true g)
theorem mem_listS {S : List Bool} {q : Nat} (h : q ∈ listS S) : hasS S (q : Int) = true := by
  unfold listS listN at h
  obtain ⟨h1, h2⟩ := List.mem_filter.1 h
  simp only [markedS] at h2
  simp [hasS, h2]
theorem listS_len {S : List Bool} (h : S.length ≤ 65536) : (listS S).length ≤ 65536 := by
  have := listN_len (S := S) (i := S.length)
  unfold listS; omega
theorem mem_back {b : Brd} {g : Int} {q : Nat} (h : q ∈ backOf b g) : positionOk b (q : Int) = true ∧ q < 65536 := by
  obtain ⟨h1, h2, h3, hb, _, hsub, hlt, _⟩ := spread_at (mem_listS h)
  have := spreadL_len (b := b) (bk := true) (p := g)
  rw [Int.toNat_natCast] at hlt
  exact ⟨h3, by omega⟩
def leastF (g acc : Int) (q : Nat) : Int := if (q : Int) ≠ g ∧ (acc < 0 ∨ (pegs q : Int) < acc) then pegs q else acc
def leastN (g : Int) (l : List Nat) (i : Nat) : Int := (l.take i).foldl (leastF g) (-1)
theorem leastN_step {g : Int} {l : List Nat} {i : Nat} (h : i < l.length) : leastN g l (i + 1) = leastF g (leastN g l i) l[i] := by
  unfold leastN
  rw [List.take_succ_eq_append_getElem h, List.foldl_append]
  rfl
theorem leastN_bd {g : Int} {l : List Nat} : ∀ {i : Nat}, -1 ≤ leastN g l i ∧ leastN g l i ≤ 49
  | 0 => by simp [leastN]
  | i + 1 => by
    by_cases h : i < l.length
    · have ih := leastN_bd (g := g) (l := l) (i := i)
      rw [leastN_step h]
      have := cardN_le (n := 49) (s := l[i])
      unfold leastF
      split
      · unfold pegs; omega
      · exact ih
    · have ih := leastN_bd (g := g) (l := l) (i := i)
      have e : leastN g l (i + 1) = leastN g l i := by
        simp only [leastN]
        rw [List.take_of_length_le (by omega), List.take_of_length_le (by omega)]
      rw [e]; exact ih
noncomputable def leastStart (b : Brd) (g : Int) : Int := leastN g (backOf b g) (backOf b g).length
/-! ### tight positions -/
def noSpare (b : Brd) (S : List Bool) (q : Nat) : Bool := decide ((spares b S (q : Int)).length = 0)
noncomputable def countTight (b : Brd) (g : Int) : Int :=
  if isSmall b = true ∧ positionOk b g = true ∧ (holesOf b).length ≤ 9 then ((backOf b g).filter (noSpare b (spreadL b true g))).length else -1
end Go.Proofs.YtggejdgohkfmmaaGreat
