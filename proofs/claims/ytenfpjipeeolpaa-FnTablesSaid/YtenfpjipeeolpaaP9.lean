/-
  What the functions compute that count the bits of a number.
-/
import Derived.Test.YtenfpjipeeolpaaP2
import Derived.Test.YtenfpjipeeolpaaN1
import Derived.Test.YtenfpjipeeolpaaGa
namespace Go.Proofs.Ytenfpjipeeolpaa
open Go.PL
set_option linter.unusedSimpArgs false
def pop1 (x : Nat) : Nat := (x / 2 ^ 1 &&& 6148914691236517205) + (x &&& 6148914691236517205)
def pop2 (x : Nat) : Nat := (x / 2 ^ 2 &&& 3689348814741910323) + (x &&& 3689348814741910323)
def pop3 (x : Nat) : Nat := (x / 2 ^ 4 + x) &&& 1085102592571150095
def pop4 (x : Nat) : Nat := x + x / 2 ^ 8
def pop5 (x : Nat) : Nat := x + x / 2 ^ 16
def pop6 (x : Nat) : Nat := x + x / 2 ^ 32
def popN (x : Nat) : Nat := pop6 (pop5 (pop4 (pop3 (pop2 (pop1 x))))) &&& 127
def popAll : Bool := (List.range 256).all fun a => (List.range 256).all fun c => popN (256 * a + c) == cardN 8 a + cardN 8 c
set_option maxRecDepth 100000 in
theorem popAll_true : popAll = true := by decide +kernel
theorem cardN_split : ∀ (m a c : Nat), c < 256 → cardN (8 + m) (256 * a + c) = cardN m a + cardN 8 c
  | 0, a, c, hc => by
    have e : ∀ j, j ≤ 8 → cardN j (256 * a + c) = cardN j c := by
      intro j
      induction j with
      | zero => intro _; rfl
      | succ j ih =>
        intro hj
        have : (256 * a + c).testBit j = c.testBit j := by
          have h := Nat.testBit_two_pow_mul_add (i := 8) a (b := c) (by simpa using hc) j
          rw [show (2 : Nat) ^ 8 = 256 from rfl] at h
          rw [h, if_pos (by omega)]
        simp only [cardN, ih (by omega), this]
    rw [Nat.add_zero, e 8 (by omega)]
    simp [cardN]
  | m + 1, a, c, hc => by
    have ih := cardN_split m a c hc
    have : (256 * a + c).testBit (8 + m) = a.testBit m := by
      have h := Nat.testBit_two_pow_mul_add (i := 8) a (b := c) (by simpa using hc) (8 + m)
      rw [show (2 : Nat) ^ 8 = 256 from rfl] at h
      rw [h, if_neg (by omega)]
      congr 1
      omega
    rw [← Nat.add_assoc, show cardN (8 + m + 1) (256 * a + c) = cardN (8 + m) (256 * a + c) + (if (256 * a + c).testBit (8 + m) = true then 1 else 0) from rfl,
      show cardN (m + 1) a = cardN m a + (if a.testBit m = true then 1 else 0) from rfl, this, ih]
    omega
theorem popN_card {x : Nat} (hx : x < 65536) : popN x = cardN 16 x := by
  have h := popAll_true
  unfold popAll at h
  have h1 := List.all_eq_true.1 h (x / 256) (List.mem_range.2 (by omega))
  have h2 := List.all_eq_true.1 h1 (x % 256) (List.mem_range.2 (by omega))
  have e : 256 * (x / 256) + x % 256 = x := by omega
  rw [e] at h2
  have h3 := cardN_split 8 (x / 256) (x % 256) (by omega)
  rw [e] at h3
  rw [h3]
  simpa using h2
theorem shr_nat {x n : Nat} : (x : Int) / 2 ^ n = ((x / 2 ^ n : Nat) : Int) := by simp
theorem add_nat {a c : Nat} : (a : Int) + (c : Int) = ((a + c : Nat) : Int) := by simp
set_option maxHeartbeats 2000000 in
theorem OnesCount64_c (x : Nat) (hx : x < 65536) : PC Try.prog 151 [] [.c (.v (.int .u64 (x : Int)))] (vN (cardN 16 x)) ⟨[], []⟩ := by
  rw [← popN_card hx]
  refine pc_of Try.func151 rfl (by kernel_rfl) _ Try.ntmps151 (by simp) ?_
  have a1 := Nat.and_le_left (n := x / 2 ^ 1) (m := 6148914691236517205)
  have a2 := Nat.and_le_left (n := x) (m := 6148914691236517205)
  have b1 : pop1 x ≤ 200000 := by unfold pop1; omega
  generalize hy : pop1 x = y at b1
  have a3 := Nat.and_le_left (n := y / 2 ^ 2) (m := 3689348814741910323)
  have a4 := Nat.and_le_left (n := y) (m := 3689348814741910323)
  have b2 : pop2 y ≤ 400000 := by unfold pop2; omega
  generalize hz : pop2 y = z at b2
  have a5 := Nat.and_le_left (n := z / 2 ^ 4 + z) (m := 1085102592571150095)
  have b3 : pop3 z ≤ 800000 := by unfold pop3; omega
  generalize hu : pop3 z = u at b3
  have b4 : pop4 u ≤ 1600000 := by unfold pop4; omega
  generalize hv : pop4 u = v at b4
  have b5 : pop5 v ≤ 3200000 := by unfold pop5; omega
  generalize hw : pop5 v = w at b5
  have b6 : pop6 w ≤ 6400000 := by unfold pop6; omega
  have e : popN x = (pop6 w &&& 127) := by unfold popN; rw [hy, hz, hu, hv, hw]
  rw [e]
  unfold pop1 at hy
  unfold pop2 at hz
  unfold pop3 at hu
  unfold pop4 at hv
  unfold pop5 at hw
  unfold pop6 at *
  (repeat' (first | simp -implicitDefEqProofs only [shr_nat, add_nat, hy, hz, hu, hv, hw, go_sem, Nat.reduceLT, Nat.reduceLeDiff, Nat.reduceEqDiff, Nat.reduceAdd, Nat.reduceSub, Nat.reduceMul, Int.reduceEq, Int.reduceLT, Int.reduceLE, Int.reduceNeg, Int.reduceAdd, Int.reduceSub, Int.reduceMul, Int.reduceToNat, reduceIte, reduceCtorEq, List.map_cons, List.map_nil] | (refine And.intro ?_ ?_; omega) | (refine And.intro (shr_bd ?_ ?_) ?_; omega; omega) | refine sl_list rfl ?_ | refine sd_list rfl ?_ | refine sl_str ?_ | refine sd_str ?_))
  exact fin_scal rfl rfl
theorem OnesCount_c (x : Nat) (hx : x < 65536) : PC Try.prog 133 [] [.c (.v (.int .u64 (x : Int)))] (vN (cardN 16 x)) ⟨[], []⟩ := by
  refine pc_of Try.func133 rfl (by kernel_rfl) _ Try.ntmps133 (by simp) ?_
  (repeat' (first | simp -implicitDefEqProofs only [go_sem, Nat.reduceLT, Nat.reduceLeDiff, Nat.reduceEqDiff, Nat.reduceAdd, Nat.reduceSub, Nat.reduceMul, Int.reduceEq, Int.reduceLT, Int.reduceLE, Int.reduceNeg, Int.reduceAdd, Int.reduceSub, Int.reduceMul, Int.reduceToNat, reduceIte, reduceCtorEq, List.map_cons, List.map_nil] | (refine And.intro ?_ ?_; omega) | (refine And.intro (shr_bd ?_ ?_) ?_; omega; omega) | refine sl_list rfl ?_ | refine sd_list rfl ?_ | refine sl_str ?_ | refine sd_str ?_))
  refine callS (OnesCount64_c x hx) rfl rfl rfl ?_
  (repeat' (first | simp -implicitDefEqProofs only [go_sem, Nat.reduceLT, Nat.reduceLeDiff, Nat.reduceEqDiff, Nat.reduceAdd, Nat.reduceSub, Nat.reduceMul, Int.reduceEq, Int.reduceLT, Int.reduceLE, Int.reduceNeg, Int.reduceAdd, Int.reduceSub, Int.reduceMul, Int.reduceToNat, reduceIte, reduceCtorEq, List.map_cons, List.map_nil] | (refine And.intro ?_ ?_; omega) | (refine And.intro (shr_bd ?_ ?_) ?_; omega; omega) | refine sl_list rfl ?_ | refine sd_list rfl ?_ | refine sl_str ?_ | refine sd_str ?_))
  exact fin_scal rfl rfl
theorem pegsIn_c (x : Nat) (hx : x < 65536) : PC Try.prog 86 [] [.c (.v (.int .i64 (x : Int)))] (vN (cardN 16 x)) ⟨[], []⟩ := by
  refine pc_of Try.func86 rfl (by kernel_rfl) _ Try.ntmps86 (by simp) ?_
  (repeat' (first | simp -implicitDefEqProofs only [go_sem, Nat.reduceLT, Nat.reduceLeDiff, Nat.reduceEqDiff, Nat.reduceAdd, Nat.reduceSub, Nat.reduceMul, Int.reduceEq, Int.reduceLT, Int.reduceLE, Int.reduceNeg, Int.reduceAdd, Int.reduceSub, Int.reduceMul, Int.reduceToNat, reduceIte, reduceCtorEq, List.map_cons, List.map_nil] | (refine And.intro ?_ ?_; omega) | (refine And.intro (shr_bd ?_ ?_) ?_; omega; omega) | refine sl_list rfl ?_ | refine sd_list rfl ?_ | refine sl_str ?_ | refine sd_str ?_))
  refine callS (OnesCount_c x hx) rfl rfl rfl ?_
  (repeat' (first | simp -implicitDefEqProofs only [go_sem, Nat.reduceLT, Nat.reduceLeDiff, Nat.reduceEqDiff, Nat.reduceAdd, Nat.reduceSub, Nat.reduceMul, Int.reduceEq, Int.reduceLT, Int.reduceLE, Int.reduceNeg, Int.reduceAdd, Int.reduceSub, Int.reduceMul, Int.reduceToNat, reduceIte, reduceCtorEq, List.map_cons, List.map_nil] | (refine And.intro ?_ ?_; omega) | (refine And.intro (shr_bd ?_ ?_) ?_; omega; omega) | refine sl_list rfl ?_ | refine sd_list rfl ?_ | refine sl_str ?_ | refine sd_str ?_))
  exact fin_scal rfl rfl
theorem bitsN_card {x : Nat} : ∀ {m : Nat}, (bitsN (x : Int) m).length = cardN m x
  | 0 => rfl
  | m + 1 => by
    have ih := bitsN_card (x := x) (m := m)
    cases h : bitAt (x : Int) (m : Int) with
    | true =>
      rw [bitsN_hit h, List.length_append, ih]
      rw [bitAt_nat] at h
      simp [cardN, h]
    | false =>
      rw [bitsN_miss h, ih]
      rw [bitAt_nat] at h
      simp [cardN, h]
theorem cardN_more {x m : Nat} (h : x < 2 ^ m) : ∀ d, cardN (m + d) x = cardN m x
  | 0 => rfl
  | d + 1 => by
    rw [← Nat.add_assoc]
    have : x.testBit (m + d) = false := Nat.testBit_lt_two_pow (Nat.lt_of_lt_of_le h (Nat.pow_le_pow_right (by omega) (by omega)))
    simp only [cardN, this, cardN_more h d]
    simp
theorem small_n {b : Brd} (hs : isSmall b = true) : b.n.toNat < 65536 ∧ (b.n.toNat : Int) = b.n ∧ boardOk b = true := by
  have hb : boardOk b = true := by simp only [isSmall, Bool.and_eq_true] at hs; exact hs.1
  have n1 := (bok hb).n1
  have n2 := (bok hb).n2
  simp only [isSmall, Bool.and_eq_true, decide_eq_true_eq] at hs
  have h1 : (2 : Nat) ^ (b.w * b.h).toNat ≤ 2 ^ 16 := Nat.pow_le_pow_right (by omega) (by omega)
  have e : ((2 ^ (b.w * b.h).toNat : Nat) : Int) = (2 : Int) ^ (b.w * b.h).toNat := by simp
  exact ⟨by omega, by omega, hb⟩
theorem holes_card {b : Brd} (hs : isSmall b = true) : (holesOf b).length = cardN 16 b.n.toNat := by
  obtain ⟨h1, h2, h3⟩ := small_n hs
  rw [← holes_49 h3]
  conv => lhs; rw [← h2]
  rw [bitsN_card]
  exact cardN_more (m := 16) (by simpa using h1) 33
theorem iCountHoles_c (b : Brd) (hs : isSmall b = true) : PC Try.prog 89 [] [.a (brdC b)] (vN ((holesOf b).length)) ⟨[], []⟩ := by
  refine pc_of Try.func89 rfl (by kernel_rfl) _ Try.ntmps89 (by simp) ?_
  obtain ⟨h1, h2, h3⟩ := small_n hs
  have hc := OnesCount_c b.n.toNat h1
  rw [h2] at hc
  simp -implicitDefEqProofs only [go_sem, Nat.reduceLT, Nat.reduceLeDiff, Nat.reduceEqDiff, Nat.reduceAdd, Nat.reduceSub, Nat.reduceMul, Int.reduceEq, Int.reduceLT, Int.reduceLE, Int.reduceNeg, Int.reduceAdd, Int.reduceSub, Int.reduceMul, Int.reduceToNat, reduceIte, reduceCtorEq, List.map_cons, List.map_nil]
  refine callS (iBoardOk_c b) rfl rfl rfl ?_
  have n1 := (bok h3).n1
  have n3 := (bok h3).n3
  (repeat' (first | simp -implicitDefEqProofs only [h3, go_sem, Nat.reduceLT, Nat.reduceLeDiff, Nat.reduceEqDiff, Nat.reduceAdd, Nat.reduceSub, Nat.reduceMul, Int.reduceEq, Int.reduceLT, Int.reduceLE, Int.reduceNeg, Int.reduceAdd, Int.reduceSub, Int.reduceMul, Int.reduceToNat, reduceIte, reduceCtorEq, List.map_cons, List.map_nil] | (refine And.intro ?_ ?_; omega) | (refine And.intro (shr_bd ?_ ?_) ?_; omega; omega) | refine sl_list rfl ?_ | refine sd_list rfl ?_ | refine sl_str ?_ | refine sd_str ?_))
  refine callS hc rfl rfl rfl ?_
  (repeat' (first | simp -implicitDefEqProofs only [go_sem, Nat.reduceLT, Nat.reduceLeDiff, Nat.reduceEqDiff, Nat.reduceAdd, Nat.reduceSub, Nat.reduceMul, Int.reduceEq, Int.reduceLT, Int.reduceLE, Int.reduceNeg, Int.reduceAdd, Int.reduceSub, Int.reduceMul, Int.reduceToNat, reduceIte, reduceCtorEq, List.map_cons, List.map_nil] | (refine And.intro ?_ ?_; omega) | (refine And.intro (shr_bd ?_ ?_) ?_; omega; omega) | refine sl_list rfl ?_ | refine sd_list rfl ?_ | refine sl_str ?_ | refine sd_str ?_))
  exact fin_scal rfl (by rw [holes_card hs])
theorem CountHoles_c (b : Brd) : PC Try.prog 127 [] [.a (brdC b)] (vN ((holesOf b).length)) ⟨[], []⟩ := by
  refine pc_of Try.func127 rfl (by kernel_rfl) _ Try.ntmps127 (by simp) ?_
  simp -implicitDefEqProofs only [go_sem, Nat.reduceLT, Nat.reduceLeDiff, Nat.reduceEqDiff, Nat.reduceAdd, Nat.reduceSub, Nat.reduceMul, Int.reduceEq, Int.reduceLT, Int.reduceLE, Int.reduceNeg, Int.reduceAdd, Int.reduceSub, Int.reduceMul, Int.reduceToNat, reduceIte, reduceCtorEq, List.map_cons, List.map_nil]
  refine callL (HolesOf_c 4 b) rfl rfl rfl ?_
  simp -implicitDefEqProofs only [go_sem, Nat.reduceLT, Nat.reduceLeDiff, Nat.reduceEqDiff, Nat.reduceAdd, Nat.reduceSub, Nat.reduceMul, Int.reduceEq, Int.reduceLT, Int.reduceLE, Int.reduceNeg, Int.reduceAdd, Int.reduceSub, Int.reduceMul, Int.reduceToNat, reduceIte, reduceCtorEq, List.map_cons, List.map_nil]
  exact fin_scal rfl rfl
def pegs (x : Nat) : Nat := cardN 49 x
theorem pegs_16 {x : Nat} (h : x < 65536) : pegs x = cardN 16 x := cardN_more (m := 16) (by simpa using h) 33
theorem CountPegs_c (b : Brd) (x : Nat) (h : positionOk b (x : Int) = true) (hx : x ≤ 9223372036854775807) : PC Try.prog 25 [] [.a (brdC b), .c (.v (.int .i64 (x : Int)))] (vN (pegs x)) ⟨[], []⟩ := by
  refine pc_of Try.func25 rfl (by kernel_rfl) _ Try.ntmps25 (by simp) ?_
  simp -implicitDefEqProofs only [go_sem, Nat.reduceLT, Nat.reduceLeDiff, Nat.reduceEqDiff, Nat.reduceAdd, Nat.reduceSub, Nat.reduceMul, Int.reduceEq, Int.reduceLT, Int.reduceLE, Int.reduceNeg, Int.reduceAdd, Int.reduceSub, Int.reduceMul, Int.reduceToNat, reduceIte, reduceCtorEq, List.map_cons, List.map_nil]
  refine callS (PositionOk_c b (x : Int) (by omega)) rfl rfl rfl ?_
  (repeat' (first | simp -implicitDefEqProofs only [h, go_sem, Nat.reduceLT, Nat.reduceLeDiff, Nat.reduceEqDiff, Nat.reduceAdd, Nat.reduceSub, Nat.reduceMul, Int.reduceEq, Int.reduceLT, Int.reduceLE, Int.reduceNeg, Int.reduceAdd, Int.reduceSub, Int.reduceMul, Int.reduceToNat, reduceIte, reduceCtorEq, List.map_cons, List.map_nil] | (refine And.intro ?_ ?_; omega) | (refine And.intro (shr_bd ?_ ?_) ?_; omega; omega) | refine sl_list rfl ?_ | refine sd_list rfl ?_ | refine sl_str ?_ | refine sd_str ?_))
  refine callL (l02List_c 10 (x : Int) (by omega) (by omega)) rfl rfl rfl ?_
  simp -implicitDefEqProofs only [bitsN_card, go_sem, Nat.reduceLT, Nat.reduceLeDiff, Nat.reduceEqDiff, Nat.reduceAdd, Nat.reduceSub, Nat.reduceMul, Int.reduceEq, Int.reduceLT, Int.reduceLE, Int.reduceNeg, Int.reduceAdd, Int.reduceSub, Int.reduceMul, Int.reduceToNat, reduceIte, reduceCtorEq, List.map_cons, List.map_nil]
  exact fin_scal rfl rfl
end Go.Proofs.Ytenfpjipeeolpaa
