/-
  What the functions compute that print times, holes, jumps and games.
  What the functions compute that print games.
  What the functions compute that print positions.
  What impl.FormatTable computes.
-/
import Derived.Test.YtahnbliabllflaaGreatDoorB1
import Derived.Test.YtahnbliabllflaaGreatDoorU1
import Derived.Test.YtahnbliabllflaaGreatDoorT1
namespace Go.Proofs.YtahnbliabllflaaGreatDoor
open Go.PL
set_option linter.unusedSimpArgs false
set_option linter.unusedVariables false
theorem timeT_nat {n : Nat} (h : n ≤ 100000) : timeT (n : Int) = itoa ((n / 60 : Nat) : Int) ++ (58 :: (if (itoa ((n % 60 : Nat) : Int)).length = 1 then 48 :: itoa ((n % 60 : Nat) : Int) else itoa ((n % 60 : Nat) : Int))) := by
  have hw : within (n : Int) 0 100000 = true := by rw [within_iff]; omega
  rw [two_digits (Nat.mod_lt _ (by omega)), timeT, if_pos hw]
  have e1 : (n : Int) / 60 = ((n / 60 : Nat) : Int) := by omega
  have e2 : (n : Int) % 60 / 10 = ((n % 60 / 10 : Nat) : Int) := by omega
  have e3 : (n : Int) % 10 = ((n % 60 % 10 : Nat) : Int) := by omega
  rw [e1, e2, e3]
  rfl
theorem TimeText_c (s : Int) : PC Tryz.prog 105 [] [.c (.v (.int .i64 s))] (vS (timeT s)) ⟨[], []⟩ := by
  cases h : within s 0 100000 with
  | false =>
    refine pc_of Tryz.func105 rfl (by kernel_rfl) _ Tryz.ntmps105 (by simp) ?_
    repeat' first
      | (first | simp -implicitDefEqProofs only [h, go_sem] | (refine And.intro ?_ ?_; omega) | (refine And.intro (shr_bd ?_ ?_) ?_; omega; omega) | refine sl_list rfl ?_ | refine sd_list rfl ?_ | refine sl_str ?_ | refine sd_str ?_)
      | refine callS (l01In_c s 0 100000) rfl rfl rfl ?_
    exact fin_scal rfl (by simp [timeT, h])
  | true =>
    have hw := within_iff.1 h
    obtain ⟨n, rfl⟩ : ∃ n : Nat, s = n := ⟨s.toNat, by omega⟩
    have f1 : (n : Int) % 60 = ((n % 60 : Nat) : Int) := by omega
    have f2 : (n : Int) / 60 = ((n / 60 : Nat) : Int) := by omega
    have l1 := itoa_len (n := ((n % 60 : Nat) : Int)) (by omega) (by omega)
    have l2 := itoa_len (n := ((n / 60 : Nat) : Int)) (by omega) (by omega)
    have q1 := FormatInt_c (n % 60) (by omega)
    have q2 := FormatInt_c (n / 60) (by omega)
    rw [timeT_nat (by omega)]
    generalize itoa ((n % 60 : Nat) : Int) = A at *
    generalize itoa ((n / 60 : Nat) : Int) = B at *
    by_cases h1 : A.length = 1
    · have e1 : ((A.length : Int) = 1) = True := eq_true (by omega)
      rw [if_pos h1]
      refine pc_of Tryz.func105 rfl (by kernel_rfl) _ Tryz.ntmps105 (by simp) ?_
      repeat' first
        | (first | simp -implicitDefEqProofs only [h, f1, f2, e1, go_sem] | (refine And.intro ?_ ?_; omega) | (refine And.intro (shr_bd ?_ ?_) ?_; omega; omega) | refine sl_list rfl ?_ | refine sd_list rfl ?_ | refine sl_str ?_ | refine sd_str ?_)
        | refine callS (l01In_c (n : Int) 0 100000) rfl rfl rfl ?_
        | refine callS q1 rfl rfl rfl ?_
        | refine callS q2 rfl rfl rfl ?_
      exact fin_scal rfl (by simp)
    · have e1 : ((A.length : Int) = 1) = False := eq_false (by omega)
      rw [if_neg h1]
      refine pc_of Tryz.func105 rfl (by kernel_rfl) _ Tryz.ntmps105 (by simp) ?_
      repeat' first
        | (first | simp -implicitDefEqProofs only [h, f1, f2, e1, go_sem] | (refine And.intro ?_ ?_; omega) | (refine And.intro (shr_bd ?_ ?_) ?_; omega; omega) | refine sl_list rfl ?_ | refine sd_list rfl ?_ | refine sl_str ?_ | refine sd_str ?_)
        | refine callS (l01In_c (n : Int) 0 100000) rfl rfl rfl ?_
        | refine callS q1 rfl rfl rfl ?_
        | refine callS q2 rfl rfl rfl ?_
      exact fin_scal rfl (by simp)
theorem iFI_c (n : Int) (h0 : -9223372036854775808 ≤ n) (h1 : n ≤ 9223372036854775807) : PC Tryz.prog 19 [] [.c (.v (.int .i64 n))] (vS (itoa n)) ⟨[], []⟩ := iFormatInt_c n h0 h1
theorem iTimeText_c (s : Int) : PC Tryz.prog 57 [] [.c (.v (.int .i64 s))] (vS (timeT s)) ⟨[], []⟩ := by
  cases h : within s 0 100000 with
  | false =>
    refine pc_of Tryz.func57 rfl (by kernel_rfl) _ Tryz.ntmps57 (by simp) ?_
    repeat' first
      | (first | simp -implicitDefEqProofs only [h, go_sem] | (refine And.intro ?_ ?_; omega) | (refine And.intro (shr_bd ?_ ?_) ?_; omega; omega) | refine sl_list rfl ?_ | refine sd_list rfl ?_ | refine sl_str ?_ | refine sd_str ?_)
      | refine callS (within_c s 0 100000) rfl rfl rfl ?_
    exact fin_scal rfl (by simp [timeT, h])
  | true =>
    have hw := within_iff.1 h
    have l1 := itoa_len (n := s / 60) (by omega) (by omega)
    have l2 := itoa_len (n := s % 60 / 10) (by omega) (by omega)
    have l3 := itoa_len (n := s % 10) (by omega) (by omega)
    refine pc_of Tryz.func57 rfl (by kernel_rfl) _ Tryz.ntmps57 (by simp) ?_
    repeat' first
      | (first | simp -implicitDefEqProofs only [h, go_sem] | (refine And.intro ?_ ?_; omega) | (refine And.intro (shr_bd ?_ ?_) ?_; omega; omega) | refine sl_list rfl ?_ | refine sd_list rfl ?_ | refine sl_str ?_ | refine sd_str ?_)
      | refine callS (within_c s 0 100000) rfl rfl rfl ?_
      | refine callS (iFI_c (s / 60) (by omega) (by omega)) rfl rfl rfl ?_
      | refine callS (iFI_c (s % 60 / 10) (by omega) (by omega)) rfl rfl rfl ?_
      | refine callS (iFI_c (s % 10) (by omega) (by omega)) rfl rfl rfl ?_
    exact fin_scal rfl (by simp [timeT, h])
def holeT (b : Brd) (k : Int) : List UInt8 := if hasHole b k = true then UInt8.ofNat (97 + (k % b.w).toNat) :: itoa (k / b.w + 1) else []
theorem enc_af : ∀ m : Nat, m < 7 → Utf8.encode (97 + (m : Int)) = sB [UInt8.ofNat (97 + m)]
  | 0, _ => rfl
  | 1, _ => rfl
  | 2, _ => rfl
  | 3, _ => rfl
  | 4, _ => rfl
  | 5, _ => rfl
  | 6, _ => rfl
  | n + 7, h => by omega
theorem cut_af : ∀ m : Nat, m < 7 → (([97, 98, 99, 100, 101, 102, 103] : List UInt8).drop m).take (m + 1 - m) = [UInt8.ofNat (97 + m)]
  | 0, _ => rfl
  | 1, _ => rfl
  | 2, _ => rfl
  | 3, _ => rfl
  | 4, _ => rfl
  | 5, _ => rfl
  | 6, _ => rfl
  | n + 7, h => by omega
structure HoleAt (b : Brd) (k : Int) (x y : Nat) : Prop where
  ex : k % b.w = x
  ey : k / b.w = y
  xl : x < 7
  yl : y ≤ 48
  k0 : 0 ≤ k
  k1 : k ≤ 48
  w1 : 1 ≤ b.w
  w7 : b.w ≤ 7
theorem hole_at {b : Brd} {k : Int} (h : hasHole b k = true) : ∃ x y, HoleAt b k x y := by
  simp only [hasHole, Bool.and_eq_true, within_iff] at h
  obtain ⟨⟨hb, k0, k1⟩, _⟩ := h
  obtain ⟨w1, w2, h1, h2, m1, m2, n1, n2, n3⟩ := bok hb
  have e1 := Int.emod_nonneg k (show b.w ≠ 0 by omega)
  have e2 := Int.emod_lt_of_pos k (show 0 < b.w by omega)
  have e3 := Int.ediv_nonneg k0 (show 0 ≤ b.w by omega)
  have e4 := Int.ediv_le_self b.w k0
  exact ⟨(k % b.w).toNat, (k / b.w).toNat, by omega, by omega, by omega, by omega, k0, by omega, w1, w2⟩
theorem HoleName_c (b : Brd) (k : Int) : PC Tryz.prog 156 [] [.a (brdC b), .c (.v (.int .i64 k))] (vS (holeT b k)) ⟨[], []⟩ := by
  cases h : hasHole b k with
  | false =>
    refine pc_of Tryz.func156 rfl (by kernel_rfl) _ Tryz.ntmps156 (by simp) ?_
    repeat' first
      | (first | simp -implicitDefEqProofs only [h, go_sem] | (refine And.intro ?_ ?_; omega) | (refine And.intro (shr_bd ?_ ?_) ?_; omega; omega) | refine sl_list rfl ?_ | refine sd_list rfl ?_ | refine sl_str ?_ | refine sd_str ?_)
      | refine callS (HasHole_c b k) rfl rfl rfl ?_
    exact fin_scal rfl (by simp [holeT, h])
  | true =>
    obtain ⟨x, y, ex, ey, xl, yl, k0, k1, w1, w7⟩ := hole_at h
    have hh : holeT b k = UInt8.ofNat (97 + x) :: itoa ((y : Int) + 1) := by simp [holeT, h, ex, ey]
    rw [hh]
    have fi : PC Tryz.prog 47 [] [.c (.v (.int .i64 ((y : Int) + 1)))] (vS (itoa ((y : Int) + 1))) ⟨[], []⟩ := FormatInt_c (y + 1) (by omega)
    have l1 := itoa_len (n := (y : Int) + 1) (by omega) (by omega)
    have cu := cut_af x xl
    have t1 : ((x : Int) + 1).toNat = x + 1 := by omega
    refine pc_of Tryz.func156 rfl (by kernel_rfl) _ Tryz.ntmps156 (by simp) ?_
    repeat' first
      | (first | simp -implicitDefEqProofs only [h, ex, ey, cu, t1, Int.toNat_natCast, go_sem] | (refine And.intro ?_ ?_; omega) | (refine And.intro (shr_bd ?_ ?_) ?_; omega; omega) | refine sl_list rfl ?_ | refine sd_list rfl ?_ | refine sl_str ?_ | refine sd_str ?_)
      | refine callS (HasHole_c b k) rfl rfl rfl ?_
      | refine draw_stepY Tryz.pl_follows (by kernel_rfl) ?_
      | refine callS fi rfl rfl rfl ?_
    exact fin_scal rfl rfl
theorem iHoleName_c (b : Brd) (k : Int) : PC Tryz.prog 113 [] [.a (brdC b), .c (.v (.int .i64 k))] (vS (holeT b k)) ⟨[], []⟩ := by
  cases h : hasHole b k with
  | false =>
    refine pc_of Tryz.func113 rfl (by kernel_rfl) _ Tryz.ntmps113 (by simp) ?_
    repeat' first
      | (first | simp -implicitDefEqProofs only [h, go_sem] | (refine And.intro ?_ ?_; omega) | (refine And.intro (shr_bd ?_ ?_) ?_; omega; omega) | refine sl_list rfl ?_ | refine sd_list rfl ?_ | refine sl_str ?_ | refine sd_str ?_)
      | refine callS (iHasHole_c b k) rfl rfl rfl ?_
    exact fin_scal rfl (by simp [holeT, h])
  | true =>
    obtain ⟨x, y, ex, ey, xl, yl, k0, k1, w1, w7⟩ := hole_at h
    have hh : holeT b k = UInt8.ofNat (97 + x) :: itoa ((y : Int) + 1) := by simp [holeT, h, ex, ey]
    rw [hh]
    have l1 := itoa_len (n := (y : Int) + 1) (by omega) (by omega)
    have en := enc_af x xl
    refine pc_of Tryz.func113 rfl (by kernel_rfl) _ Tryz.ntmps113 (by simp) ?_
    repeat' first
      | (first | simp -implicitDefEqProofs only [h, ex, ey, en, go_sem] | (refine And.intro ?_ ?_; omega) | (refine And.intro (shr_bd ?_ ?_) ?_; omega; omega) | refine sl_list rfl ?_ | refine sd_list rfl ?_ | refine sl_str ?_ | refine sd_str ?_)
      | refine callS (iHasHole_c b k) rfl rfl rfl ?_
      | refine draw_stepY Tryz.pl_follows (by kernel_rfl) ?_
      | refine callS (iFI_c ((y : Int) + 1) (by omega) (by omega)) rfl rfl rfl ?_
    exact fin_scal rfl rfl
theorem holeT_len {b : Brd} {k : Int} : (holeT b k).length ≤ 25 := by
  unfold holeT
  split
  · rename_i h
    obtain ⟨x, y, ex, ey, xl, yl, _⟩ := hole_at h
    have l1 := itoa_len (n := (y : Int) + 1) (by omega) (by omega)
    rw [ey, List.length_cons]; omega
  · simp
def jumpT (b : Brd) (l : Ln) : List UInt8 := if isLine b l = true then holeT b l.f ++ (45 :: holeT b l.t) else []
theorem jumpT_len {b : Brd} {l : Ln} : (jumpT b l).length ≤ 51 := by
  have h1 := holeT_len (b := b) (k := l.f)
  have h2 := holeT_len (b := b) (k := l.t)
  unfold jumpT
  split
  · rw [List.length_append, List.length_cons]; omega
  · simp
theorem JumpText_c (b : Brd) (l : Ln) : PC Tryz.prog 155 [] [.a (brdC b), .a (lineC l)] (vS (jumpT b l)) ⟨[], []⟩ := by
  have h1 := holeT_len (b := b) (k := l.f)
  have h2 := holeT_len (b := b) (k := l.t)
  cases h : isLine b l with
  | false =>
    refine pc_of Tryz.func155 rfl (by kernel_rfl) _ Tryz.ntmps155 (by simp) ?_
    repeat' first
      | (first | simp -implicitDefEqProofs only [h, go_sem] | (refine And.intro ?_ ?_; omega) | (refine And.intro (shr_bd ?_ ?_) ?_; omega; omega) | refine sl_list rfl ?_ | refine sd_list rfl ?_ | refine sl_str ?_ | refine sd_str ?_)
      | refine callS (l05Is_c b l) rfl rfl rfl ?_
    exact fin_scal rfl (by simp [jumpT, h])
  | true =>
    refine pc_of Tryz.func155 rfl (by kernel_rfl) _ Tryz.ntmps155 (by simp) ?_
    repeat' first
      | (first | simp -implicitDefEqProofs only [h, go_sem] | (refine And.intro ?_ ?_; omega) | (refine And.intro (shr_bd ?_ ?_) ?_; omega; omega) | refine sl_list rfl ?_ | refine sd_list rfl ?_ | refine sl_str ?_ | refine sd_str ?_)
      | refine callS (l05Is_c b l) rfl rfl rfl ?_
      | refine draw_stepY Tryz.pl_follows (by kernel_rfl) ?_
      | refine callS (HoleName_c b l.f) rfl rfl rfl ?_
      | refine callS (HoleName_c b l.t) rfl rfl rfl ?_
    exact fin_scal rfl (by simp [jumpT, h])
theorem iJumpText_c (b : Brd) (l : Ln) : PC Tryz.prog 114 [] [.a (brdC b), .a (lineC l)] (vS (jumpT b l)) ⟨[], []⟩ := by
  have h1 := holeT_len (b := b) (k := l.f)
  have h2 := holeT_len (b := b) (k := l.t)
  cases h : isLine b l with
  | false =>
    refine pc_of Tryz.func114 rfl (by kernel_rfl) _ Tryz.ntmps114 (by simp) ?_
    repeat' first
      | (first | simp -implicitDefEqProofs only [h, go_sem] | (refine And.intro ?_ ?_; omega) | (refine And.intro (shr_bd ?_ ?_) ?_; omega; omega) | refine sl_list rfl ?_ | refine sd_list rfl ?_ | refine sl_str ?_ | refine sd_str ?_)
      | refine callS (iisLine_c b l) rfl rfl rfl ?_
    exact fin_scal rfl (by simp [jumpT, h])
  | true =>
    refine pc_of Tryz.func114 rfl (by kernel_rfl) _ Tryz.ntmps114 (by simp) ?_
    repeat' first
      | (first | simp -implicitDefEqProofs only [h, go_sem] | (refine And.intro ?_ ?_; omega) | (refine And.intro (shr_bd ?_ ?_) ?_; omega; omega) | refine sl_list rfl ?_ | refine sd_list rfl ?_ | refine sl_str ?_ | refine sd_str ?_)
      | refine callS (iisLine_c b l) rfl rfl rfl ?_
      | refine draw_stepY Tryz.pl_follows (by kernel_rfl) ?_
      | refine callS (iHoleName_c b l.f) rfl rfl rfl ?_
      | refine callS (iHoleName_c b l.t) rfl rfl rfl ?_
    exact fin_scal rfl (by simp [jumpT, h])
end Go.Proofs.YtahnbliabllflaaGreatDoor
namespace Go.Proofs.YtahnbliabllflaaGreatDoor
open Go.PL
set_option linter.unusedSimpArgs false
set_option linter.unusedVariables false
def pieceT (b : Brd) (js : List Ln) : Nat → List UInt8
  | 0 => match js[0]? with
    | some l => jumpT b l
    | none => []
  | j + 1 => match js[j]?, js[j + 1]? with
    | some m, some l => if m.t = l.f then 45 :: holeT b l.t else 32 :: jumpT b l
    | _, _ => []
def gameP (b : Brd) (js : List Ln) : Nat → List UInt8
  | 0 => []
  | i + 1 => gameP b js i ++ pieceT b js i
def gameK (b : Brd) (js : List Ln) : Bool := decide (js.length ≤ 60) && js.all (isLine b)
def gameS (b : Brd) (js : List Ln) : List UInt8 := if gameK b js = true then gameP b js js.length else []
theorem pieceT_len {b : Brd} {js : List Ln} : ∀ i, (pieceT b js i).length ≤ 52
  | 0 => by
    simp only [pieceT]
    split
    · rename_i l _
      have := jumpT_len (b := b) (l := l); omega
    · simp
  | j + 1 => by
    simp only [pieceT]
    split
    · rename_i m l _ _
      have := jumpT_len (b := b) (l := l)
      have := holeT_len (b := b) (k := l.t)
      split <;> (rw [List.length_cons]; omega)
    · simp
theorem gameP_len {b : Brd} {js : List Ln} : ∀ i, (gameP b js i).length ≤ 52 * i
  | 0 => by simp [gameP]
  | i + 1 => by
    have := gameP_len (b := b) (js := js) i
    have := pieceT_len (b := b) (js := js) i
    simp only [gameP, List.length_append]; omega
theorem gameK_bad {b : Brd} {js : List Ln} {i : Nat} (h : i < js.length) (hb : isLine b js[i] = false) : gameK b js = false := by
  unfold gameK
  have : (js.all (isLine b)) = false := by
    rw [List.all_eq_false]
    exact ⟨js[i], List.getElem_mem h, by simp [hb]⟩
  rw [this, Bool.and_false]
set_option maxHeartbeats 8000000 in
theorem GameText_c (b : Brd) (js : List Ln) : PC Tryz.prog 104 [] [.a (brdC b), .c (.l 3 (js.map lineV))] (vS (gameS b js)) ⟨[], []⟩ := by
  by_cases h60 : 60 < js.length
  · have hp : 0 < js.length := by omega
    have e : gameK b js = false := by simp [gameK]; omega
    have e2 : gameS b js = [] := by simp [gameS, e]
    have e3 : ((60 : Int) < (js.length : Int)) = True := eq_true (by omega)
    have e4 : ((0 : Int) < (js.length : Int)) = True := eq_true (by omega)
    have g1 := map_get (f := lineV) hp
    rw [e2]
    generalize js[0] = l at g1
    have fa := l05Is_c b l
    cases ha : isLine b l <;> rw [ha] at fa
    all_goals
      refine pc_of Tryz.func104 rfl (by kernel_rfl) _ Tryz.ntmps104 (by simp) ?_
      (repeat' (first | simp -implicitDefEqProofs only [go_sem] | (refine And.intro ?_ ?_; omega) | (refine And.intro (shr_bd ?_ ?_) ?_; omega; omega) | refine sl_list rfl ?_ | refine sd_list rfl ?_ | refine sl_str ?_ | refine sd_str ?_))
      refine loop_step (X := Unit) (fun _ => ⟨67, [(1, vL 3 (js.map lineV)), (2, .s (.c (.p 2 0))), (4, vS []), (5, vS []), (6, vN 0)], ⟨[(2, brdC b)], []⟩⟩)
        (fun _ => True) (fun _ => 0) () trivial (weak_of (fun i => i) (fun i => i) rfl ⟨by simp <;> omega, by simp <;> omega, by simp <;> omega, by simp <;> omega, by simp <;> omega⟩ (by simp <;> omega)) (fun x hx => ?_)
      repeat' first
        | (first | simp -implicitDefEqProofs only [e3, e4, g1, lineV, hp, go_sem] | (refine And.intro ?_ ?_; omega) | (refine And.intro (shr_bd ?_ ?_) ?_; omega; omega) | refine sl_list rfl ?_ | refine sd_list rfl ?_ | refine sl_str ?_ | refine sd_str ?_)
        | refine draw_stepY Tryz.pl_follows (by kernel_rfl) ?_
        | refine callS fa rfl rfl rfl ?_
      exact fin_scal rfl rfl
  have hl : js.length ≤ 60 := by omega
  have e3 : ((60 : Int) < (js.length : Int)) = False := eq_false (by omega)
  have hs0 : gameP b js 0 = [] := rfl
  refine pc_of Tryz.func104 rfl (by kernel_rfl) _ Tryz.ntmps104 (by simp) ?_
  (repeat' (first | simp -implicitDefEqProofs only [go_sem] | (refine And.intro ?_ ?_; omega) | (refine And.intro (shr_bd ?_ ?_) ?_; omega; omega) | refine sl_list rfl ?_ | refine sd_list rfl ?_ | refine sl_str ?_ | refine sd_str ?_))
  refine loop_step (X := Nat) (fun i => ⟨67, [(1, vL 3 (js.map lineV)), (2, .s (.c (.p 2 0))), (4, vS []), (5, vS (gameP b js i)), (6, vN i)], ⟨[(2, brdC b)], []⟩⟩)
    (fun i => i ≤ js.length ∧ ∀ k (hk : k < js.length), k < i → isLine b js[k] = true) (fun i => js.length - i) 0 ⟨by omega, fun k _ h => by omega⟩ (weak_of (fun i => i) (fun i => i) rfl ⟨by simp [hs0] <;> omega, by simp [hs0] <;> omega, by simp [hs0] <;> omega, by simp [hs0] <;> omega, by simp [hs0] <;> omega⟩ (by simp [hs0] <;> omega)) (fun i hi => ?_)
  obtain ⟨hi1, hi2⟩ := hi
  by_cases hlt : i < js.length
  · have e0 : ((i : Int) < js.length) = True := eq_true (by omega)
    have g1 := map_get (f := lineV) hlt
    have bd := gameK_bad (b := b) hlt
    have ok1 : isLine b js[i] = true → ∀ k (hk : k < js.length), k < i + 1 → isLine b js[k] = true := fun h k hk hki => by
      by_cases hki' : k < i
      · exact hi2 k hk hki'
      · obtain rfl : k = i := by omega
        exact h
    have len1 := gameP_len (b := b) (js := js) i
    have gl : js[i]? = some js[i] := List.getElem?_eq_getElem hlt
    generalize js[i] = l at g1 bd ok1 gl
    have fa := l05Is_c b l
    have lj := jumpT_len (b := b) (l := l)
    have lh := holeT_len (b := b) (k := l.t)
    cases ha : isLine b l with
    | false =>
      rw [ha] at fa
      have e2 : gameS b js = [] := by simp [gameS, bd ha]
      rw [e2]
      repeat' first
        | (first | simp -implicitDefEqProofs only [e0, e3, g1, lineV, hlt, go_sem] | (refine And.intro ?_ ?_; omega) | (refine And.intro (shr_bd ?_ ?_) ?_; omega; omega) | refine sl_list rfl ?_ | refine sd_list rfl ?_ | refine sl_str ?_ | refine sd_str ?_)
        | refine draw_stepY Tryz.pl_follows (by kernel_rfl) ?_
        | refine callS fa rfl rfl rfl ?_
      exact fin_scal rfl rfl
    | true =>
      rw [ha] at fa
      cases i with
      | zero =>
        have n1 : gameP b js (0 + 1) = jumpT b l := by simp [gameP, pieceT, gl]
        have z0 : ((0 : Int) < (js.length : Int)) = True := eq_true (by omega)
        repeat' first
          | (first | simp -implicitDefEqProofs only [e0, e3, g1, lineV, hlt, z0, go_sem] | (refine And.intro ?_ ?_; omega) | (refine And.intro (shr_bd ?_ ?_) ?_; omega; omega) | refine sl_list rfl ?_ | refine sd_list rfl ?_ | refine sl_str ?_ | refine sd_str ?_)
          | refine draw_stepY Tryz.pl_follows (by kernel_rfl) ?_
          | refine callS fa rfl rfl rfl ?_
          | refine callS (JumpText_c b l) rfl rfl rfl ?_
        exact ⟨0 + 1, ⟨by omega, ok1 ha⟩, by omega, weak_of (fun i => i) (fun i => i) rfl ⟨by simp [n1] <;> omega, by simp [n1] <;> omega, by simp [n1] <;> omega, by simp [n1] <;> omega, by simp [n1] <;> omega⟩ (by simp [n1] <;> omega)⟩
      | succ j =>
        have hj : j < js.length := by omega
        have g2 := map_get (f := lineV) hj
        have gm : js[j]? = some js[j] := List.getElem?_eq_getElem hj
        generalize js[j] = m at g2 gm
        have z0 : (((j + 1 : Nat) : Int) = 0) = False := eq_false (by omega)
        have z1 : (((j + 1 : Nat) : Int) - 1) = (j : Int) := by omega
        by_cases hm : l.f = m.t
        · have hm1 : (l.f = m.t) = True := eq_true hm
          have n1 : gameP b js (j + 1 + 1) = gameP b js (j + 1) ++ (45 :: holeT b l.t) := by
            have : pieceT b js (j + 1) = 45 :: holeT b l.t := by simp [pieceT, gm, gl, hm]
            rw [← this]; rfl
          repeat' first
            | (first | simp -implicitDefEqProofs only [e0, e3, g1, g2, lineV, hlt, hj, z0, z1, hm1, go_sem] | (refine And.intro ?_ ?_; omega) | (refine And.intro (shr_bd ?_ ?_) ?_; omega; omega) | refine sl_list rfl ?_ | refine sd_list rfl ?_ | refine sl_str ?_ | refine sd_str ?_)
            | refine draw_stepY Tryz.pl_follows (by kernel_rfl) ?_
            | refine callS fa rfl rfl rfl ?_
            | refine callS (HoleName_c b l.t) rfl rfl rfl ?_
          exact ⟨j + 1 + 1, ⟨by omega, ok1 ha⟩, by omega, weak_of (fun i => i) (fun i => i) rfl ⟨by simp [n1] <;> omega, by simp [n1] <;> omega, by simp [n1] <;> omega, by simp [n1] <;> omega, by simp [n1] <;> omega⟩ (by simp [n1] <;> omega)⟩
        · have hm1 : (l.f = m.t) = False := eq_false hm
          have n1 : gameP b js (j + 1 + 1) = gameP b js (j + 1) ++ (32 :: jumpT b l) := by
            have : pieceT b js (j + 1) = 32 :: jumpT b l := by simp [pieceT, gm, gl]; intro h; exact absurd h.symm hm
            rw [← this]; rfl
          repeat' first
            | (first | simp -implicitDefEqProofs only [e0, e3, g1, g2, lineV, hlt, hj, z0, z1, hm1, go_sem] | (refine And.intro ?_ ?_; omega) | (refine And.intro (shr_bd ?_ ?_) ?_; omega; omega) | refine sl_list rfl ?_ | refine sd_list rfl ?_ | refine sl_str ?_ | refine sd_str ?_)
            | refine draw_stepY Tryz.pl_follows (by kernel_rfl) ?_
            | refine callS fa rfl rfl rfl ?_
            | refine callS (JumpText_c b l) rfl rfl rfl ?_
          exact ⟨j + 1 + 1, ⟨by omega, ok1 ha⟩, by omega, weak_of (fun i => i) (fun i => i) rfl ⟨by simp [n1] <;> omega, by simp [n1] <;> omega, by simp [n1] <;> omega, by simp [n1] <;> omega, by simp [n1] <;> omega⟩ (by simp [n1] <;> omega)⟩
  · have e0 : ((i : Int) < js.length) = False := eq_false (by omega)
    obtain rfl : i = js.length := by omega
    have e : gameK b js = true := by
      unfold gameK
      rw [Bool.and_eq_true, decide_eq_true_eq, List.all_eq_true]
      refine ⟨hl, fun a ha => ?_⟩
      obtain ⟨k, hk, rfl⟩ := List.mem_iff_getElem.1 ha
      exact hi2 k hk hk
    have e2 : gameS b js = gameP b js js.length := by simp [gameS, e]
    rw [e2]
    (repeat' (first | simp -implicitDefEqProofs only [e0, go_sem] | (refine And.intro ?_ ?_; omega) | (refine And.intro (shr_bd ?_ ?_) ?_; omega; omega) | refine sl_list rfl ?_ | refine sd_list rfl ?_ | refine sl_str ?_ | refine sd_str ?_))
    exact fin_scal rfl rfl
set_option maxHeartbeats 8000000 in
theorem iGameText_c (b : Brd) (js : List Ln) : PC Tryz.prog 56 [] [.a (brdC b), .c (.l 3 (js.map lineV))] (vS (gameS b js)) ⟨[], []⟩ := by
  by_cases h60 : 60 < js.length
  · have e : gameK b js = false := by simp [gameK]; omega
    have e2 : gameS b js = [] := by simp [gameS, e]
    have e3 : ((60 : Int) < (js.length : Int)) = True := eq_true (by omega)
    rw [e2]
    refine pc_of Tryz.func56 rfl (by kernel_rfl) _ Tryz.ntmps56 (by simp) ?_
    (repeat' (first | simp -implicitDefEqProofs only [e3, go_sem] | (refine And.intro ?_ ?_; omega) | (refine And.intro (shr_bd ?_ ?_) ?_; omega; omega) | refine sl_list rfl ?_ | refine sd_list rfl ?_ | refine sl_str ?_ | refine sd_str ?_))
    exact fin_scal rfl rfl
  have hl : js.length ≤ 60 := by omega
  have e3 : ((60 : Int) < (js.length : Int)) = False := eq_false (by omega)
  have hs0 : gameP b js 0 = [] := rfl
  refine pc_of Tryz.func56 rfl (by kernel_rfl) _ Tryz.ntmps56 (by simp) ?_
  (repeat' (first | simp -implicitDefEqProofs only [e3, go_sem] | (refine And.intro ?_ ?_; omega) | (refine And.intro (shr_bd ?_ ?_) ?_; omega; omega) | refine sl_list rfl ?_ | refine sd_list rfl ?_ | refine sl_str ?_ | refine sd_str ?_))
  refine loop_step (X := Nat) (fun i => ⟨59, [(1, vL 3 (js.map lineV)), (2, .s (.c (.p 2 0))), (4, vS []), (5, vS (gameP b js i)), (11, vL 3 (js.map lineV)), (12, vN js.length), (13, vN i)], ⟨[(2, brdC b)], []⟩⟩)
    (fun i => i ≤ js.length ∧ ∀ k (hk : k < js.length), k < i → isLine b js[k] = true) (fun i => js.length - i) 0 ⟨by omega, fun k _ h => by omega⟩ (weak_of (fun i => i) (fun i => i) rfl ⟨by simp [hs0] <;> omega, by simp [hs0] <;> omega, by simp [hs0] <;> omega, by simp [hs0] <;> omega, by simp [hs0] <;> omega⟩ (by simp [hs0] <;> omega)) (fun i hi => ?_)
  obtain ⟨hi1, hi2⟩ := hi
  by_cases hlt : i < js.length
  · have e0 : ((i : Int) < js.length) = True := eq_true (by omega)
    have g1 := map_get (f := lineV) hlt
    have bd := gameK_bad (b := b) hlt
    have ok1 : isLine b js[i] = true → ∀ k (hk : k < js.length), k < i + 1 → isLine b js[k] = true := fun h k hk hki => by
      by_cases hki' : k < i
      · exact hi2 k hk hki'
      · obtain rfl : k = i := by omega
        exact h
    have len1 := gameP_len (b := b) (js := js) i
    have gl : js[i]? = some js[i] := List.getElem?_eq_getElem hlt
    generalize js[i] = l at g1 bd ok1 gl
    have fa := iisLine_c b l
    have lj := jumpT_len (b := b) (l := l)
    have lh := holeT_len (b := b) (k := l.t)
    cases ha : isLine b l with
    | false =>
      rw [ha] at fa
      have e2 : gameS b js = [] := by simp [gameS, bd ha]
      rw [e2]
      repeat' first
        | (first | simp -implicitDefEqProofs only [e0, g1, lineV, hlt, go_sem] | (refine And.intro ?_ ?_; omega) | (refine And.intro (shr_bd ?_ ?_) ?_; omega; omega) | refine sl_list rfl ?_ | refine sd_list rfl ?_ | refine sl_str ?_ | refine sd_str ?_)
        | refine callS fa rfl rfl rfl ?_
      exact fin_scal rfl rfl
    | true =>
      rw [ha] at fa
      cases i with
      | zero =>
        have n1 : gameP b js (0 + 1) = jumpT b l := by simp [gameP, pieceT, gl]
        have z0 : ((0 : Int) < (js.length : Int)) = True := eq_true (by omega)
        repeat' first
          | (first | simp -implicitDefEqProofs only [e0, g1, lineV, hlt, z0, go_sem] | (refine And.intro ?_ ?_; omega) | (refine And.intro (shr_bd ?_ ?_) ?_; omega; omega) | refine sl_list rfl ?_ | refine sd_list rfl ?_ | refine sl_str ?_ | refine sd_str ?_)
          | refine draw_stepY Tryz.pl_follows (by kernel_rfl) ?_
          | refine callS fa rfl rfl rfl ?_
          | refine callS (iJumpText_c b l) rfl rfl rfl ?_
        exact ⟨0 + 1, ⟨by omega, ok1 ha⟩, by omega, weak_of (fun i => i) (fun i => i) rfl ⟨by simp [n1, hs0] <;> omega, by simp [n1, hs0] <;> omega, by simp [n1, hs0] <;> omega, by simp [n1, hs0] <;> omega, by simp [n1, hs0] <;> omega⟩ (by simp [n1, hs0] <;> omega)⟩
      | succ j =>
        have hj : j < js.length := by omega
        have g2 := map_get (f := lineV) hj
        have gm : js[j]? = some js[j] := List.getElem?_eq_getElem hj
        generalize js[j] = m at g2 gm
        have z0 : ((0 : Int) < ((j + 1 : Nat) : Int)) = True := eq_true (by omega)
        have z1 : (((j + 1 : Nat) : Int) - 1) = (j : Int) := by omega
        by_cases hm : m.t = l.f
        · have hm1 : (m.t = l.f) = True := eq_true hm
          have n1 : gameP b js (j + 1 + 1) = gameP b js (j + 1) ++ (45 :: holeT b l.t) := by
            have : pieceT b js (j + 1) = 45 :: holeT b l.t := by simp [pieceT, gm, gl, hm]
            rw [← this]; rfl
          repeat' first
            | (first | simp -implicitDefEqProofs only [e0, g1, g2, lineV, hlt, hj, z0, z1, hm1, go_sem] | (refine And.intro ?_ ?_; omega) | (refine And.intro (shr_bd ?_ ?_) ?_; omega; omega) | refine sl_list rfl ?_ | refine sd_list rfl ?_ | refine sl_str ?_ | refine sd_str ?_)
            | refine draw_stepY Tryz.pl_follows (by kernel_rfl) ?_
            | refine callS fa rfl rfl rfl ?_
            | refine callS (iHoleName_c b l.t) rfl rfl rfl ?_
          exact ⟨j + 1 + 1, ⟨by omega, ok1 ha⟩, by omega, weak_of (fun i => i) (fun i => i) rfl ⟨by simp [n1] <;> omega, by simp [n1] <;> omega, by simp [n1] <;> omega, by simp [n1] <;> omega, by simp [n1] <;> omega⟩ (by simp [n1] <;> omega)⟩
        · have hm1 : (m.t = l.f) = False := eq_false hm
          have n1 : gameP b js (j + 1 + 1) = gameP b js (j + 1) ++ (32 :: jumpT b l) := by
            have : pieceT b js (j + 1) = 32 :: jumpT b l := by simp [pieceT, gm, gl, hm]
            rw [← this]; rfl
          repeat' first
            | (first | simp -implicitDefEqProofs only [e0, g1, g2, lineV, hlt, hj, z0, z1, hm1, go_sem] | (refine And.intro ?_ ?_; omega) | (refine And.intro (shr_bd ?_ ?_) ?_; omega; omega) | refine sl_list rfl ?_ | refine sd_list rfl ?_ | refine sl_str ?_ | refine sd_str ?_)
            | refine draw_stepY Tryz.pl_follows (by kernel_rfl) ?_
            | refine callS fa rfl rfl rfl ?_
            | refine callS (iJumpText_c b l) rfl rfl rfl ?_
          exact ⟨j + 1 + 1, ⟨by omega, ok1 ha⟩, by omega, weak_of (fun i => i) (fun i => i) rfl ⟨by simp [n1] <;> omega, by simp [n1] <;> omega, by simp [n1] <;> omega, by simp [n1] <;> omega, by simp [n1] <;> omega⟩ (by simp [n1] <;> omega)⟩
  · have e0 : ((i : Int) < js.length) = False := eq_false (by omega)
    obtain rfl : i = js.length := by omega
    have e : gameK b js = true := by
      unfold gameK
      rw [Bool.and_eq_true, decide_eq_true_eq, List.all_eq_true]
      refine ⟨hl, fun a ha => ?_⟩
      obtain ⟨k, hk, rfl⟩ := List.mem_iff_getElem.1 ha
      exact hi2 k hk hk
    have e2 : gameS b js = gameP b js js.length := by simp [gameS, e]
    rw [e2]
    (repeat' (first | simp -implicitDefEqProofs only [e0, go_sem] | (refine And.intro ?_ ?_; omega) | (refine And.intro (shr_bd ?_ ?_) ?_; omega; omega) | refine sl_list rfl ?_ | refine sd_list rfl ?_ | refine sl_str ?_ | refine sd_str ?_))
    exact fin_scal rfl rfl
end Go.Proofs.YtahnbliabllflaaGreatDoor
namespace Go.Proofs.YtahnbliabllflaaGreatDoor
open Go.PL
set_option linter.unusedSimpArgs false
set_option linter.unusedVariables false
def cellT (b : Brd) (p k : Int) : UInt8 := if bitAt p k = true then 111 else if bitAt b.n k = true then 46 else 32
def rowT (b : Brd) (p : Int) (i j : Nat) : List UInt8 := (List.range j).map fun (q : Nat) => cellT b p ((i : Int) * b.w + (q : Int))
def rowsT (b : Brd) (p : Int) (i : Nat) : List (List UInt8) := (List.range i).map fun (q : Nat) => rowT b p q b.w.toNat
def posT (b : Brd) (p : Int) : List (List UInt8) := if positionOk b p = true then rowsT b p b.h.toNat else []
theorem rowT_next {b : Brd} {p : Int} {i j : Nat} : rowT b p i (j + 1) = rowT b p i j ++ [cellT b p ((i : Int) * b.w + (j : Int))] := by simp [rowT, List.range_succ]
theorem rowsT_next {b : Brd} {p : Int} {i : Nat} : rowsT b p (i + 1) = rowsT b p i ++ [rowT b p i b.w.toNat] := by simp [rowsT, List.range_succ]
theorem rowT_len {b : Brd} {p : Int} {i j : Nat} : (rowT b p i j).length = j := by simp [rowT]
theorem rowsT_len {b : Brd} {p : Int} {i : Nat} : (rowsT b p i).length = i := by simp [rowsT]
theorem row_place {b : Brd} (hb : boardOk b = true) {i : Nat} (hi : i < b.h.toNat) : ∃ c : Nat, (i : Int) * b.w = c ∧ c ≤ 42 := by
  obtain ⟨w1, w2, h1, h2, m1, m2, n1, n2, n3⟩ := bok hb
  have e0 : 0 ≤ (i : Int) * b.w := Int.mul_nonneg (by omega) (by omega)
  have e1 : (i : Int) * b.w ≤ 6 * b.w := Int.mul_le_mul_of_nonneg_right (by omega) (by omega)
  exact ⟨((i : Int) * b.w).toNat, by omega, by omega⟩
set_option maxHeartbeats 8000000 in
theorem iPositionText_c (d : Nat) (b : Brd) (p : Int) (hpl : p ≤ 9223372036854775807) : PC Tryz.prog 55 [] [.a (brdC b), .c (.v (.int .i64 p))] (.s (.c (.o d))) ⟨[], [(d, ⟨9, 1, (posT b p).map sV, false, true⟩)]⟩ := by
  cases hp : positionOk b p with
  | false =>
    have e : posT b p = [] := by simp [posT, hp]
    rw [e]
    refine pc_of Tryz.func55 rfl (by kernel_rfl) _ Tryz.ntmps55 (by simp) ?_
    repeat' first
      | (first | simp -implicitDefEqProofs only [hp, go_sem] | (refine And.intro ?_ ?_; omega) | (refine And.intro (shr_bd ?_ ?_) ?_; omega; omega) | refine sl_list rfl ?_ | refine sd_list rfl ?_ | refine sl_str ?_ | refine sd_str ?_)
      | refine callS (iPositionOk_c b p (by omega)) rfl rfl rfl ?_
    refine fin_adopt (pv' := .s (.c (.o 999))) 999 9 1 rfl (by omega) (by simp [adPV, adV1, adC]) ?_
    exact fin_of (fun i => i) (fun i => 999) ⟨by simp <;> omega, by simp <;> omega, by simp <;> omega, by simp <;> omega, by simp <;> omega⟩ (by simp <;> omega) rfl
  | true =>
    have e : posT b p = rowsT b p b.h.toNat := by simp [posT, hp]
    have hple := pos_le hp
    obtain ⟨hb, p0, _⟩ := pos_sub hp
    obtain ⟨w1, w2, h1, h2, m1, m2, n1, n2, n3⟩ := bok hb
    have r0 : rowsT b p 0 = [] := rfl
    rw [e]
    refine pc_of Tryz.func55 rfl (by kernel_rfl) _ Tryz.ntmps55 (by simp) ?_
    repeat' first
      | (first | simp -implicitDefEqProofs only [hp, go_sem] | (refine And.intro ?_ ?_; omega) | (refine And.intro (shr_bd ?_ ?_) ?_; omega; omega) | refine sl_list rfl ?_ | refine sd_list rfl ?_ | refine sl_str ?_ | refine sd_str ?_)
      | refine callS (iPositionOk_c b p (by omega)) rfl rfl rfl ?_
    refine loop_step (X := Nat) (fun i => ⟨58, [(1, vN p), (2, .s (.c (.p 2 0))), (5, vO 13), (6, vN i)], ⟨[(2, brdC b)], [(13, ⟨9, 1, (rowsT b p i).map sV, false, true⟩)]⟩⟩)
      (fun i => i ≤ b.h.toNat) (fun i => b.h.toNat - i) 0 (by omega) (weak_of (fun i => i) (fun i => i) rfl ⟨by simp [r0] <;> omega, by simp [r0] <;> omega, by simp [r0] <;> omega, by simp [r0] <;> omega, by simp [r0] <;> omega⟩ (by simp [r0] <;> omega)) (fun i hi => ?_)
    by_cases hlt : i < b.h.toNat
    · have e0 : ((i : Int) < b.h) = True := eq_true (by omega)
      obtain ⟨c, ec, c42⟩ := row_place hb hlt
      have ec1 : ((i : Int) + 1) * b.w = (c : Int) + b.w := by rw [Int.add_mul, ec, Int.one_mul]
      have r1 : rowT b p i 0 = [] := rfl
      repeat' first
        | (first | simp -implicitDefEqProofs only [e0, ec, ec1, go_sem] | (refine And.intro ?_ ?_; omega) | (refine And.intro (shr_bd ?_ ?_) ?_; omega; omega) | refine sl_list rfl ?_ | refine sd_list rfl ?_ | refine sl_str ?_ | refine sd_str ?_)
      refine loop_step (X := Nat) (fun j => ⟨58, [(1, vN p), (2, .s (.c (.p 2 0))), (5, vO 13), (6, vN i), (7, vO 20), (8, .s (.c (.v (.int .i64 ((c : Int) + (j : Int))))))], ⟨[(2, brdC b)], [(13, ⟨9, 1, (rowsT b p i).map sV, false, true⟩), (20, ⟨5, 1, (rowT b p i j).map u8V, false, true⟩)]⟩⟩)
        (fun j => j ≤ b.w.toNat) (fun j => b.w.toNat - j) 0 (by omega) (weak_of (fun i => i) (fun i => i) rfl ⟨by simp [r1] <;> omega, by simp [r1] <;> omega, by simp [r1] <;> omega, by simp [r1] <;> omega, by simp [r1] <;> omega⟩ (by simp [r1] <;> omega)) (fun j hj => ?_)
      by_cases hl2 : j < b.w.toNat
      · have e1 : ((c : Int) + (j : Int) < (c : Int) + b.w) = True := eq_true (by omega)
        have n2 := rowT_next (b := b) (p := p) (i := i) (j := j)
        have rl := rowT_len (b := b) (p := p) (i := i) (j := j)
        rw [ec] at n2
        have hB1 := hasBit_c p ((c : Int) + (j : Int)) (by omega) (by omega) (by omega) (by omega)
        have hB2 := hasBit_c b.n ((c : Int) + (j : Int)) (by omega) (by omega) (by omega) (by omega)
        unfold cellT at n2
        cases hx : bitAt p ((c : Int) + (j : Int)) with
        | true =>
          rw [hx] at hB1 n2
          rw [if_pos rfl] at n2
          repeat' first
            | (first | simp -implicitDefEqProofs only [ec, ec1, e1, List.length_map, rl, go_sem] | (refine And.intro ?_ ?_; omega) | (refine And.intro (shr_bd ?_ ?_) ?_; omega; omega) | refine sl_list rfl ?_ | refine sd_list rfl ?_ | refine sl_str ?_ | refine sd_str ?_)
            | refine callS hB1 rfl rfl rfl ?_
          exact ⟨j + 1, by omega, by omega, weak_of (fun i => i) (fun i => if i = 20 then 43 else i) rfl ⟨by simp [n2, u8V] <;> omega, by simp [n2, u8V] <;> omega, by simp [n2, u8V] <;> omega, by simp [n2, u8V] <;> omega, by simp [n2, u8V] <;> omega⟩ (by simp [n2, u8V] <;> omega)⟩
        | false =>
          rw [hx] at hB1 n2
          rw [if_neg (by simp)] at n2
          cases hy : bitAt b.n ((c : Int) + (j : Int)) with
          | true =>
            rw [hy] at hB2 n2
            rw [if_pos rfl] at n2
            repeat' first
              | (first | simp -implicitDefEqProofs only [ec, ec1, e1, List.length_map, rl, go_sem] | (refine And.intro ?_ ?_; omega) | (refine And.intro (shr_bd ?_ ?_) ?_; omega; omega) | refine sl_list rfl ?_ | refine sd_list rfl ?_ | refine sl_str ?_ | refine sd_str ?_)
              | refine callS hB1 rfl rfl rfl ?_
              | refine callS hB2 rfl rfl rfl ?_
            exact ⟨j + 1, by omega, by omega, weak_of (fun i => i) (fun i => if i = 20 then 51 else i) rfl ⟨by simp [n2, u8V] <;> omega, by simp [n2, u8V] <;> omega, by simp [n2, u8V] <;> omega, by simp [n2, u8V] <;> omega, by simp [n2, u8V] <;> omega⟩ (by simp [n2, u8V] <;> omega)⟩
          | false =>
            rw [hy] at hB2 n2
            rw [if_neg (by simp)] at n2
            repeat' first
              | (first | simp -implicitDefEqProofs only [ec, ec1, e1, List.length_map, rl, go_sem] | (refine And.intro ?_ ?_; omega) | (refine And.intro (shr_bd ?_ ?_) ?_; omega; omega) | refine sl_list rfl ?_ | refine sd_list rfl ?_ | refine sl_str ?_ | refine sd_str ?_)
              | refine callS hB1 rfl rfl rfl ?_
              | refine callS hB2 rfl rfl rfl ?_
            exact ⟨j + 1, by omega, by omega, weak_of (fun i => i) (fun i => if i = 20 then 36 else i) rfl ⟨by simp [n2, u8V] <;> omega, by simp [n2, u8V] <;> omega, by simp [n2, u8V] <;> omega, by simp [n2, u8V] <;> omega, by simp [n2, u8V] <;> omega⟩ (by simp [n2, u8V] <;> omega)⟩
      · have e1 : ((c : Int) + (j : Int) < (c : Int) + b.w) = False := eq_false (by omega)
        obtain rfl : j = b.w.toNat := by omega
        have n1 := rowsT_next (b := b) (p := p) (i := i)
        have rl := rowsT_len (b := b) (p := p) (i := i)
        repeat' first
          | (first | simp -implicitDefEqProofs only [ec, ec1, e1, bytes_u8, u8_back, List.length_map, rl, go_sem] | (refine And.intro ?_ ?_; omega) | (refine And.intro (shr_bd ?_ ?_) ?_; omega; omega) | refine sl_list rfl ?_ | refine sd_list rfl ?_ | refine sl_str ?_ | refine sd_str ?_)
        exact ⟨i + 1, by omega, by omega, weak_of (fun i => i) (fun i => if i = 13 then 56 else i) rfl ⟨by simp [n1, sV] <;> omega, by simp [n1, sV] <;> omega, by simp [n1, sV] <;> omega, by simp [n1, sV] <;> omega, by simp [n1, sV] <;> omega⟩ (by simp [n1, sV] <;> omega)⟩
    · have e0 : ((i : Int) < b.h) = False := eq_false (by omega)
      obtain rfl : i = b.h.toNat := by omega
      (repeat' (first | simp -implicitDefEqProofs only [e0, go_sem] | (refine And.intro ?_ ?_; omega) | (refine And.intro (shr_bd ?_ ?_) ?_; omega; omega) | refine sl_list rfl ?_ | refine sd_list rfl ?_ | refine sl_str ?_ | refine sd_str ?_))
      exact fin_of (fun i => i) (fun i => 13) ⟨by simp <;> omega, by simp <;> omega, by simp <;> omega, by simp <;> omega, by simp <;> omega⟩ (by simp <;> omega) rfl
end Go.Proofs.YtahnbliabllflaaGreatDoor
namespace Go.Proofs.YtahnbliabllflaaGreatDoor
open Go.PL
set_option linter.unusedSimpArgs false
set_option linter.unusedVariables false
theorem gameS_len {b : Brd} {js : List Ln} : (gameS b js).length ≤ 3120 := by
  unfold gameS
  split
  · rename_i h
    simp only [gameK, Bool.and_eq_true, decide_eq_true_eq] at h
    have := gameP_len (b := b) (js := js) js.length
    omega
  · simp
theorem timeT_len {s : Int} : (timeT s).length ≤ 64 := by
  unfold timeT
  split
  · rename_i h
    have hw := within_iff.1 h
    have l1 := itoa_len (n := s / 60) (by omega) (by omega)
    have l2 := itoa_len (n := s % 60 / 10) (by omega) (by omega)
    have l3 := itoa_len (n := s % 10) (by omega) (by omega)
    simp only [List.length_append, List.length_cons, List.length_nil]; omega
  · simp
def lineJ (t : Tb) : List UInt8 := [106, 117, 109, 112, 115, 32] ++ gameS t.g.x.b t.g.j
def lineH (t : Tb) : List UInt8 := [104, 105, 110, 116, 115, 32] ++ itoa t.g.h
def lineB (t : Tb) : List UInt8 := [98, 97, 99, 107, 32] ++ itoa t.g.u
def lineT (t : Tb) : List UInt8 := [116, 105, 109, 101, 32] ++ timeT t.c.a
def lineR (t : Tb) : List UInt8 := [114, 101, 99, 111, 114, 100, 115, 32] ++ itoa (t.r.length : Int)
def fmtT (t : Tb) : List (List UInt8) := if tableOk t = true then posT t.g.x.b (nowOf t.g) ++ [lineJ t, lineH t, lineB t, lineT t, lineR t] else []
theorem posT_len {b : Brd} {p : Int} : (posT b p).length ≤ b.h.toNat := by
  unfold posT
  split
  · rw [rowsT_len]; omega
  · simp
theorem tb_nums {t : Tb} (h : tableOk t = true) : (0 ≤ t.g.h ∧ t.g.h ≤ 1000) ∧ (0 ≤ t.g.u ∧ t.g.u ≤ 1000) ∧ 1 ≤ t.g.x.b.h ∧ t.g.x.b.h ≤ 7 := by
  obtain ⟨h1, _, _, _⟩ := tableOk_iff.1 h
  simp only [gameOk, Bool.and_eq_true, within_iff] at h1
  obtain ⟨h2, h3, h4, _⟩ := h1
  obtain ⟨s', hs⟩ : ∃ s', positionOk t.g.x.b s' = true := ⟨t.g.x.s, by
    simp only [puzzleOk, Bool.and_eq_true] at h2
    simp_all⟩
  obtain ⟨hb, _, _⟩ := pos_sub hs
  obtain ⟨w1, w2, h1, h2, _⟩ := bok hb
  exact ⟨h3, h4, h1, h2⟩
set_option maxHeartbeats 16000000 in
theorem iFormatTable_c (d : Nat) (t : Tb) (ht : TbS t) : PC Tryz.prog 20 [] [.a (tbL t)] (.s (.c (.o d))) ⟨[], [(d, ⟨9, 1, (fmtT t).map sV, false, true⟩)]⟩ := by
  cases hp : tableOk t with
  | false =>
    have e : fmtT t = [] := by simp [fmtT, hp]
    rw [e]
    refine pc_of Tryz.func20 rfl (by kernel_rfl) _ Tryz.ntmps20 (by simp) ?_
    repeat' first
      | (first | simp -implicitDefEqProofs only [hp, go_sem] | (refine And.intro ?_ ?_; omega) | (refine And.intro (shr_bd ?_ ?_) ?_; omega; omega) | refine sl_list rfl ?_ | refine sd_list rfl ?_ | refine sl_str ?_ | refine sd_str ?_)
      | refine callS (iTableOk_c t ht.tb) rfl rfl rfl ?_
    refine fin_adopt (pv' := .s (.c (.o 999))) 999 9 1 rfl (by omega) (by simp [adPV, adV1, adC]) ?_
    exact fin_of (fun i => i) (fun i => 999) ⟨by simp <;> omega, by simp <;> omega, by simp <;> omega, by simp <;> omega, by simp <;> omega⟩ (by simp <;> omega) rfl
  | true =>
    have e : (fmtT t).map sV = (posT t.g.x.b (nowOf t.g)).map sV ++ [sV (lineJ t), sV (lineH t), sV (lineB t), sV (lineT t), sV (lineR t)] := by simp [fmtT, hp]
    rw [e]
    obtain ⟨⟨a1, a2⟩, ⟨b1, b2⟩, c1, c2⟩ := tb_nums hp
    have hnow := nowOf_le (g := t.g)
    have hr := ht.r
    have l1 := gameS_len (b := t.g.x.b) (js := t.g.j)
    have l2 := itoa_len (n := t.g.h) (by omega) (by omega)
    have l3 := itoa_len (n := t.g.u) (by omega) (by omega)
    have l4 := timeT_len (s := t.c.a)
    have l5 := itoa_len (n := (t.r.length : Int)) (by omega) (by omega)
    have pl := posT_len (b := t.g.x.b) (p := nowOf t.g)
    unfold lineJ lineH lineB lineT lineR
    refine pc_of Tryz.func20 rfl (by kernel_rfl) _ Tryz.ntmps20 (by simp) ?_
    repeat' first
      | (first | simp -implicitDefEqProofs only [hp, List.length_map, List.length_append, List.length_cons, List.length_nil, go_sem] | (refine And.intro ?_ ?_; omega) | (refine And.intro (shr_bd ?_ ?_) ?_; omega; omega) | refine sl_list rfl ?_ | refine sd_list rfl ?_ | refine sl_str ?_ | refine sd_str ?_)
      | refine callS (iTableOk_c t ht.tb) rfl rfl rfl ?_
      | refine draw_stepY Tryz.pl_follows (by kernel_rfl) ?_
      | refine callS (iNowOf_c t.g ht.tb.g) rfl rfl rfl ?_
      | refine callL1 (fun d => iPositionText_c d t.g.x.b (nowOf t.g) (by omega)) rfl rfl rfl ?_
      | refine callS (iGameText_c t.g.x.b t.g.j) rfl rfl rfl ?_
      | refine callS (iFI_c t.g.h (by omega) (by omega)) rfl rfl rfl ?_
      | refine callS (iFI_c t.g.u (by omega) (by omega)) rfl rfl rfl ?_
      | refine callS (iTimeText_c t.c.a) rfl rfl rfl ?_
      | refine callS (iFI_c (t.r.length : Int) (by omega) (by omega)) rfl rfl rfl ?_
    exact fin_of (fun i => i) (fun i => 51) ⟨by simp [sV] <;> omega, by simp [sV] <;> omega, by simp [sV] <;> omega, by simp [sV] <;> omega, by simp [sV] <;> omega⟩ (by simp [sV] <;> omega) (by first | rfl | (simp [renPV, renV1, renC, sV]))
end Go.Proofs.YtahnbliabllflaaGreatDoor
