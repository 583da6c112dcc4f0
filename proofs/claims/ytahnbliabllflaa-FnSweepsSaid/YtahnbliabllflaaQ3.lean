/-
  What the functions compute that find the corners and the bound by corners; the laws on them.
-/
import Derived.Test.YtahnbliabllflaaL6
import Derived.Test.YtahnbliabllflaaGa
import Derived.Test.YtahnbliabllflaaTAe
namespace Go.Proofs.Ytahnbliabllflaa
open Go.PL
set_option linter.unusedSimpArgs false
def isCorner (b : Brd) (k : Int) : Bool := decide (overCount b k = 0) && decide (0 < degreeOf b k)
def cornersOf (b : Brd) : List Int := (holesOf b).filter (isCorner b)
theorem corners_len {b : Brd} : (cornersOf b).length ≤ 49 := by
  have h1 := List.length_filter_le (isCorner b) (holesOf b)
  have h2 := holes_len (b := b)
  unfold cornersOf; omega
set_option maxHeartbeats 2000000 in
theorem CornersOf_c (d : Nat) (b : Brd) : PC Try.prog 28 [] [.a (brdC b)] (.s (.c (.o d))) ⟨[], [(d, ⟨3, 1, (cornersOf b).map iV, false, true⟩)]⟩ := by
  refine pc_of Try.func28 rfl (by kernel_rfl) _ Try.ntmps28 (by simp) ?_
  simp -implicitDefEqProofs only [go_sem]
  refine callL (HolesOf_c 8 b) rfl rfl rfl ?_
  have hl := holes_len (b := b)
  simp -implicitDefEqProofs only [go_sem]
  refine loop_step (X := Nat) (fun i => ⟨39, [(1, .s (.c (.p 1 0))), (3, vO 6), (4, vO 8), (5, vN i)], ⟨[(1, brdC b)], [(6, ⟨3, 1, (filN (isCorner b) (holesOf b) i).map iV, false, true⟩), (8, ⟨3, 1, (holesOf b).map iV, false, true⟩)]⟩⟩)
    (fun i => i ≤ (holesOf b).length) (fun i => (holesOf b).length - i) 0 (by omega) (weak_of (fun i => i) (fun i => i) rfl ⟨by simp [filN_zero] <;> omega, by simp [filN_zero] <;> omega, by simp [filN_zero] <;> omega, by simp [filN_zero] <;> omega, by simp [filN_zero] <;> omega⟩ (by simp [filN_zero] <;> omega)) (fun i hi => ?_)
  have hf := filN_len (p := isCorner b) (l := holesOf b) (i := i)
  simp -implicitDefEqProofs only [go_sem]
  refine if_splitP (fun h => ?_) (fun h => ?_)
  · have hlt : i < (holesOf b).length := by omega
    have hg := map_get (f := iV) hlt
    simp -implicitDefEqProofs only [go_sem]
    refine draw_step Try.pl_follows (by kernel_rfl) ?_
    (repeat' (first | simp -implicitDefEqProofs only [hg, hlt, go_sem] | (refine And.intro ?_ ?_; omega) | (refine And.intro (shr_bd ?_ ?_) ?_; omega; omega) | refine sl_list rfl ?_ | refine sd_list rfl ?_ | refine sl_str ?_ | refine sd_str ?_))
    refine callD (OverCount_c b (holesOf b)[i]) rfl rfl rfl ?_
    have miss : isCorner b (holesOf b)[i] = false → filN (isCorner b) (holesOf b) (i + 1) = filN (isCorner b) (holesOf b) i := filN_miss hlt
    have hit : isCorner b (holesOf b)[i] = true → filN (isCorner b) (holesOf b) (i + 1) = filN (isCorner b) (holesOf b) i ++ [(holesOf b)[i]] := filN_hit hlt
    by_cases h0 : overCount b (holesOf b)[i] = 0
    · (repeat' (first | simp -implicitDefEqProofs only [h0, hg, hlt, go_sem] | (refine And.intro ?_ ?_; omega) | (refine And.intro (shr_bd ?_ ?_) ?_; omega; omega) | refine sl_list rfl ?_ | refine sd_list rfl ?_ | refine sl_str ?_ | refine sd_str ?_))
      refine callD (DegreeOf_c b (holesOf b)[i]) rfl rfl rfl ?_
      simp -implicitDefEqProofs only [h0, go_sem]
      refine if_splitP (fun ht => ?_) (fun ht => ?_)
      · have e := hit (by simp [isCorner, h0, ht])
        (repeat' (first | simp -implicitDefEqProofs only [hg, hlt, go_sem] | (refine And.intro ?_ ?_; omega) | (refine And.intro (shr_bd ?_ ?_) ?_; omega; omega) | refine sl_list rfl ?_ | refine sd_list rfl ?_ | refine sl_str ?_ | refine sd_str ?_))
        exact ⟨i + 1, by omega, by omega, weak_of (fun i => i) (fun i => if i = 6 then 37 else i) rfl ⟨by simp [e] <;> omega, by simp [e] <;> omega, by simp [e] <;> omega, by simp [e] <;> omega, by simp [e] <;> omega⟩ (by simp [e] <;> omega)⟩
      · have e := miss (by simp [isCorner, ht])
        (repeat' (first | simp -implicitDefEqProofs only [go_sem] | (refine And.intro ?_ ?_; omega) | (refine And.intro (shr_bd ?_ ?_) ?_; omega; omega) | refine sl_list rfl ?_ | refine sd_list rfl ?_ | refine sl_str ?_ | refine sd_str ?_))
        exact ⟨i + 1, by omega, by omega, weak_of (fun i => i) (fun i => i) rfl ⟨by simp [e] <;> omega, by simp [e] <;> omega, by simp [e] <;> omega, by simp [e] <;> omega, by simp [e] <;> omega⟩ (by simp [e] <;> omega)⟩
    · have e := miss (by simp [isCorner, h0])
      (repeat' (first | simp -implicitDefEqProofs only [h0, go_sem] | (refine And.intro ?_ ?_; omega) | (refine And.intro (shr_bd ?_ ?_) ?_; omega; omega) | refine sl_list rfl ?_ | refine sd_list rfl ?_ | refine sl_str ?_ | refine sd_str ?_))
      exact ⟨i + 1, by omega, by omega, weak_of (fun i => i) (fun i => i) rfl ⟨by simp [e] <;> omega, by simp [e] <;> omega, by simp [e] <;> omega, by simp [e] <;> omega, by simp [e] <;> omega⟩ (by simp [e] <;> omega)⟩
  · have hle : i = (holesOf b).length := by omega
    subst hle
    simp -implicitDefEqProofs only [filN_end, go_sem]
    exact fin_of (fun i => i) (fun i => 6) ⟨by simp [cornersOf] <;> omega, by simp [cornersOf] <;> omega, by simp [cornersOf] <;> omega, by simp [cornersOf] <;> omega, by simp [cornersOf] <;> omega⟩ (by simp [cornersOf] <;> omega) (by first | rfl | (simp [renPV, renV1, renC, cornersOf]))
/-! ### the bound -/
def losesAt (p q : Int) (k : Int) : Bool := bitAt p k && !bitAt q k
def cornerBound (b : Brd) (p q : Int) : Int := if positionOk b p = true ∧ positionOk b q = true then ((cornersOf b).filter (losesAt p q)).length else 0
theorem mem_corners {b : Brd} {k : Int} (h : k ∈ cornersOf b) : 0 ≤ k ∧ k ≤ 48 := by
  have := mem_holes (List.mem_filter.1 h).1
  exact ⟨this.2.2.1, this.2.2.2⟩
theorem pos0 {b : Brd} {p : Int} (h : positionOk b p = true) : boardOk b = true ∧ 0 ≤ p := by
  simp only [positionOk, Bool.and_eq_true, decide_eq_true_eq] at h
  exact ⟨h.1, h.2.1⟩
theorem pos2 {b : Brd} {p : Int} (h : positionOk b p = true) : p ≤ b.n := by
  simp only [positionOk, Bool.and_eq_true, decide_eq_true_eq, sub] at h
  have h1 : p.toNat &&& b.n.toNat ≤ b.n.toNat := Nat.and_le_right
  have := (bok h.1).n1
  omega
set_option maxHeartbeats 2000000 in
theorem CornerBound_c (b : Brd) (p q : Int) (hp : p ≤ 9223372036854775807) (hq : q ≤ 9223372036854775807) : PC Try.prog 14 [] [.a (brdC b), .c (.v (.int .i64 p)), .c (.v (.int .i64 q))] (vN (cornerBound b p q)) ⟨[], []⟩ := by
  refine pc_of Try.func14 rfl (by kernel_rfl) _ Try.ntmps14 (by simp) ?_
  simp -implicitDefEqProofs only [go_sem]
  refine callS (PositionOk_c b p hp) rfl rfl rfl ?_
  by_cases h1 : positionOk b p = true
  · simp -implicitDefEqProofs only [h1, go_sem]
    refine callS (PositionOk_c b q hq) rfl rfl rfl ?_
    by_cases h2 : positionOk b q = true
    · obtain ⟨hb, p0⟩ := pos0 h1
      obtain ⟨_, q0⟩ := pos0 h2
      simp -implicitDefEqProofs only [h1, h2, go_sem]
      refine callL (CornersOf_c 21 b) rfl rfl rfl ?_
      have hl := corners_len (b := b)
      simp -implicitDefEqProofs only [go_sem]
      refine loop_step (X := Nat) (fun i => ⟨49, [(1, vN p), (2, vN q), (7, vN (filN (losesAt p q) (cornersOf b) i).length), (8, vO 21), (9, vN i)], ⟨[], [(21, ⟨3, 1, (cornersOf b).map iV, false, true⟩)]⟩⟩)
        (fun i => i ≤ (cornersOf b).length) (fun i => (cornersOf b).length - i) 0 (by omega) (weak_of (fun i => i) (fun i => i) rfl ⟨by simp [filN_zero] <;> omega, by simp [filN_zero] <;> omega, by simp [filN_zero] <;> omega, by simp [filN_zero] <;> omega, by simp [filN_zero] <;> omega⟩ (by simp [filN_zero] <;> omega)) (fun i hi => ?_)
      have hf := filN_len (p := losesAt p q) (l := cornersOf b) (i := i)
      simp -implicitDefEqProofs only [go_sem]
      refine if_splitP (fun h => ?_) (fun h => ?_)
      · have hlt : i < (cornersOf b).length := by omega
        have hg := map_get (f := iV) hlt
        obtain ⟨k0, k1⟩ := mem_corners (List.getElem_mem hlt)
        have hk := Int.toNat_of_nonneg k0
        have hsp := shr_bd (n := p) (j := (cornersOf b)[i].toNat) p0 hp
        have hsq := shr_bd (n := q) (j := (cornersOf b)[i].toNat) q0 hq
        have miss : losesAt p q (cornersOf b)[i] = false → filN (losesAt p q) (cornersOf b) (i + 1) = filN (losesAt p q) (cornersOf b) i := filN_miss hlt
        have hit : losesAt p q (cornersOf b)[i] = true → filN (losesAt p q) (cornersOf b) (i + 1) = filN (losesAt p q) (cornersOf b) i ++ [(cornersOf b)[i]] := filN_hit hlt
        by_cases t1 : bitAt p (cornersOf b)[i] = true
        · by_cases t2 : bitAt q (cornersOf b)[i] = true
          · have e := miss (by simp [losesAt, t2])
            (repeat' (first | simp -implicitDefEqProofs only [hg, hlt, hk, t1, t2, go_sem] | (refine And.intro ?_ ?_; omega) | (refine And.intro (shr_bd ?_ ?_) ?_; omega; omega) | refine sl_list rfl ?_ | refine sd_list rfl ?_ | refine sl_str ?_ | refine sd_str ?_))
            exact ⟨i + 1, by omega, by omega, weak_of (fun i => i) (fun i => i) rfl ⟨by simp [e] <;> omega, by simp [e] <;> omega, by simp [e] <;> omega, by simp [e] <;> omega, by simp [e] <;> omega⟩ (by simp [e] <;> omega)⟩
          · have e := hit (by simp [losesAt, t1, t2])
            (repeat' (first | simp -implicitDefEqProofs only [hg, hlt, hk, t1, t2, go_sem] | (refine And.intro ?_ ?_; omega) | (refine And.intro (shr_bd ?_ ?_) ?_; omega; omega) | refine sl_list rfl ?_ | refine sd_list rfl ?_ | refine sl_str ?_ | refine sd_str ?_))
            exact ⟨i + 1, by omega, by omega, weak_of (fun i => i) (fun i => i) rfl ⟨by simp [e] <;> omega, by simp [e] <;> omega, by simp [e] <;> omega, by simp [e] <;> omega, by simp [e] <;> omega⟩ (by simp [e] <;> omega)⟩
        · have e := miss (by simp [losesAt, t1])
          (repeat' (first | simp -implicitDefEqProofs only [hg, hlt, hk, t1, go_sem] | (refine And.intro ?_ ?_; omega) | (refine And.intro (shr_bd ?_ ?_) ?_; omega; omega) | refine sl_list rfl ?_ | refine sd_list rfl ?_ | refine sl_str ?_ | refine sd_str ?_))
          exact ⟨i + 1, by omega, by omega, weak_of (fun i => i) (fun i => i) rfl ⟨by simp [e] <;> omega, by simp [e] <;> omega, by simp [e] <;> omega, by simp [e] <;> omega, by simp [e] <;> omega⟩ (by simp [e] <;> omega)⟩
      · have hle : i = (cornersOf b).length := by omega
        subst hle
        simp -implicitDefEqProofs only [filN_end, go_sem]
        exact fin_scal rfl (by simp [cornerBound, h1, h2])
    · simp -implicitDefEqProofs only [h1, h2, go_sem]
      exact fin_scal rfl (by simp [cornerBound, h2])
  · simp -implicitDefEqProofs only [h1, go_sem]
    exact fin_scal rfl (by simp [cornerBound, h1])
end Go.Proofs.Ytahnbliabllflaa
