/-
  What the functions compute that undo a list of jumps.
  What the functions compute that undo a list of jumps and audit a table; the law on the audit.
  What the functions compute that audit a table; the law on the audit.
  What the functions compute that merge two lists of records; the law on them.
  The law on merging records.
-/
import Derived.Test.YtahnbliabllflaaGreatDoorU1
import Derived.Test.YtahnbliabllflaaGreatDoorV1
import Derived.Test.YtahnbliabllflaaGreatDoorL2
namespace Go.Proofs.YtahnbliabllflaaGreatDoor
open Go.PL
set_option linter.unusedSimpArgs false
def canUn (b : Brd) (p : Int) (l : Ln) : Bool := positionOk b p && (isLine b l && canU p l)
def undoJ (b : Brd) (p : Int) (l : Ln) : Int := if canUn b p l = true then flip p l else p
theorem iUndoJump_c (b : Brd) (p : Int) (l : Ln) (p2 : p ≤ 9223372036854775807) : PC Tryz.prog 87 [] [.a (brdC b), .c (.v (.int .i64 p)), .a (lineC l)] (.t [.c (.v (.int .i64 (undoJ b p l))), .c (.v (.bool (canUn b p l)))]) ⟨[], []⟩ := by
  refine pc_of Tryz.func87 rfl (by kernel_rfl) _ Tryz.ntmps87 (by simp) ?_
  (repeat' (first | simp -implicitDefEqProofs only [go_sem] | (refine And.intro ?_ ?_; omega) | (refine And.intro (shr_bd ?_ ?_) ?_; omega; omega) | refine sl_list rfl ?_ | refine sd_list rfl ?_ | refine sl_str ?_ | refine sd_str ?_))
  refine callS (iPositionOk_c b p p2) rfl rfl rfl ?_
  by_cases h1 : positionOk b p = true
  · (repeat' (first | simp -implicitDefEqProofs only [h1, go_sem] | (refine And.intro ?_ ?_; omega) | (refine And.intro (shr_bd ?_ ?_) ?_; omega; omega) | refine sl_list rfl ?_ | refine sd_list rfl ?_ | refine sl_str ?_ | refine sd_str ?_))
    refine callS (iisLine_c b l) rfl rfl rfl ?_
    by_cases h2 : isLine b l = true
    · have hm := isLine_mem h2
      have hln := lnIn hm
      obtain ⟨hne0, hne1, hne2⟩ := line_ne hm
      obtain ⟨hb, p0, hs⟩ := pos_sub h1
      (repeat' (first | simp -implicitDefEqProofs only [h1, h2, go_sem] | (refine And.intro ?_ ?_; omega) | (refine And.intro (shr_bd ?_ ?_) ?_; omega; omega) | refine sl_list rfl ?_ | refine sd_list rfl ?_ | refine sl_str ?_ | refine sd_str ?_))
      refine callS (undoFrom_c p l p0 p2 hln) rfl rfl rfl ?_
      (repeat' (first | simp -implicitDefEqProofs only [go_sem] | (refine And.intro ?_ ?_; omega) | (refine And.intro (shr_bd ?_ ?_) ?_; omega; omega) | refine sl_list rfl ?_ | refine sd_list rfl ?_ | refine sl_str ?_ | refine sd_str ?_))
      refine fin_scal rfl ?_
      have e1 : canUn b p l = canU p l := by simp [canUn, h1, h2]
      have e2 : undoJ b p l = undoI p l := by
        unfold undoJ undoI
        rw [e1]
        split
        · rename_i hc
          rw [und_flip p0 hln hne1 hne2 hc]; rfl
        · rfl
      rw [e1, e2]
    · have e : canUn b p l = false := by simp [canUn, h2]
      (repeat' (first | simp -implicitDefEqProofs only [h1, h2, go_sem] | (refine And.intro ?_ ?_; omega) | (refine And.intro (shr_bd ?_ ?_) ?_; omega; omega) | refine sl_list rfl ?_ | refine sd_list rfl ?_ | refine sl_str ?_ | refine sd_str ?_))
      exact fin_scal rfl (by simp [undoJ, e])
  · have e : canUn b p l = false := by simp [canUn, h1]
    (repeat' (first | simp -implicitDefEqProofs only [h1, go_sem] | (refine And.intro ?_ ?_; omega) | (refine And.intro (shr_bd ?_ ?_) ?_; omega; omega) | refine sl_list rfl ?_ | refine sd_list rfl ?_ | refine sl_str ?_ | refine sd_str ?_))
    exact fin_scal rfl (by simp [undoJ, e])
theorem un_pos {b : Brd} {p : Int} {l : Ln} (h : canUn b p l = true) : positionOk b (flip p l) = true := by
  have h' := h
  simp only [canUn, Bool.and_eq_true] at h'
  obtain ⟨hb, p0, hs⟩ := pos_sub h'.1
  have ha : able true p.toNat l = true := by simp only [able, if_true]; rw [Int.toNat_of_nonneg p0]; exact h'.2.2
  exact sub_pos hb (rch_sub hs (.step _ l .refl (isLine_mem h'.2.1) ha))
end Go.Proofs.YtahnbliabllflaaGreatDoor
namespace Go.Proofs.YtahnbliabllflaaGreatDoor
open Go.PL
set_option linter.unusedSimpArgs false
def undoN (b : Brd) (ls : List Ln) : Nat → Int → Option Int
  | 0, q => some q
  | n + 1, q => match ls[n]? with
    | some l => if canUn b q l = true then undoN b ls n (flip q l) else none
    | none => none
def undoAll (b : Brd) (p : Int) (ls : List Ln) : Option Int := if positionOk b p = true ∧ ls.length ≤ 60 then undoN b ls ls.length p else none
def undoAI (b : Brd) (p : Int) (ls : List Ln) : Int := (undoAll b p ls).getD p
theorem undoN_step {b : Brd} {q : Int} {ls : List Ln} {m : Nat} (h : m < ls.length) (hc : canUn b q ls[m] = true) : undoN b ls (m + 1) q = undoN b ls m (flip q ls[m]) := by
  simp [undoN, h, hc]
theorem undoN_no {b : Brd} {q : Int} {ls : List Ln} {m : Nat} (h : m < ls.length) (hc : canUn b q ls[m] = false) : undoN b ls (m + 1) q = none := by
  simp [undoN, h, hc]
set_option maxHeartbeats 4000000 in
theorem iUndoAll_c (b : Brd) (p : Int) (ls : List Ln) (p2 : p ≤ 9223372036854775807) (hn : ls.length ≤ 9223372036854775806) : PC Tryz.prog 33 [] [.a (brdC b), .c (.v (.int .i64 p)), .c (.l 3 (ls.map lineV))] (.t [.c (.v (.int .i64 (undoAI b p ls))), .c (.v (.bool (undoAll b p ls).isSome))]) ⟨[], []⟩ := by
  refine pc_of Tryz.func33 rfl (by kernel_rfl) _ Tryz.ntmps33 (by simp) ?_
  (repeat' (first | simp -implicitDefEqProofs only [go_sem] | (refine And.intro ?_ ?_; omega) | (refine And.intro (shr_bd ?_ ?_) ?_; omega; omega) | refine sl_list rfl ?_ | refine sd_list rfl ?_ | refine sl_str ?_ | refine sd_str ?_))
  refine callS (iPositionOk_c b p p2) rfl rfl rfl ?_
  by_cases hp : positionOk b p = true
  rotate_left
  · have e : undoAll b p ls = none := by simp [undoAll, hp]
    (repeat' (first | simp -implicitDefEqProofs only [hp, go_sem] | (refine And.intro ?_ ?_; omega) | (refine And.intro (shr_bd ?_ ?_) ?_; omega; omega) | refine sl_list rfl ?_ | refine sd_list rfl ?_ | refine sl_str ?_ | refine sd_str ?_))
    exact fin_scal rfl (by simp [undoAI, e])
  by_cases h60 : (60 : Int) < ls.length
  · have e : undoAll b p ls = none := by
      have : ¬ ls.length ≤ 60 := by omega
      simp [undoAll, this]
    (repeat' (first | simp -implicitDefEqProofs only [hp, h60, go_sem] | (refine And.intro ?_ ?_; omega) | (refine And.intro (shr_bd ?_ ?_) ?_; omega; omega) | refine sl_list rfl ?_ | refine sd_list rfl ?_ | refine sl_str ?_ | refine sd_str ?_))
    exact fin_scal rfl (by simp [undoAI, e])
  have h60' : ls.length ≤ 60 := by omega
  (repeat' (first | simp -implicitDefEqProofs only [hp, h60, go_sem] | (refine And.intro ?_ ?_; omega) | (refine And.intro (shr_bd ?_ ?_) ?_; omega; omega) | refine sl_list rfl ?_ | refine sd_list rfl ?_ | refine sl_str ?_ | refine sd_str ?_))
  refine loop_step (X := Nat × Int) (fun x => ⟨45, [(1, vN p), (2, vL 3 (ls.map lineV)), (3, .s (.c (.p 3 0))), (8, vN x.2), (9, vN ((x.1 : Int) - 1))], ⟨[(3, brdC b)], []⟩⟩)
    (fun x => x.1 ≤ ls.length ∧ x.2 ≤ 9223372036854775807 ∧ undoN b ls ls.length p = undoN b ls x.1 x.2) (fun x => x.1) (ls.length, p) ⟨by simp, p2, rfl⟩ (weak_of (fun i => i) (fun i => i) rfl ⟨by simp <;> omega, by simp <;> omega, by simp <;> omega, by simp <;> omega, by simp <;> omega⟩ (by simp <;> omega)) (fun x hx => ?_)
  obtain ⟨n, q⟩ := x
  obtain ⟨hi, hq, hpl⟩ := hx
  simp only at hi hq hpl
  simp -implicitDefEqProofs only [go_sem]
  refine if_splitP (fun h => ?_) (fun h => ?_)
  · obtain ⟨m, rfl⟩ : ∃ m, n = m + 1 := ⟨n - 1, by omega⟩
    have e0 : ((m + 1 : Nat) : Int) - 1 = (m : Int) := by omega
    simp only [e0]
    have hlt : m < ls.length := by omega
    have hg := map_get (f := lineV) hlt
    simp -implicitDefEqProofs only [go_sem]
    refine draw_step Tryz.pl_follows (by kernel_rfl) ?_
    (repeat' (first | simp -implicitDefEqProofs only [hg, hlt, lineV, go_sem] | (refine And.intro ?_ ?_; omega) | (refine And.intro (shr_bd ?_ ?_) ?_; omega; omega) | refine sl_list rfl ?_ | refine sd_list rfl ?_ | refine sl_str ?_ | refine sd_str ?_))
    refine callD (iUndoJump_c b q ls[m] hq) rfl rfl rfl ?_
    by_cases hc : canUn b q ls[m] = true
    · have hd : undoJ b q ls[m] = flip q ls[m] := by simp [undoJ, hc]
      have hst := undoN_step hlt hc
      have hle := pos_le (un_pos hc)
      (repeat' (first | simp -implicitDefEqProofs only [hc, hd, go_sem] | (refine And.intro ?_ ?_; omega) | (refine And.intro (shr_bd ?_ ?_) ?_; omega; omega) | refine sl_list rfl ?_ | refine sd_list rfl ?_ | refine sl_str ?_ | refine sd_str ?_))
      exact ⟨(m, flip q ls[m]), ⟨by simp only; omega, by simp only; omega, by simp only; rw [hpl, hst]⟩, by simp only; omega, weak_of (fun i => i) (fun i => i) rfl ⟨by simp <;> omega, by simp <;> omega, by simp <;> omega, by simp <;> omega, by simp <;> omega⟩ (by simp <;> omega)⟩
    · have e : undoAll b p ls = none := by
        unfold undoAll
        split
        · rw [hpl]; exact undoN_no hlt (by simpa using hc)
        · rfl
      (repeat' (first | simp -implicitDefEqProofs only [hc, go_sem] | (refine And.intro ?_ ?_; omega) | (refine And.intro (shr_bd ?_ ?_) ?_; omega; omega) | refine sl_list rfl ?_ | refine sd_list rfl ?_ | refine sl_str ?_ | refine sd_str ?_))
      exact fin_scal rfl (by simp [undoAI, e])
  · have hle : n = 0 := by omega
    subst hle
    have e : undoAll b p ls = some q := by simp [undoAll, hp, h60', hpl, undoN]
    (repeat' (first | simp -implicitDefEqProofs only [go_sem] | (refine And.intro ?_ ?_; omega) | (refine And.intro (shr_bd ?_ ?_) ?_; omega; omega) | refine sl_list rfl ?_ | refine sd_list rfl ?_ | refine sl_str ?_ | refine sd_str ?_))
    exact fin_scal rfl (by simp [undoAI, e])
end Go.Proofs.YtahnbliabllflaaGreatDoor
namespace Go.Proofs.YtahnbliabllflaaGreatDoor
open Go.PL
set_option linter.unusedSimpArgs false
theorem now_le {g : Gm} (h : gameOk g = true) : nowOf g ≤ 9223372036854775807 := by
  have h' := h
  simp only [gameOk, Bool.and_eq_true] at h'
  obtain ⟨q, hq⟩ := Option.isSome_iff_exists.1 h'.2.2.2
  have e : nowOf g = q := by simp [nowOf, h, playI, hq]
  unfold playAll at hq
  split at hq
  · rename_i hp
    have := pos_le (playF_pos hp.1 hq)
    omega
  · cases hq
def auditOk (t : Tb) : Bool := tableOk t && ((undoAll t.g.x.b (nowOf t.g) t.g.j).isSome && decide (undoAI t.g.x.b (nowOf t.g) t.g.j = t.g.x.s))
theorem tableOk_g {t : Tb} (h : tableOk t = true) : gameOk t.g = true := by
  simp only [tableOk, Bool.and_eq_true] at h
  exact h.1
set_option maxHeartbeats 2000000 in
theorem iAuditTable_c (t : Tb) (ht : TbIn t) : PC Tryz.prog 26 [] [.a (tbL t)] (vB (auditOk t)) ⟨[], []⟩ := by
  refine pc_of Tryz.func26 rfl (by kernel_rfl) _ Tryz.ntmps26 (by simp) ?_
  (repeat' (first | simp -implicitDefEqProofs only [go_sem] | (refine And.intro ?_ ?_; omega) | (refine And.intro (shr_bd ?_ ?_) ?_; omega; omega) | refine sl_list rfl ?_ | refine sd_list rfl ?_ | refine sl_str ?_ | refine sd_str ?_))
  refine callS (iTableOk_c t ht) rfl rfl rfl ?_
  by_cases h1 : tableOk t = true
  · simp -implicitDefEqProofs only [h1, go_sem]
    refine draw_step Tryz.pl_follows (by kernel_rfl) ?_
    (repeat' (first | simp -implicitDefEqProofs only [go_sem] | (refine And.intro ?_ ?_; omega) | (refine And.intro (shr_bd ?_ ?_) ?_; omega; omega) | refine sl_list rfl ?_ | refine sd_list rfl ?_ | refine sl_str ?_ | refine sd_str ?_))
    refine callD (iNowOf_c t.g ht.g) rfl rfl rfl ?_
    (repeat' (first | simp -implicitDefEqProofs only [go_sem] | (refine And.intro ?_ ?_; omega) | (refine And.intro (shr_bd ?_ ?_) ?_; omega; omega) | refine sl_list rfl ?_ | refine sd_list rfl ?_ | refine sl_str ?_ | refine sd_str ?_))
    refine callD (iUndoAll_c t.g.x.b (nowOf t.g) t.g.j (now_le (tableOk_g h1)) ht.g.j) rfl rfl rfl ?_
    by_cases h2 : (undoAll t.g.x.b (nowOf t.g) t.g.j).isSome = true
    · (repeat' (first | simp -implicitDefEqProofs only [h2, go_sem] | (refine And.intro ?_ ?_; omega) | (refine And.intro (shr_bd ?_ ?_) ?_; omega; omega) | refine sl_list rfl ?_ | refine sd_list rfl ?_ | refine sl_str ?_ | refine sd_str ?_))
      exact fin_scal rfl (by simp [auditOk, h1, h2])
    · (repeat' (first | simp -implicitDefEqProofs only [h2, go_sem] | (refine And.intro ?_ ?_; omega) | (refine And.intro (shr_bd ?_ ?_) ?_; omega; omega) | refine sl_list rfl ?_ | refine sd_list rfl ?_ | refine sl_str ?_ | refine sd_str ?_))
      exact fin_scal rfl (by simp [auditOk, h2])
  · (repeat' (first | simp -implicitDefEqProofs only [h1, go_sem] | (refine And.intro ?_ ?_; omega) | (refine And.intro (shr_bd ?_ ?_) ?_; omega; omega) | refine sl_list rfl ?_ | refine sd_list rfl ?_ | refine sl_str ?_ | refine sd_str ?_))
    exact fin_scal rfl (by simp [auditOk, h1])
end Go.Proofs.YtahnbliabllflaaGreatDoor
namespace Go.Proofs.YtahnbliabllflaaGreatDoor
open Go.PL
set_option linter.unusedSimpArgs false
structure Vld (rs : List Rec) : Prop where
  ok : ∀ x ∈ rs, recOk x = true
  pw : rs.Pairwise fun a b => a.p < b.p
def mergeF (rs cs : List Rec) : List Rec := cs.foldl (fun m r => (entered m r).1) rs
def mergeR (rs cs : List Rec) : List Rec × Bool :=
  if recordsOk rs = true ∧ recordsOk cs = true ∧ recordsOk (mergeF rs cs) = true then (mergeF rs cs, true) else (rs, false)
end Go.Proofs.YtahnbliabllflaaGreatDoor
namespace Go.Proofs.YtahnbliabllflaaGreatDoor
open Go.PL
set_option linter.unusedSimpArgs false
end Go.Proofs.YtahnbliabllflaaGreatDoor
