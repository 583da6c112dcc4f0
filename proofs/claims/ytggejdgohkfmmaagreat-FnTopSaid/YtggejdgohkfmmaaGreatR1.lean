/-
  What the functions compute that let a clock tick, copy a table and lay a new game and clock into it.
  What the functions compute that play a jump on a table and take one back.
-/
import Derived.Test.YtggejdgohkfmmaaGreatW1
import Derived.Test.YtggejdgohkfmmaaGreatV1
import Derived.Test.YtggejdgohkfmmaaGreatL9
namespace Go.Proofs.YtggejdgohkfmmaaGreat
open Go.PL
set_option linter.unusedSimpArgs false
theorem clockOk_bd {c : Ck} (h : clockOk c = true) : 0 ≤ c.a ∧ c.a ≤ 100000 ∧ 0 ≤ c.b ∧ c.b ≤ 600 ∧ 0 ≤ c.c ∧ c.c ≤ 1000 := by
  simp only [clockOk, Bool.and_eq_true, within_iff] at h
  omega
/-- the clock after so many seconds -/
def tickd (c : Ck) (s : Int) : Ck := ⟨c.a - s + c.b, c.b, c.c + 1⟩
def tickOk (c : Ck) (s : Int) : Bool := clockOk c && (within s 0 c.a && clockOk (tickd c s))
def tickC (c : Ck) (s : Int) : Ck := if tickOk c s = true then tickd c s else c
set_option maxHeartbeats 1000000 in
theorem TickClock_c (c : Ck) (s : Int) : PC Tryz.prog 76 [] [.a (ckC c), .c (.v (.int .i64 s))] (.t [.a (ckC (tickC c s)), .c (.v (.bool (tickOk c s)))]) ⟨[], []⟩ := by
  refine pc_of Tryz.func76 rfl (by kernel_rfl) _ Tryz.ntmps76 (by simp) ?_
  (repeat' (first | simp -implicitDefEqProofs only [go_sem] | (refine And.intro ?_ ?_; omega) | (refine And.intro (shr_bd ?_ ?_) ?_; omega; omega) | refine sl_list rfl ?_ | refine sd_list rfl ?_ | refine sl_str ?_ | refine sd_str ?_))
  refine callS (ClockOk_c c) rfl rfl rfl ?_
  by_cases h1 : clockOk c = true
  · obtain ⟨a0, a1, b0, b1, c0, c1⟩ := clockOk_bd h1
    (repeat' (first | simp -implicitDefEqProofs only [h1, go_sem] | (refine And.intro ?_ ?_; omega) | (refine And.intro (shr_bd ?_ ?_) ?_; omega; omega) | refine sl_list rfl ?_ | refine sd_list rfl ?_ | refine sl_str ?_ | refine sd_str ?_))
    refine callS (l01In_c _ _ _) rfl rfl rfl ?_
    by_cases h2 : within s 0 c.a = true
    · obtain ⟨s0, s1⟩ := within_iff.1 h2
      (repeat' (first | simp -implicitDefEqProofs only [h2, go_sem] | (refine And.intro ?_ ?_; omega) | (refine And.intro (shr_bd ?_ ?_) ?_; omega; omega) | refine sl_list rfl ?_ | refine sd_list rfl ?_ | refine sl_str ?_ | refine sd_str ?_))
      refine callS (ClockOk_c (tickd c s)) rfl rfl rfl ?_
      by_cases h3 : clockOk (tickd c s) = true
      · have e : tickOk c s = true := by simp [tickOk, h1, h2, h3]
        (repeat' (first | simp -implicitDefEqProofs only [h3, go_sem] | (refine And.intro ?_ ?_; omega) | (refine And.intro (shr_bd ?_ ?_) ?_; omega; omega) | refine sl_list rfl ?_ | refine sd_list rfl ?_ | refine sl_str ?_ | refine sd_str ?_))
        exact fin_scal rfl (by simp [tickC, e, tickd, retOf])
      · have e : tickOk c s = false := by simp [tickOk, h3]
        (repeat' (first | simp -implicitDefEqProofs only [h3, go_sem] | (refine And.intro ?_ ?_; omega) | (refine And.intro (shr_bd ?_ ?_) ?_; omega; omega) | refine sl_list rfl ?_ | refine sd_list rfl ?_ | refine sl_str ?_ | refine sd_str ?_))
        exact fin_scal rfl (by simp [tickC, e, retOf])
    · have e : tickOk c s = false := by simp [tickOk, h2]
      (repeat' (first | simp -implicitDefEqProofs only [h2, go_sem] | (refine And.intro ?_ ?_; omega) | (refine And.intro (shr_bd ?_ ?_) ?_; omega; omega) | refine sl_list rfl ?_ | refine sd_list rfl ?_ | refine sl_str ?_ | refine sd_str ?_))
      exact fin_scal rfl (by simp [tickC, e, retOf])
  · have e : tickOk c s = false := by simp [tickOk, h1]
    (repeat' (first | simp -implicitDefEqProofs only [h1, go_sem] | (refine And.intro ?_ ?_; omega) | (refine And.intro (shr_bd ?_ ?_) ?_; omega; omega) | refine sl_list rfl ?_ | refine sd_list rfl ?_ | refine sl_str ?_ | refine sd_str ?_))
    exact fin_scal rfl (by simp [tickC, e, retOf])
set_option maxHeartbeats 1000000 in
theorem iTickClock_c (c : Ck) (s : Int) : PC Tryz.prog 62 [] [.a (ckC c), .c (.v (.int .i64 s))] (.t [.a (ckC (tickC c s)), .c (.v (.bool (tickOk c s)))]) ⟨[], []⟩ := by
  refine pc_of Tryz.func62 rfl (by kernel_rfl) _ Tryz.ntmps62 (by simp) ?_
  (repeat' (first | simp -implicitDefEqProofs only [go_sem] | (refine And.intro ?_ ?_; omega) | (refine And.intro (shr_bd ?_ ?_) ?_; omega; omega) | refine sl_list rfl ?_ | refine sd_list rfl ?_ | refine sl_str ?_ | refine sd_str ?_))
  refine callS (iClockOk_c c) rfl rfl rfl ?_
  by_cases h1 : clockOk c = true
  · obtain ⟨a0, a1, b0, b1, c0, c1⟩ := clockOk_bd h1
    (repeat' (first | simp -implicitDefEqProofs only [h1, go_sem] | (refine And.intro ?_ ?_; omega) | (refine And.intro (shr_bd ?_ ?_) ?_; omega; omega) | refine sl_list rfl ?_ | refine sd_list rfl ?_ | refine sl_str ?_ | refine sd_str ?_))
    refine callS (within_c _ _ _) rfl rfl rfl ?_
    by_cases h2 : within s 0 100000 = true
    · obtain ⟨s0, s1⟩ := within_iff.1 h2
      by_cases h4 : c.a < s
      · have e : tickOk c s = false := by
          have : within s 0 c.a = false := within_not.2 (by omega)
          simp [tickOk, this]
        (repeat' (first | simp -implicitDefEqProofs only [h2, h4, go_sem] | (refine And.intro ?_ ?_; omega) | (refine And.intro (shr_bd ?_ ?_) ?_; omega; omega) | refine sl_list rfl ?_ | refine sd_list rfl ?_ | refine sl_str ?_ | refine sd_str ?_))
        exact fin_scal rfl (by simp [tickC, e, retOf])
      · have h5 : within s 0 c.a = true := within_iff.2 (by omega)
        (repeat' (first | simp -implicitDefEqProofs only [h2, h4, go_sem] | (refine And.intro ?_ ?_; omega) | (refine And.intro (shr_bd ?_ ?_) ?_; omega; omega) | refine sl_list rfl ?_ | refine sd_list rfl ?_ | refine sl_str ?_ | refine sd_str ?_))
        refine callS (iClockOk_c (tickd c s)) rfl rfl rfl ?_
        by_cases h3 : clockOk (tickd c s) = true
        · have e : tickOk c s = true := by simp [tickOk, h1, h5, h3]
          (repeat' (first | simp -implicitDefEqProofs only [h3, go_sem] | (refine And.intro ?_ ?_; omega) | (refine And.intro (shr_bd ?_ ?_) ?_; omega; omega) | refine sl_list rfl ?_ | refine sd_list rfl ?_ | refine sl_str ?_ | refine sd_str ?_))
          exact fin_scal rfl (by simp [tickC, e, tickd, retOf])
        · have e : tickOk c s = false := by simp [tickOk, h3]
          (repeat' (first | simp -implicitDefEqProofs only [h3, go_sem] | (refine And.intro ?_ ?_; omega) | (refine And.intro (shr_bd ?_ ?_) ?_; omega; omega) | refine sl_list rfl ?_ | refine sd_list rfl ?_ | refine sl_str ?_ | refine sd_str ?_))
          exact fin_scal rfl (by simp [tickC, e, retOf])
    · have e : tickOk c s = false := by
        have : within s 0 c.a = false := within_not.2 (fun h => h2 (within_iff.2 (by omega)))
        simp [tickOk, this]
      (repeat' (first | simp -implicitDefEqProofs only [h2, go_sem] | (refine And.intro ?_ ?_; omega) | (refine And.intro (shr_bd ?_ ?_) ?_; omega; omega) | refine sl_list rfl ?_ | refine sd_list rfl ?_ | refine sl_str ?_ | refine sd_str ?_))
      exact fin_scal rfl (by simp [tickC, e, retOf])
  · have e : tickOk c s = false := by simp [tickOk, h1]
    (repeat' (first | simp -implicitDefEqProofs only [h1, go_sem] | (refine And.intro ?_ ?_; omega) | (refine And.intro (shr_bd ?_ ?_) ?_; omega; omega) | refine sl_list rfl ?_ | refine sd_list rfl ?_ | refine sl_str ?_ | refine sd_str ?_))
    exact fin_scal rfl (by simp [tickC, e, retOf])
theorem iCopyTable_c (d e : Nat) (hde : d ≠ e) (t : Tb) (hn : t.g.j.length ≤ 4194304) (hr : t.r.length ≤ 1048576) : PC Tryz.prog 21 [] [.a (tbL t)] (.s (.a (tbC t (.o d) (.o e)))) ⟨[], [(d, ⟨58, 3, t.g.j.map lineV, false, true⟩), (e, ⟨98, 4, t.r.map recV, false, true⟩)]⟩ := by
  have hed : e ≠ d := fun h => hde h.symm
  refine pc_of Tryz.func21 rfl (by kernel_rfl) _ Tryz.ntmps21 (by simp) ?_
  repeat' first
    | (first | simp -implicitDefEqProofs only [go_sem] | (refine And.intro ?_ ?_; omega) | (refine And.intro (shr_bd ?_ ?_) ?_; omega; omega) | refine sl_list rfl ?_ | refine sd_list rfl ?_ | refine sl_str ?_ | refine sd_str ?_)
    | refine callL1 (fun d => iCopyGame_c d t.g hn) rfl rfl rfl ?_
    | refine callL1 (fun d => copyRecords_c d t.r hr) rfl rfl rfl ?_
  exact fin_of (fun i => i) (fun i => if i = d then 5 else 9) ⟨by simp [boxesR, listsR, csR, renC, keyC, optK, fnd, envR, St.get, keyPV, keyV1, renPV, renV1, hasKey, made_zero, hde, hed] <;> omega, by simp [boxesR, listsR, csR, renC, keyC, optK, fnd, envR, St.get, keyPV, keyV1, renPV, renV1, hasKey, made_zero, hde, hed] <;> omega, by simp [boxesR, listsR, csR, renC, keyC, optK, fnd, envR, St.get, keyPV, keyV1, renPV, renV1, hasKey, made_zero, hde, hed] <;> omega, by simp [boxesR, listsR, csR, renC, keyC, optK, fnd, envR, St.get, keyPV, keyV1, renPV, renV1, hasKey, made_zero, hde, hed] <;> omega, by simp [boxesR, listsR, csR, renC, keyC, optK, fnd, envR, St.get, keyPV, keyV1, renPV, renV1, hasKey, made_zero, hde, hed] <;> omega⟩ (by simp [boxesR, listsR, csR, renC, keyC, optK, fnd, envR, St.get, keyPV, keyV1, renPV, renV1, hasKey, made_zero, hde, hed] <;> omega) (by first | rfl | (simp [renPV, renV1, renC, hde, hed]))
theorem l38Copy_c (d e : Nat) (hde : d ≠ e) (t : Tb) (hn : t.g.j.length ≤ 4194304) (hr : t.r.length ≤ 1048576) : PC Tryz.prog 28 [] [.a (tbL t)] (.s (.a (tbC t (.o d) (.o e)))) ⟨[], [(d, ⟨58, 3, t.g.j.map lineV, false, true⟩), (e, ⟨98, 4, t.r.map recV, false, true⟩)]⟩ := by
  have hed : e ≠ d := fun h => hde h.symm
  refine pc_of Tryz.func28 rfl (by kernel_rfl) _ Tryz.ntmps28 (by simp) ?_
  repeat' first
    | (first | simp -implicitDefEqProofs only [go_sem] | (refine And.intro ?_ ?_; omega) | (refine And.intro (shr_bd ?_ ?_) ?_; omega; omega) | refine sl_list rfl ?_ | refine sd_list rfl ?_ | refine sl_str ?_ | refine sd_str ?_)
    | refine draw_stepY Tryz.pl_follows (by kernel_rfl) ?_
    | refine callL1 (fun d => l37Copy_c d t.g hn) rfl rfl rfl ?_
  exact fin_of (fun i => i) (fun i => if i = d then 5 else 13) ⟨by simp [boxesR, listsR, csR, renC, keyC, optK, fnd, envR, St.get, keyPV, keyV1, renPV, renV1, hasKey, made_zero, hde, hed] <;> omega, by simp [boxesR, listsR, csR, renC, keyC, optK, fnd, envR, St.get, keyPV, keyV1, renPV, renV1, hasKey, made_zero, hde, hed] <;> omega, by simp [boxesR, listsR, csR, renC, keyC, optK, fnd, envR, St.get, keyPV, keyV1, renPV, renV1, hasKey, made_zero, hde, hed] <;> omega, by simp [boxesR, listsR, csR, renC, keyC, optK, fnd, envR, St.get, keyPV, keyV1, renPV, renV1, hasKey, made_zero, hde, hed] <;> omega, by simp [boxesR, listsR, csR, renC, keyC, optK, fnd, envR, St.get, keyPV, keyV1, renPV, renV1, hasKey, made_zero, hde, hed] <;> omega⟩ (by simp [boxesR, listsR, csR, renC, keyC, optK, fnd, envR, St.get, keyPV, keyV1, renPV, renV1, hasKey, made_zero, hde, hed] <;> omega) (by first | rfl | (simp [renPV, renV1, renC, hde, hed]))
/-- a game and a clock laid into a table -/
def layG (t : Tb) (g : Gm) (c : Ck) : Tb := { t with g := g, c := c }
theorem movedT_c (q e : Nat) (hqe : q ≠ e) (t : Tb) (g : Gm) (c : Ck) (hn : t.g.j.length ≤ 4194304) (hr : t.r.length ≤ 1048576) :
    PI Tryz.prog 63 [(q, ⟨58, 3, g.j.map lineV, false, true⟩)] [.a (tbL t), .a (gmC g (.o q)), .a (ckC c), .c (.v (.bool true))] (.t [.a (tbC (layG t g c) (.o q) (.o e)), .c (.v (.bool true))])
      ⟨[], [(q, ⟨58, 3, g.j.map lineV, false, true⟩), (e, ⟨98, 4, t.r.map recV, false, true⟩)]⟩ := by
  have heq : e ≠ q := fun h => hqe h.symm
  obtain ⟨a, ha⟩ : ∃ a : Nat, a ≠ q := ⟨q + 1, by omega⟩
  obtain ⟨b, hb, hba⟩ : ∃ b : Nat, b ≠ q ∧ a ≠ b := ⟨a + q + 1, by omega, by omega⟩
  have ha' : ¬ q = a := fun h => ha h.symm
  have hb' : ¬ q = b := fun h => hb h.symm
  have hab : ¬ b = a := fun h => hba h.symm
  refine pi_of Tryz.func63 rfl (by kernel_rfl) _ Tryz.ntmps63 (by simp) ?_
  repeat' first
    | (first | simp -implicitDefEqProofs only [ha, hb, hba, hab, ha', hb', go_sem] | (refine And.intro ?_ ?_; omega) | (refine And.intro (shr_bd ?_ ?_) ?_; omega; omega) | refine sl_list rfl ?_ | refine sd_list rfl ?_ | refine sl_str ?_ | refine sd_str ?_)
    | refine callL (iCopyTable_c a b hba t hn hr) rfl rfl (by simp [freshL, memN, hasKey, nvPV, nvV1, nvC, ha, hb, hba, hab, ha', hb', gmC]) ?_
  exact fin_of (fun i => i) (fun i => if i = q then q else b) ⟨by simp [boxesR, listsR, csR, renC, keyC, optK, fnd, envR, St.get, keyPV, keyV1, renPV, renV1, hasKey, made_zero, hqe, heq, ha, hb, hba, hab, ha', hb', layG] <;> omega, by simp [boxesR, listsR, csR, renC, keyC, optK, fnd, envR, St.get, keyPV, keyV1, renPV, renV1, hasKey, made_zero, hqe, heq, ha, hb, hba, hab, ha', hb', layG] <;> omega, by simp [boxesR, listsR, csR, renC, keyC, optK, fnd, envR, St.get, keyPV, keyV1, renPV, renV1, hasKey, made_zero, hqe, heq, ha, hb, hba, hab, ha', hb', layG] <;> omega, by simp [boxesR, listsR, csR, renC, keyC, optK, fnd, envR, St.get, keyPV, keyV1, renPV, renV1, hasKey, made_zero, hqe, heq, ha, hb, hba, hab, ha', hb', layG] <;> omega, by simp [boxesR, listsR, csR, renC, keyC, optK, fnd, envR, St.get, keyPV, keyV1, renPV, renV1, hasKey, made_zero, hqe, heq, ha, hb, hba, hab, ha', hb', layG] <;> omega⟩ (by simp [boxesR, listsR, csR, renC, keyC, optK, fnd, envR, St.get, keyPV, keyV1, renPV, renV1, hasKey, made_zero, hqe, heq, ha, hb, hba, hab, ha', hb', layG] <;> omega) (by first | rfl | (simp [renPV, renV1, renC, hqe, heq, ha, hb, hba, hab, ha', hb', layG]))
theorem movedF_c (d e : Nat) (hde : d ≠ e) (t : Tb) (g : Gm) (c : Ck) (hn : t.g.j.length ≤ 4194304) (hr : t.r.length ≤ 1048576) :
    PC Tryz.prog 63 [] [.a (tbL t), .a (gmL g), .a (ckC c), .c (.v (.bool false))] (.t [.a (tbC t (.o d) (.o e)), .c (.v (.bool false))])
      ⟨[], [(d, ⟨58, 3, t.g.j.map lineV, false, true⟩), (e, ⟨98, 4, t.r.map recV, false, true⟩)]⟩ := by
  have hed : e ≠ d := fun h => hde h.symm
  refine pc_of Tryz.func63 rfl (by kernel_rfl) _ Tryz.ntmps63 (by simp) ?_
  repeat' first
    | (first | simp -implicitDefEqProofs only [go_sem] | (refine And.intro ?_ ?_; omega) | (refine And.intro (shr_bd ?_ ?_) ?_; omega; omega) | refine sl_list rfl ?_ | refine sd_list rfl ?_ | refine sl_str ?_ | refine sd_str ?_)
    | refine callL2 (fun d e h => iCopyTable_c d e h t hn hr) rfl rfl rfl ?_
  exact fin_of (fun i => i) (fun i => if i = d then 12 else 1012) ⟨by simp [boxesR, listsR, csR, renC, keyC, optK, fnd, envR, St.get, keyPV, keyV1, renPV, renV1, hasKey, made_zero, hde, hed] <;> omega, by simp [boxesR, listsR, csR, renC, keyC, optK, fnd, envR, St.get, keyPV, keyV1, renPV, renV1, hasKey, made_zero, hde, hed] <;> omega, by simp [boxesR, listsR, csR, renC, keyC, optK, fnd, envR, St.get, keyPV, keyV1, renPV, renV1, hasKey, made_zero, hde, hed] <;> omega, by simp [boxesR, listsR, csR, renC, keyC, optK, fnd, envR, St.get, keyPV, keyV1, renPV, renV1, hasKey, made_zero, hde, hed] <;> omega, by simp [boxesR, listsR, csR, renC, keyC, optK, fnd, envR, St.get, keyPV, keyV1, renPV, renV1, hasKey, made_zero, hde, hed] <;> omega⟩ (by simp [boxesR, listsR, csR, renC, keyC, optK, fnd, envR, St.get, keyPV, keyV1, renPV, renV1, hasKey, made_zero, hde, hed] <;> omega) (by first | rfl | (simp [renPV, renV1, renC, hde, hed]))
end Go.Proofs.YtggejdgohkfmmaaGreat
namespace Go.Proofs.YtggejdgohkfmmaaGreat
open Go.PL
set_option linter.unusedSimpArgs false
/-- lists short enough to be copied -/
structure TbS (t : Tb) : Prop where
  x : pzIn t.g.x
  j : t.g.j.length ≤ 1048576
  r : t.r.length ≤ 1048576
theorem TbS.tb {t : Tb} (h : TbS t) : TbIn t := ⟨⟨h.x, by have := h.j; omega⟩, h.r⟩
def stepOk (t : Tb) : Bool := tableOk t && backOk t.g
def stepT (t : Tb) : Tb := if stepOk t = true then layG t (backR t.g) t.c else t
theorem stepT_len {t : Tb} (h : TbS t) : (stepT t).g.j.length ≤ 1048576 ∧ (stepT t).r.length ≤ 1048576 := by
  have h1 := backR_len (g := t.g)
  have h2 := h.j
  have h3 := h.r
  unfold stepT layG
  split
  · exact ⟨by simp only; omega, h3⟩
  · exact ⟨h2, h3⟩
set_option maxHeartbeats 2000000 in
theorem StepBack_c (d e : Nat) (hde : d ≠ e) (t : Tb) (ht : TbS t) : PC Tryz.prog 34 [] [.a (tbL t)] (.t [.a (tbC (stepT t) (.o d) (.o e)), .c (.v (.bool (stepOk t)))])
    ⟨[], [(d, ⟨58, 3, (stepT t).g.j.map lineV, false, true⟩), (e, ⟨98, 4, (stepT t).r.map recV, false, true⟩)]⟩ := by
  have hed : e ≠ d := fun h => hde h.symm
  have hj := ht.j
  have hr := ht.r
  refine pc_of Tryz.func34 rfl (by kernel_rfl) _ Tryz.ntmps34 (by simp) ?_
  repeat' first
    | (first | simp -implicitDefEqProofs only [go_sem] | (refine And.intro ?_ ?_; omega) | (refine And.intro (shr_bd ?_ ?_) ?_; omega; omega) | refine sl_list rfl ?_ | refine sd_list rfl ?_ | refine sl_str ?_ | refine sd_str ?_)
    | refine callL2 (fun d e h => l38Copy_c d e h t (by omega) hr) rfl rfl rfl ?_
  refine callS (TableOk_c t ht.tb) rfl rfl rfl ?_
  by_cases h : tableOk t = true
  · repeat' first
      | (first | simp -implicitDefEqProofs only [h, go_sem] | (refine And.intro ?_ ?_; omega) | (refine And.intro (shr_bd ?_ ?_) ?_; omega; omega) | refine sl_list rfl ?_ | refine sd_list rfl ?_ | refine sl_str ?_ | refine sd_str ?_)
      | refine callL1 (fun d => TakeBack_c d t.g ht.tb.g hj) rfl rfl rfl ?_
    by_cases h' : backOk t.g = true
    · have ho : stepOk t = true := by simp [stepOk, h, h']
      have e1 : stepT t = layG t (backR t.g) t.c := by simp [stepT, ho]
      (repeat' (first | simp -implicitDefEqProofs only [h', go_sem] | (refine And.intro ?_ ?_; omega) | (refine And.intro (shr_bd ?_ ?_) ?_; omega; omega) | refine sl_list rfl ?_ | refine sd_list rfl ?_ | refine sl_str ?_ | refine sd_str ?_))
      exact fin_of (fun i => i) (fun i => if i = d then 16 else 1008) ⟨by simp [boxesR, listsR, csR, renC, keyC, optK, fnd, envR, St.get, keyPV, keyV1, renPV, renV1, hasKey, made_zero, e1, ho, hde, hed, layG] <;> omega, by simp [boxesR, listsR, csR, renC, keyC, optK, fnd, envR, St.get, keyPV, keyV1, renPV, renV1, hasKey, made_zero, e1, ho, hde, hed, layG] <;> omega, by simp [boxesR, listsR, csR, renC, keyC, optK, fnd, envR, St.get, keyPV, keyV1, renPV, renV1, hasKey, made_zero, e1, ho, hde, hed, layG] <;> omega, by simp [boxesR, listsR, csR, renC, keyC, optK, fnd, envR, St.get, keyPV, keyV1, renPV, renV1, hasKey, made_zero, e1, ho, hde, hed, layG] <;> omega, by simp [boxesR, listsR, csR, renC, keyC, optK, fnd, envR, St.get, keyPV, keyV1, renPV, renV1, hasKey, made_zero, e1, ho, hde, hed, layG] <;> omega⟩ (by simp [boxesR, listsR, csR, renC, keyC, optK, fnd, envR, St.get, keyPV, keyV1, renPV, renV1, hasKey, made_zero, e1, ho, hde, hed, layG] <;> omega) (by first | rfl | (simp [renPV, renV1, renC, e1, ho, hde, hed, layG]))
    · have ho : stepOk t = false := by simp [stepOk, h']
      have e1 : stepT t = t := by simp [stepT, ho]
      (repeat' (first | simp -implicitDefEqProofs only [h', go_sem] | (refine And.intro ?_ ?_; omega) | (refine And.intro (shr_bd ?_ ?_) ?_; omega; omega) | refine sl_list rfl ?_ | refine sd_list rfl ?_ | refine sl_str ?_ | refine sd_str ?_))
      exact fin_of (fun i => i) (fun i => if i = d then 8 else 1008) ⟨by simp [boxesR, listsR, csR, renC, keyC, optK, fnd, envR, St.get, keyPV, keyV1, renPV, renV1, hasKey, made_zero, e1, ho, hde, hed] <;> omega, by simp [boxesR, listsR, csR, renC, keyC, optK, fnd, envR, St.get, keyPV, keyV1, renPV, renV1, hasKey, made_zero, e1, ho, hde, hed] <;> omega, by simp [boxesR, listsR, csR, renC, keyC, optK, fnd, envR, St.get, keyPV, keyV1, renPV, renV1, hasKey, made_zero, e1, ho, hde, hed] <;> omega, by simp [boxesR, listsR, csR, renC, keyC, optK, fnd, envR, St.get, keyPV, keyV1, renPV, renV1, hasKey, made_zero, e1, ho, hde, hed] <;> omega, by simp [boxesR, listsR, csR, renC, keyC, optK, fnd, envR, St.get, keyPV, keyV1, renPV, renV1, hasKey, made_zero, e1, ho, hde, hed] <;> omega⟩ (by simp [boxesR, listsR, csR, renC, keyC, optK, fnd, envR, St.get, keyPV, keyV1, renPV, renV1, hasKey, made_zero, e1, ho, hde, hed] <;> omega) (by first | rfl | (simp [renPV, renV1, renC, e1, ho, hde, hed]))
  · have ho : stepOk t = false := by simp [stepOk, h]
    have e1 : stepT t = t := by simp [stepT, ho]
    (repeat' (first | simp -implicitDefEqProofs only [h, go_sem] | (refine And.intro ?_ ?_; omega) | (refine And.intro (shr_bd ?_ ?_) ?_; omega; omega) | refine sl_list rfl ?_ | refine sd_list rfl ?_ | refine sl_str ?_ | refine sd_str ?_))
    exact fin_of (fun i => i) (fun i => if i = d then 8 else 1008) ⟨by simp [boxesR, listsR, csR, renC, keyC, optK, fnd, envR, St.get, keyPV, keyV1, renPV, renV1, hasKey, made_zero, e1, ho, hde, hed] <;> omega, by simp [boxesR, listsR, csR, renC, keyC, optK, fnd, envR, St.get, keyPV, keyV1, renPV, renV1, hasKey, made_zero, e1, ho, hde, hed] <;> omega, by simp [boxesR, listsR, csR, renC, keyC, optK, fnd, envR, St.get, keyPV, keyV1, renPV, renV1, hasKey, made_zero, e1, ho, hde, hed] <;> omega, by simp [boxesR, listsR, csR, renC, keyC, optK, fnd, envR, St.get, keyPV, keyV1, renPV, renV1, hasKey, made_zero, e1, ho, hde, hed] <;> omega, by simp [boxesR, listsR, csR, renC, keyC, optK, fnd, envR, St.get, keyPV, keyV1, renPV, renV1, hasKey, made_zero, e1, ho, hde, hed] <;> omega⟩ (by simp [boxesR, listsR, csR, renC, keyC, optK, fnd, envR, St.get, keyPV, keyV1, renPV, renV1, hasKey, made_zero, e1, ho, hde, hed] <;> omega) (by first | rfl | (simp [renPV, renV1, renC, e1, ho, hde, hed]))
set_option maxHeartbeats 2000000 in
theorem iStepBack_c (d e : Nat) (hde : d ≠ e) (t : Tb) (ht : TbS t) : PC Tryz.prog 25 [] [.a (tbL t)] (.t [.a (tbC (stepT t) (.o d) (.o e)), .c (.v (.bool (stepOk t)))])
    ⟨[], [(d, ⟨58, 3, (stepT t).g.j.map lineV, false, true⟩), (e, ⟨98, 4, (stepT t).r.map recV, false, true⟩)]⟩ := by
  have hed : e ≠ d := fun h => hde h.symm
  have hj := ht.j
  have hr := ht.r
  refine pc_of Tryz.func25 rfl (by kernel_rfl) _ Tryz.ntmps25 (by simp) ?_
  repeat' first
    | (first | simp -implicitDefEqProofs only [go_sem] | (refine And.intro ?_ ?_; omega) | (refine And.intro (shr_bd ?_ ?_) ?_; omega; omega) | refine sl_list rfl ?_ | refine sd_list rfl ?_ | refine sl_str ?_ | refine sd_str ?_)
    | refine callL1 (fun d => iTakeBack_c d t.g ht.tb.g hj) rfl rfl rfl ?_
  refine draw_stepY Tryz.pl_follows (by kernel_rfl) ?_
  by_cases h : tableOk t = true
  · by_cases h' : backOk t.g = true
    · have ho : stepOk t = true := by simp [stepOk, h, h']
      have e1 : stepT t = layG t (backR t.g) t.c := by simp [stepT, ho]
      repeat' first
        | (first | simp -implicitDefEqProofs only [h, h', go_sem] | (refine And.intro ?_ ?_; omega) | (refine And.intro (shr_bd ?_ ?_) ?_; omega; omega) | refine sl_list rfl ?_ | refine sd_list rfl ?_ | refine sl_str ?_ | refine sd_str ?_)
        | refine callS (iTableOk_c t ht.tb) rfl rfl rfl ?_
        | refine callI (movedT_c 9 1021 (by omega) t (backR t.g) t.c (by omega) hr) ⟨⟨rfl, rfl, rfl⟩, rfl, trivial⟩ rfl rfl rfl ?_
      exact fin_of (fun i => i) (fun i => if i = d then 9 else 1021) ⟨by simp [boxesR, listsR, csR, renC, keyC, optK, fnd, envR, St.get, keyPV, keyV1, renPV, renV1, hasKey, made_zero, e1, ho, hde, hed, layG] <;> omega, by simp [boxesR, listsR, csR, renC, keyC, optK, fnd, envR, St.get, keyPV, keyV1, renPV, renV1, hasKey, made_zero, e1, ho, hde, hed, layG] <;> omega, by simp [boxesR, listsR, csR, renC, keyC, optK, fnd, envR, St.get, keyPV, keyV1, renPV, renV1, hasKey, made_zero, e1, ho, hde, hed, layG] <;> omega, by simp [boxesR, listsR, csR, renC, keyC, optK, fnd, envR, St.get, keyPV, keyV1, renPV, renV1, hasKey, made_zero, e1, ho, hde, hed, layG] <;> omega, by simp [boxesR, listsR, csR, renC, keyC, optK, fnd, envR, St.get, keyPV, keyV1, renPV, renV1, hasKey, made_zero, e1, ho, hde, hed, layG] <;> omega⟩ (by simp [boxesR, listsR, csR, renC, keyC, optK, fnd, envR, St.get, keyPV, keyV1, renPV, renV1, hasKey, made_zero, e1, ho, hde, hed, layG] <;> omega) (by first | rfl | (simp [renPV, renV1, renC, e1, ho, hde, hed, layG]))
    · have ho : stepOk t = false := by simp [stepOk, h']
      have e1 : stepT t = t := by simp [stepT, ho]
      repeat' first
        | (first | simp -implicitDefEqProofs only [h, h', go_sem] | (refine And.intro ?_ ?_; omega) | (refine And.intro (shr_bd ?_ ?_) ?_; omega; omega) | refine sl_list rfl ?_ | refine sd_list rfl ?_ | refine sl_str ?_ | refine sd_str ?_)
        | refine callS (iTableOk_c t ht.tb) rfl rfl rfl ?_
        | refine callL2 (fun d e h => movedF_c d e h t (backR t.g) t.c (by omega) hr) rfl rfl rfl ?_
      exact fin_of (fun i => i) (fun i => if i = d then 21 else 1021) ⟨by simp [boxesR, listsR, csR, renC, keyC, optK, fnd, envR, St.get, keyPV, keyV1, renPV, renV1, hasKey, made_zero, e1, ho, hde, hed] <;> omega, by simp [boxesR, listsR, csR, renC, keyC, optK, fnd, envR, St.get, keyPV, keyV1, renPV, renV1, hasKey, made_zero, e1, ho, hde, hed] <;> omega, by simp [boxesR, listsR, csR, renC, keyC, optK, fnd, envR, St.get, keyPV, keyV1, renPV, renV1, hasKey, made_zero, e1, ho, hde, hed] <;> omega, by simp [boxesR, listsR, csR, renC, keyC, optK, fnd, envR, St.get, keyPV, keyV1, renPV, renV1, hasKey, made_zero, e1, ho, hde, hed] <;> omega, by simp [boxesR, listsR, csR, renC, keyC, optK, fnd, envR, St.get, keyPV, keyV1, renPV, renV1, hasKey, made_zero, e1, ho, hde, hed] <;> omega⟩ (by simp [boxesR, listsR, csR, renC, keyC, optK, fnd, envR, St.get, keyPV, keyV1, renPV, renV1, hasKey, made_zero, e1, ho, hde, hed] <;> omega) (by first | rfl | (simp [renPV, renV1, renC, e1, ho, hde, hed]))
  · have ho : stepOk t = false := by simp [stepOk, h]
    have e1 : stepT t = t := by simp [stepT, ho]
    repeat' first
      | (first | simp -implicitDefEqProofs only [h, go_sem] | (refine And.intro ?_ ?_; omega) | (refine And.intro (shr_bd ?_ ?_) ?_; omega; omega) | refine sl_list rfl ?_ | refine sd_list rfl ?_ | refine sl_str ?_ | refine sd_str ?_)
      | refine callS (iTableOk_c t ht.tb) rfl rfl rfl ?_
      | refine callL2 (fun d e h => movedF_c d e h t (backR t.g) t.c (by omega) hr) rfl rfl rfl ?_
    exact fin_of (fun i => i) (fun i => if i = d then 21 else 1021) ⟨by simp [boxesR, listsR, csR, renC, keyC, optK, fnd, envR, St.get, keyPV, keyV1, renPV, renV1, hasKey, made_zero, e1, ho, hde, hed] <;> omega, by simp [boxesR, listsR, csR, renC, keyC, optK, fnd, envR, St.get, keyPV, keyV1, renPV, renV1, hasKey, made_zero, e1, ho, hde, hed] <;> omega, by simp [boxesR, listsR, csR, renC, keyC, optK, fnd, envR, St.get, keyPV, keyV1, renPV, renV1, hasKey, made_zero, e1, ho, hde, hed] <;> omega, by simp [boxesR, listsR, csR, renC, keyC, optK, fnd, envR, St.get, keyPV, keyV1, renPV, renV1, hasKey, made_zero, e1, ho, hde, hed] <;> omega, by simp [boxesR, listsR, csR, renC, keyC, optK, fnd, envR, St.get, keyPV, keyV1, renPV, renV1, hasKey, made_zero, e1, ho, hde, hed] <;> omega⟩ (by simp [boxesR, listsR, csR, renC, keyC, optK, fnd, envR, St.get, keyPV, keyV1, renPV, renV1, hasKey, made_zero, e1, ho, hde, hed] <;> omega) (by first | rfl | (simp [renPV, renV1, renC, e1, ho, hde, hed]))
def playOk (t : Tb) (l : Ln) (s : Int) : Bool := tableOk t && (makeOk t.g l && tickOk t.c s)
def playT (t : Tb) (l : Ln) (s : Int) : Tb := if playOk t l s = true then layG t (makeG t.g l) (tickC t.c s) else t
theorem playT_len {t : Tb} {l : Ln} {s : Int} (h : TbS t) : (playT t l s).g.j.length ≤ 1048577 ∧ (playT t l s).r.length ≤ 1048576 := by
  have h1 := makeG_len (g := t.g) (l := l) h.j
  have h2 := h.j
  have h3 := h.r
  unfold playT layG
  split
  · exact ⟨by simp only; omega, h3⟩
  · exact ⟨by omega, h3⟩
set_option maxHeartbeats 4000000 in
theorem PlayJump_c (d e : Nat) (hde : d ≠ e) (t : Tb) (l : Ln) (s : Int) (ht : TbS t) : PC Tryz.prog 32 [] [.a (tbL t), .a (lineC l), .c (.v (.int .i64 s))] (.t [.a (tbC (playT t l s) (.o d) (.o e)), .c (.v (.bool (playOk t l s)))])
    ⟨[], [(d, ⟨58, 3, (playT t l s).g.j.map lineV, false, true⟩), (e, ⟨98, 4, (playT t l s).r.map recV, false, true⟩)]⟩ := by
  have hed : e ≠ d := fun h => hde h.symm
  have hj := ht.j
  have hr := ht.r
  refine pc_of Tryz.func32 rfl (by kernel_rfl) _ Tryz.ntmps32 (by simp) ?_
  repeat' first
    | (first | simp -implicitDefEqProofs only [go_sem] | (refine And.intro ?_ ?_; omega) | (refine And.intro (shr_bd ?_ ?_) ?_; omega; omega) | refine sl_list rfl ?_ | refine sd_list rfl ?_ | refine sl_str ?_ | refine sd_str ?_)
    | refine callL2 (fun d e h => l38Copy_c d e h t (by omega) hr) rfl rfl rfl ?_
  refine callS (TableOk_c t ht.tb) rfl rfl rfl ?_
  by_cases h : tableOk t = true
  · repeat' first
      | (first | simp -implicitDefEqProofs only [h, go_sem] | (refine And.intro ?_ ?_; omega) | (refine And.intro (shr_bd ?_ ?_) ?_; omega; omega) | refine sl_list rfl ?_ | refine sd_list rfl ?_ | refine sl_str ?_ | refine sd_str ?_)
      | refine callL1 (fun d => MakeJump_c d t.g l ht.tb.g hj) rfl rfl rfl ?_
      | refine callS (TickClock_c t.c s) rfl rfl rfl ?_
    by_cases h1 : makeOk t.g l = true
    · by_cases h2 : tickOk t.c s = true
      · have ho : playOk t l s = true := by simp [playOk, h, h1, h2]
        have e1 : playT t l s = layG t (makeG t.g l) (tickC t.c s) := by simp [playT, ho]
        (repeat' (first | simp -implicitDefEqProofs only [h1, h2, go_sem] | (refine And.intro ?_ ?_; omega) | (refine And.intro (shr_bd ?_ ?_) ?_; omega; omega) | refine sl_list rfl ?_ | refine sd_list rfl ?_ | refine sl_str ?_ | refine sd_str ?_))
        exact fin_of (fun i => i) (fun i => if i = d then 23 else 1014) ⟨by simp [boxesR, listsR, csR, renC, keyC, optK, fnd, envR, St.get, keyPV, keyV1, renPV, renV1, hasKey, made_zero, e1, ho, hde, hed, layG] <;> omega, by simp [boxesR, listsR, csR, renC, keyC, optK, fnd, envR, St.get, keyPV, keyV1, renPV, renV1, hasKey, made_zero, e1, ho, hde, hed, layG] <;> omega, by simp [boxesR, listsR, csR, renC, keyC, optK, fnd, envR, St.get, keyPV, keyV1, renPV, renV1, hasKey, made_zero, e1, ho, hde, hed, layG] <;> omega, by simp [boxesR, listsR, csR, renC, keyC, optK, fnd, envR, St.get, keyPV, keyV1, renPV, renV1, hasKey, made_zero, e1, ho, hde, hed, layG] <;> omega, by simp [boxesR, listsR, csR, renC, keyC, optK, fnd, envR, St.get, keyPV, keyV1, renPV, renV1, hasKey, made_zero, e1, ho, hde, hed, layG] <;> omega⟩ (by simp [boxesR, listsR, csR, renC, keyC, optK, fnd, envR, St.get, keyPV, keyV1, renPV, renV1, hasKey, made_zero, e1, ho, hde, hed, layG] <;> omega) (by first | rfl | (simp [renPV, renV1, renC, e1, ho, hde, hed, layG]))
      · have ho : playOk t l s = false := by simp [playOk, h2]
        have e1 : playT t l s = t := by simp [playT, ho]
        (repeat' (first | simp -implicitDefEqProofs only [h1, h2, go_sem] | (refine And.intro ?_ ?_; omega) | (refine And.intro (shr_bd ?_ ?_) ?_; omega; omega) | refine sl_list rfl ?_ | refine sd_list rfl ?_ | refine sl_str ?_ | refine sd_str ?_))
        exact fin_of (fun i => i) (fun i => if i = d then 14 else 1014) ⟨by simp [boxesR, listsR, csR, renC, keyC, optK, fnd, envR, St.get, keyPV, keyV1, renPV, renV1, hasKey, made_zero, e1, ho, hde, hed] <;> omega, by simp [boxesR, listsR, csR, renC, keyC, optK, fnd, envR, St.get, keyPV, keyV1, renPV, renV1, hasKey, made_zero, e1, ho, hde, hed] <;> omega, by simp [boxesR, listsR, csR, renC, keyC, optK, fnd, envR, St.get, keyPV, keyV1, renPV, renV1, hasKey, made_zero, e1, ho, hde, hed] <;> omega, by simp [boxesR, listsR, csR, renC, keyC, optK, fnd, envR, St.get, keyPV, keyV1, renPV, renV1, hasKey, made_zero, e1, ho, hde, hed] <;> omega, by simp [boxesR, listsR, csR, renC, keyC, optK, fnd, envR, St.get, keyPV, keyV1, renPV, renV1, hasKey, made_zero, e1, ho, hde, hed] <;> omega⟩ (by simp [boxesR, listsR, csR, renC, keyC, optK, fnd, envR, St.get, keyPV, keyV1, renPV, renV1, hasKey, made_zero, e1, ho, hde, hed] <;> omega) (by first | rfl | (simp [renPV, renV1, renC, e1, ho, hde, hed]))
    · have ho : playOk t l s = false := by simp [playOk, h1]
      have e1 : playT t l s = t := by simp [playT, ho]
      (repeat' (first | simp -implicitDefEqProofs only [h1, go_sem] | (refine And.intro ?_ ?_; omega) | (refine And.intro (shr_bd ?_ ?_) ?_; omega; omega) | refine sl_list rfl ?_ | refine sd_list rfl ?_ | refine sl_str ?_ | refine sd_str ?_))
      exact fin_of (fun i => i) (fun i => if i = d then 14 else 1014) ⟨by simp [boxesR, listsR, csR, renC, keyC, optK, fnd, envR, St.get, keyPV, keyV1, renPV, renV1, hasKey, made_zero, e1, ho, hde, hed] <;> omega, by simp [boxesR, listsR, csR, renC, keyC, optK, fnd, envR, St.get, keyPV, keyV1, renPV, renV1, hasKey, made_zero, e1, ho, hde, hed] <;> omega, by simp [boxesR, listsR, csR, renC, keyC, optK, fnd, envR, St.get, keyPV, keyV1, renPV, renV1, hasKey, made_zero, e1, ho, hde, hed] <;> omega, by simp [boxesR, listsR, csR, renC, keyC, optK, fnd, envR, St.get, keyPV, keyV1, renPV, renV1, hasKey, made_zero, e1, ho, hde, hed] <;> omega, by simp [boxesR, listsR, csR, renC, keyC, optK, fnd, envR, St.get, keyPV, keyV1, renPV, renV1, hasKey, made_zero, e1, ho, hde, hed] <;> omega⟩ (by simp [boxesR, listsR, csR, renC, keyC, optK, fnd, envR, St.get, keyPV, keyV1, renPV, renV1, hasKey, made_zero, e1, ho, hde, hed] <;> omega) (by first | rfl | (simp [renPV, renV1, renC, e1, ho, hde, hed]))
  · have ho : playOk t l s = false := by simp [playOk, h]
    have e1 : playT t l s = t := by simp [playT, ho]
    (repeat' (first | simp -implicitDefEqProofs only [h, go_sem] | (refine And.intro ?_ ?_; omega) | (refine And.intro (shr_bd ?_ ?_) ?_; omega; omega) | refine sl_list rfl ?_ | refine sd_list rfl ?_ | refine sl_str ?_ | refine sd_str ?_))
    exact fin_of (fun i => i) (fun i => if i = d then 14 else 1014) ⟨by simp [boxesR, listsR, csR, renC, keyC, optK, fnd, envR, St.get, keyPV, keyV1, renPV, renV1, hasKey, made_zero, e1, ho, hde, hed] <;> omega, by simp [boxesR, listsR, csR, renC, keyC, optK, fnd, envR, St.get, keyPV, keyV1, renPV, renV1, hasKey, made_zero, e1, ho, hde, hed] <;> omega, by simp [boxesR, listsR, csR, renC, keyC, optK, fnd, envR, St.get, keyPV, keyV1, renPV, renV1, hasKey, made_zero, e1, ho, hde, hed] <;> omega, by simp [boxesR, listsR, csR, renC, keyC, optK, fnd, envR, St.get, keyPV, keyV1, renPV, renV1, hasKey, made_zero, e1, ho, hde, hed] <;> omega, by simp [boxesR, listsR, csR, renC, keyC, optK, fnd, envR, St.get, keyPV, keyV1, renPV, renV1, hasKey, made_zero, e1, ho, hde, hed] <;> omega⟩ (by simp [boxesR, listsR, csR, renC, keyC, optK, fnd, envR, St.get, keyPV, keyV1, renPV, renV1, hasKey, made_zero, e1, ho, hde, hed] <;> omega) (by first | rfl | (simp [renPV, renV1, renC, e1, ho, hde, hed]))
set_option maxHeartbeats 4000000 in
theorem iPlayJump_c (d e : Nat) (hde : d ≠ e) (t : Tb) (l : Ln) (s : Int) (ht : TbS t) : PC Tryz.prog 23 [] [.a (tbL t), .a (lineC l), .c (.v (.int .i64 s))] (.t [.a (tbC (playT t l s) (.o d) (.o e)), .c (.v (.bool (playOk t l s)))])
    ⟨[], [(d, ⟨58, 3, (playT t l s).g.j.map lineV, false, true⟩), (e, ⟨98, 4, (playT t l s).r.map recV, false, true⟩)]⟩ := by
  have hed : e ≠ d := fun h => hde h.symm
  have hj := ht.j
  have hr := ht.r
  refine pc_of Tryz.func23 rfl (by kernel_rfl) _ Tryz.ntmps23 (by simp) ?_
  repeat' first
    | (first | simp -implicitDefEqProofs only [go_sem] | (refine And.intro ?_ ?_; omega) | (refine And.intro (shr_bd ?_ ?_) ?_; omega; omega) | refine sl_list rfl ?_ | refine sd_list rfl ?_ | refine sl_str ?_ | refine sd_str ?_)
    | refine callL1 (fun d => iMakeJump_c d t.g l ht.tb.g hj) rfl rfl rfl ?_
    | refine callS (iTickClock_c t.c s) rfl rfl rfl ?_
  refine draw_stepY Tryz.pl_follows (by kernel_rfl) ?_
  by_cases h : playOk t l s = true
  · have e1 : playT t l s = layG t (makeG t.g l) (tickC t.c s) := by simp [playT, h]
    have h' := h
    simp only [playOk, Bool.and_eq_true] at h'
    obtain ⟨h1, h2, h3⟩ := h'
    repeat' first
      | (first | simp -implicitDefEqProofs only [h1, h2, h3, go_sem] | (refine And.intro ?_ ?_; omega) | (refine And.intro (shr_bd ?_ ?_) ?_; omega; omega) | refine sl_list rfl ?_ | refine sd_list rfl ?_ | refine sl_str ?_ | refine sd_str ?_)
      | refine callS (iTableOk_c t ht.tb) rfl rfl rfl ?_
      | refine callI (movedT_c 16 1037 (by omega) t (makeG t.g l) (tickC t.c s) (by omega) hr) ⟨⟨rfl, rfl, rfl⟩, rfl, trivial⟩ rfl rfl rfl ?_
    exact fin_of (fun i => i) (fun i => if i = d then 16 else 1037) ⟨by simp [boxesR, listsR, csR, renC, keyC, optK, fnd, envR, St.get, keyPV, keyV1, renPV, renV1, hasKey, made_zero, e1, h, hde, hed, layG] <;> omega, by simp [boxesR, listsR, csR, renC, keyC, optK, fnd, envR, St.get, keyPV, keyV1, renPV, renV1, hasKey, made_zero, e1, h, hde, hed, layG] <;> omega, by simp [boxesR, listsR, csR, renC, keyC, optK, fnd, envR, St.get, keyPV, keyV1, renPV, renV1, hasKey, made_zero, e1, h, hde, hed, layG] <;> omega, by simp [boxesR, listsR, csR, renC, keyC, optK, fnd, envR, St.get, keyPV, keyV1, renPV, renV1, hasKey, made_zero, e1, h, hde, hed, layG] <;> omega, by simp [boxesR, listsR, csR, renC, keyC, optK, fnd, envR, St.get, keyPV, keyV1, renPV, renV1, hasKey, made_zero, e1, h, hde, hed, layG] <;> omega⟩ (by simp [boxesR, listsR, csR, renC, keyC, optK, fnd, envR, St.get, keyPV, keyV1, renPV, renV1, hasKey, made_zero, e1, h, hde, hed, layG] <;> omega) (by first | rfl | (simp [renPV, renV1, renC, e1, h, hde, hed, layG]))
  · have e1 : playT t l s = t := by simp [playT, h]
    have hf : (tableOk t && (makeOk t.g l && tickOk t.c s)) = false := by simpa [playOk] using h
    by_cases h1 : tableOk t = true
    · by_cases h2 : makeOk t.g l = true
      · have h3 : tickOk t.c s = false := by simpa [h1, h2] using hf
        repeat' first
          | (first | simp -implicitDefEqProofs only [h1, h2, h3, go_sem] | (refine And.intro ?_ ?_; omega) | (refine And.intro (shr_bd ?_ ?_) ?_; omega; omega) | refine sl_list rfl ?_ | refine sd_list rfl ?_ | refine sl_str ?_ | refine sd_str ?_)
          | refine callS (iTableOk_c t ht.tb) rfl rfl rfl ?_
          | refine callL2 (fun d e h => movedF_c d e h t (makeG t.g l) (tickC t.c s) (by omega) hr) rfl rfl rfl ?_
        exact fin_of (fun i => i) (fun i => if i = d then 37 else 1037) ⟨by simp [boxesR, listsR, csR, renC, keyC, optK, fnd, envR, St.get, keyPV, keyV1, renPV, renV1, hasKey, made_zero, e1, h, hde, hed] <;> omega, by simp [boxesR, listsR, csR, renC, keyC, optK, fnd, envR, St.get, keyPV, keyV1, renPV, renV1, hasKey, made_zero, e1, h, hde, hed] <;> omega, by simp [boxesR, listsR, csR, renC, keyC, optK, fnd, envR, St.get, keyPV, keyV1, renPV, renV1, hasKey, made_zero, e1, h, hde, hed] <;> omega, by simp [boxesR, listsR, csR, renC, keyC, optK, fnd, envR, St.get, keyPV, keyV1, renPV, renV1, hasKey, made_zero, e1, h, hde, hed] <;> omega, by simp [boxesR, listsR, csR, renC, keyC, optK, fnd, envR, St.get, keyPV, keyV1, renPV, renV1, hasKey, made_zero, e1, h, hde, hed] <;> omega⟩ (by simp [boxesR, listsR, csR, renC, keyC, optK, fnd, envR, St.get, keyPV, keyV1, renPV, renV1, hasKey, made_zero, e1, h, hde, hed] <;> omega) (by first | rfl | (simp [renPV, renV1, renC, e1, h, hde, hed]))
      · repeat' first
          | (first | simp -implicitDefEqProofs only [h1, h2, go_sem] | (refine And.intro ?_ ?_; omega) | (refine And.intro (shr_bd ?_ ?_) ?_; omega; omega) | refine sl_list rfl ?_ | refine sd_list rfl ?_ | refine sl_str ?_ | refine sd_str ?_)
          | refine callS (iTableOk_c t ht.tb) rfl rfl rfl ?_
          | refine callL2 (fun d e h => movedF_c d e h t (makeG t.g l) (tickC t.c s) (by omega) hr) rfl rfl rfl ?_
        exact fin_of (fun i => i) (fun i => if i = d then 37 else 1037) ⟨by simp [boxesR, listsR, csR, renC, keyC, optK, fnd, envR, St.get, keyPV, keyV1, renPV, renV1, hasKey, made_zero, e1, h, hde, hed] <;> omega, by simp [boxesR, listsR, csR, renC, keyC, optK, fnd, envR, St.get, keyPV, keyV1, renPV, renV1, hasKey, made_zero, e1, h, hde, hed] <;> omega, by simp [boxesR, listsR, csR, renC, keyC, optK, fnd, envR, St.get, keyPV, keyV1, renPV, renV1, hasKey, made_zero, e1, h, hde, hed] <;> omega, by simp [boxesR, listsR, csR, renC, keyC, optK, fnd, envR, St.get, keyPV, keyV1, renPV, renV1, hasKey, made_zero, e1, h, hde, hed] <;> omega, by simp [boxesR, listsR, csR, renC, keyC, optK, fnd, envR, St.get, keyPV, keyV1, renPV, renV1, hasKey, made_zero, e1, h, hde, hed] <;> omega⟩ (by simp [boxesR, listsR, csR, renC, keyC, optK, fnd, envR, St.get, keyPV, keyV1, renPV, renV1, hasKey, made_zero, e1, h, hde, hed] <;> omega) (by first | rfl | (simp [renPV, renV1, renC, e1, h, hde, hed]))
    · repeat' first
        | (first | simp -implicitDefEqProofs only [h1, go_sem] | (refine And.intro ?_ ?_; omega) | (refine And.intro (shr_bd ?_ ?_) ?_; omega; omega) | refine sl_list rfl ?_ | refine sd_list rfl ?_ | refine sl_str ?_ | refine sd_str ?_)
        | refine callS (iTableOk_c t ht.tb) rfl rfl rfl ?_
        | refine callL2 (fun d e h => movedF_c d e h t (makeG t.g l) (tickC t.c s) (by omega) hr) rfl rfl rfl ?_
      exact fin_of (fun i => i) (fun i => if i = d then 37 else 1037) ⟨by simp [boxesR, listsR, csR, renC, keyC, optK, fnd, envR, St.get, keyPV, keyV1, renPV, renV1, hasKey, made_zero, e1, h, hde, hed] <;> omega, by simp [boxesR, listsR, csR, renC, keyC, optK, fnd, envR, St.get, keyPV, keyV1, renPV, renV1, hasKey, made_zero, e1, h, hde, hed] <;> omega, by simp [boxesR, listsR, csR, renC, keyC, optK, fnd, envR, St.get, keyPV, keyV1, renPV, renV1, hasKey, made_zero, e1, h, hde, hed] <;> omega, by simp [boxesR, listsR, csR, renC, keyC, optK, fnd, envR, St.get, keyPV, keyV1, renPV, renV1, hasKey, made_zero, e1, h, hde, hed] <;> omega, by simp [boxesR, listsR, csR, renC, keyC, optK, fnd, envR, St.get, keyPV, keyV1, renPV, renV1, hasKey, made_zero, e1, h, hde, hed] <;> omega⟩ (by simp [boxesR, listsR, csR, renC, keyC, optK, fnd, envR, St.get, keyPV, keyV1, renPV, renV1, hasKey, made_zero, e1, h, hde, hed] <;> omega) (by first | rfl | (simp [renPV, renV1, renC, e1, h, hde, hed]))
end Go.Proofs.YtggejdgohkfmmaaGreat
