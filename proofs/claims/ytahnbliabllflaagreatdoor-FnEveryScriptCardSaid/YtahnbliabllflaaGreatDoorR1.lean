/-
  What the functions compute that let a clock tick, copy a table and lay a new game and clock into it.
  What the functions compute that play a jump on a table and take one back.
  What the functions compute that list the jumps, the good jumps, and give a hint.
-/
import Derived.Test.YtahnbliabllflaaGreatDoorV1
import Derived.Test.YtahnbliabllflaaGreatDoorL2
import Derived.Test.YtahnbliabllflaaGreatDoorP2
import Derived.Test.YtahnbliabllflaaGreatDoorU1
namespace Go.Proofs.YtahnbliabllflaaGreatDoor
open Go.PL
set_option linter.unusedSimpArgs false
theorem clockOk_bd {c : Ck} (h : clockOk c = true) : 0 ≤ c.a ∧ c.a ≤ 100000 ∧ 0 ≤ c.b ∧ c.b ≤ 600 ∧ 0 ≤ c.c ∧ c.c ≤ 1000 := by
  simp only [clockOk, Bool.and_eq_true, within_iff] at h
  omega
def tickd (c : Ck) (s : Int) : Ck := ⟨c.a - s + c.b, c.b, c.c + 1⟩
def tickOk (c : Ck) (s : Int) : Bool := clockOk c && (within s 0 c.a && clockOk (tickd c s))
def tickC (c : Ck) (s : Int) : Ck := if tickOk c s = true then tickd c s else c
set_option maxHeartbeats 1000000 in
theorem TickClock_c (c : Ck) (s : Int) : PC Tryz.prog 130 [] [.a (ckC c), .c (.v (.int .i64 s))] (.t [.a (ckC (tickC c s)), .c (.v (.bool (tickOk c s)))]) ⟨[], []⟩ := by
  refine pc_of Tryz.func130 rfl (by kernel_rfl) _ Tryz.ntmps130 (by simp) ?_
  (repeat' (first | simp -implicitDefEqProofs only [go_sem] | (refine And.intro ?_ ?_; omega) | (refine And.intro (shr_bd ?_ ?_) ?_; omega; omega) | refine sl_list rfl ?_ | refine sd_list rfl ?_ | refine sl_str ?_ | refine sd_str ?_))
  refine callS (ClockOk_c c) rfl rfl rfl ?_
  by_cases h1 : clockOk c = true
  · obtain ⟨a0, a1, b0, b1, c0, c1⟩ := clockOk_bd h1
    (repeat' (first | simp -implicitDefEqProofs only [h1, go_sem] | (refine And.intro ?_ ?_; omega) | (refine And.intro (shr_bd ?_ ?_) ?_; omega; omega) | refine sl_list rfl ?_ | refine sd_list rfl ?_ | refine sl_str ?_ | refine sd_str ?_))
    refine callS (l01In_c _ _ _) rfl rfl rfl ?_
    by_cases h2 : within s 0 c.a = true
    · obtain ⟨s0, s1⟩ := within_iff.1 h2
      (repeat' (first | simp -implicitDefEqProofs only [h2, go_sem] | (refine And.intro ?_ ?_; omega) | (refine And.intro (shr_bd ?_ ?_) ?_; omega; omega) | refine sl_list rfl ?_ | refine sd_list rfl ?_ | refine sl_str ?_ | refine sd_str ?_))
      refine callS (ClockOk_c (tickd c s)) rfl rfl rfl ?_
      by_cases h3 : clockOk (tickd c s) = true
      · have e : tickOk c s = true := by simp [tickOk, h1, h2, h3]
        (repeat' (first | simp -implicitDefEqProofs only [h3, go_sem] | (refine And.intro ?_ ?_; omega) | (refine And.intro (shr_bd ?_ ?_) ?_; omega; omega) | refine sl_list rfl ?_ | refine sd_list rfl ?_ | refine sl_str ?_ | refine sd_str ?_))
        exact fin_scal rfl (by simp [tickC, e, tickd, retOf])
      · have e : tickOk c s = false := by simp [tickOk, h3]
        (repeat' (first | simp -implicitDefEqProofs only [h3, go_sem] | (refine And.intro ?_ ?_; omega) | (refine And.intro (shr_bd ?_ ?_) ?_; omega; omega) | refine sl_list rfl ?_ | refine sd_list rfl ?_ | refine sl_str ?_ | refine sd_str ?_))
        exact fin_scal rfl (by simp [tickC, e, retOf])
    · have e : tickOk c s = false := by simp [tickOk, h2]
      (repeat' (first | simp -implicitDefEqProofs only [h2, go_sem] | (refine And.intro ?_ ?_; omega) | (refine And.intro (shr_bd ?_ ?_) ?_; omega; omega) | refine sl_list rfl ?_ | refine sd_list rfl ?_ | refine sl_str ?_ | refine sd_str ?_))
      exact fin_scal rfl (by simp [tickC, e, retOf])
  · have e : tickOk c s = false := by simp [tickOk, h1]
    (repeat' (first | simp -implicitDefEqProofs only [h1, go_sem] | (refine And.intro ?_ ?_; omega) | (refine And.intro (shr_bd ?_ ?_) ?_; omega; omega) | refine sl_list rfl ?_ | refine sd_list rfl ?_ | refine sl_str ?_ | refine sd_str ?_))
    exact fin_scal rfl (by simp [tickC, e, retOf])
set_option maxHeartbeats 1000000 in
theorem iTickClock_c (c : Ck) (s : Int) : PC Tryz.prog 117 [] [.a (ckC c), .c (.v (.int .i64 s))] (.t [.a (ckC (tickC c s)), .c (.v (.bool (tickOk c s)))]) ⟨[], []⟩ := by
  refine pc_of Tryz.func117 rfl (by kernel_rfl) _ Tryz.ntmps117 (by simp) ?_
  (repeat' (first | simp -implicitDefEqProofs only [go_sem] | (refine And.intro ?_ ?_; omega) | (refine And.intro (shr_bd ?_ ?_) ?_; omega; omega) | refine sl_list rfl ?_ | refine sd_list rfl ?_ | refine sl_str ?_ | refine sd_str ?_))
  refine callS (iClockOk_c c) rfl rfl rfl ?_
  by_cases h1 : clockOk c = true
  · obtain ⟨a0, a1, b0, b1, c0, c1⟩ := clockOk_bd h1
    (repeat' (first | simp -implicitDefEqProofs only [h1, go_sem] | (refine And.intro ?_ ?_; omega) | (refine And.intro (shr_bd ?_ ?_) ?_; omega; omega) | refine sl_list rfl ?_ | refine sd_list rfl ?_ | refine sl_str ?_ | refine sd_str ?_))
    refine callS (within_c _ _ _) rfl rfl rfl ?_
    by_cases h2 : within s 0 100000 = true
    · obtain ⟨s0, s1⟩ := within_iff.1 h2
      by_cases h4 : c.a < s
      · have e : tickOk c s = false := by
          have : within s 0 c.a = false := within_not.2 (by omega)
          simp [tickOk, this]
        (repeat' (first | simp -implicitDefEqProofs only [h2, h4, go_sem] | (refine And.intro ?_ ?_; omega) | (refine And.intro (shr_bd ?_ ?_) ?_; omega; omega) | refine sl_list rfl ?_ | refine sd_list rfl ?_ | refine sl_str ?_ | refine sd_str ?_))
        exact fin_scal rfl (by simp [tickC, e, retOf])
      · have h5 : within s 0 c.a = true := within_iff.2 (by omega)
        (repeat' (first | simp -implicitDefEqProofs only [h2, h4, go_sem] | (refine And.intro ?_ ?_; omega) | (refine And.intro (shr_bd ?_ ?_) ?_; omega; omega) | refine sl_list rfl ?_ | refine sd_list rfl ?_ | refine sl_str ?_ | refine sd_str ?_))
        refine callS (iClockOk_c (tickd c s)) rfl rfl rfl ?_
        by_cases h3 : clockOk (tickd c s) = true
        · have e : tickOk c s = true := by simp [tickOk, h1, h5, h3]
          (repeat' (first | simp -implicitDefEqProofs only [h3, go_sem] | (refine And.intro ?_ ?_; omega) | (refine And.intro (shr_bd ?_ ?_) ?_; omega; omega) | refine sl_list rfl ?_ | refine sd_list rfl ?_ | refine sl_str ?_ | refine sd_str ?_))
          exact fin_scal rfl (by simp [tickC, e, tickd, retOf])
        · have e : tickOk c s = false := by simp [tickOk, h3]
          (repeat' (first | simp -implicitDefEqProofs only [h3, go_sem] | (refine And.intro ?_ ?_; omega) | (refine And.intro (shr_bd ?_ ?_) ?_; omega; omega) | refine sl_list rfl ?_ | refine sd_list rfl ?_ | refine sl_str ?_ | refine sd_str ?_))
          exact fin_scal rfl (by simp [tickC, e, retOf])
    · have e : tickOk c s = false := by
        have : within s 0 c.a = false := within_not.2 (fun h => h2 (within_iff.2 (by omega)))
        simp [tickOk, this]
      (repeat' (first | simp -implicitDefEqProofs only [h2, go_sem] | (refine And.intro ?_ ?_; omega) | (refine And.intro (shr_bd ?_ ?_) ?_; omega; omega) | refine sl_list rfl ?_ | refine sd_list rfl ?_ | refine sl_str ?_ | refine sd_str ?_))
      exact fin_scal rfl (by simp [tickC, e, retOf])
  · have e : tickOk c s = false := by simp [tickOk, h1]
    (repeat' (first | simp -implicitDefEqProofs only [h1, go_sem] | (refine And.intro ?_ ?_; omega) | (refine And.intro (shr_bd ?_ ?_) ?_; omega; omega) | refine sl_list rfl ?_ | refine sd_list rfl ?_ | refine sl_str ?_ | refine sd_str ?_))
    exact fin_scal rfl (by simp [tickC, e, retOf])
theorem iCopyTable_c (d e : Nat) (hde : d ≠ e) (t : Tb) (hn : t.g.j.length ≤ 4194304) (hr : t.r.length ≤ 1048576) : PC Tryz.prog 51 [] [.a (tbL t)] (.s (.a (tbC t (.o d) (.o e)))) ⟨[], [(d, ⟨86, 3, t.g.j.map lineV, false, true⟩), (e, ⟨140, 4, t.r.map recV, false, true⟩)]⟩ := by
  have hed : e ≠ d := fun h => hde h.symm
  refine pc_of Tryz.func51 rfl (by kernel_rfl) _ Tryz.ntmps51 (by simp) ?_
  repeat' first
    | (first | simp -implicitDefEqProofs only [go_sem] | (refine And.intro ?_ ?_; omega) | (refine And.intro (shr_bd ?_ ?_) ?_; omega; omega) | refine sl_list rfl ?_ | refine sd_list rfl ?_ | refine sl_str ?_ | refine sd_str ?_)
    | refine callL1 (fun d => iCopyGame_c d t.g hn) rfl rfl rfl ?_
    | refine callL1 (fun d => copyRecords_c d t.r hr) rfl rfl rfl ?_
  exact fin_of (fun i => i) (fun i => if i = d then 5 else 9) ⟨by simp [hde, hed] <;> omega, by simp [hde, hed] <;> omega, by simp [hde, hed] <;> omega, by simp [hde, hed] <;> omega, by simp [hde, hed] <;> omega⟩ (by simp [hde, hed] <;> omega) (by first | rfl | (simp [renPV, renV1, renC, hde, hed]))
theorem l38Copy_c (d e : Nat) (hde : d ≠ e) (t : Tb) (hn : t.g.j.length ≤ 4194304) (hr : t.r.length ≤ 1048576) : PC Tryz.prog 64 [] [.a (tbL t)] (.s (.a (tbC t (.o d) (.o e)))) ⟨[], [(d, ⟨86, 3, t.g.j.map lineV, false, true⟩), (e, ⟨140, 4, t.r.map recV, false, true⟩)]⟩ := by
  have hed : e ≠ d := fun h => hde h.symm
  refine pc_of Tryz.func64 rfl (by kernel_rfl) _ Tryz.ntmps64 (by simp) ?_
  repeat' first
    | (first | simp -implicitDefEqProofs only [go_sem] | (refine And.intro ?_ ?_; omega) | (refine And.intro (shr_bd ?_ ?_) ?_; omega; omega) | refine sl_list rfl ?_ | refine sd_list rfl ?_ | refine sl_str ?_ | refine sd_str ?_)
    | refine draw_stepY Tryz.pl_follows (by kernel_rfl) ?_
    | refine callL1 (fun d => l37Copy_c d t.g hn) rfl rfl rfl ?_
  exact fin_of (fun i => i) (fun i => if i = d then 5 else 13) ⟨by simp [hde, hed] <;> omega, by simp [hde, hed] <;> omega, by simp [hde, hed] <;> omega, by simp [hde, hed] <;> omega, by simp [hde, hed] <;> omega⟩ (by simp [hde, hed] <;> omega) (by first | rfl | (simp [renPV, renV1, renC, hde, hed]))
def layG (t : Tb) (g : Gm) (c : Ck) : Tb := { t with g := g, c := c }
theorem movedT_c (q e : Nat) (hqe : q ≠ e) (t : Tb) (g : Gm) (c : Ck) (hn : t.g.j.length ≤ 4194304) (hr : t.r.length ≤ 1048576) :
    PI Tryz.prog 118 [(q, ⟨86, 3, g.j.map lineV, false, true⟩)] [.a (tbL t), .a (gmC g (.o q)), .a (ckC c), .c (.v (.bool true))] (.t [.a (tbC (layG t g c) (.o q) (.o e)), .c (.v (.bool true))])
      ⟨[], [(q, ⟨86, 3, g.j.map lineV, false, true⟩), (e, ⟨140, 4, t.r.map recV, false, true⟩)]⟩ := by
  have heq : e ≠ q := fun h => hqe h.symm
  obtain ⟨a, ha⟩ : ∃ a : Nat, a ≠ q := ⟨q + 1, by omega⟩
  obtain ⟨b, hb, hba⟩ : ∃ b : Nat, b ≠ q ∧ a ≠ b := ⟨a + q + 1, by omega, by omega⟩
  have ha' : ¬ q = a := fun h => ha h.symm
  have hb' : ¬ q = b := fun h => hb h.symm
  have hab : ¬ b = a := fun h => hba h.symm
  refine pi_of Tryz.func118 rfl (by kernel_rfl) _ Tryz.ntmps118 (by simp) ?_
  repeat' first
    | (first | simp -implicitDefEqProofs only [ha, hb, hba, hab, ha', hb', go_sem] | (refine And.intro ?_ ?_; omega) | (refine And.intro (shr_bd ?_ ?_) ?_; omega; omega) | refine sl_list rfl ?_ | refine sd_list rfl ?_ | refine sl_str ?_ | refine sd_str ?_)
    | refine callL (iCopyTable_c a b hba t hn hr) rfl rfl (by simp [freshL, memN, hasKey, nvPV, nvV1, nvC, ha, hb, hba, hab, ha', hb', gmC]) ?_
  exact fin_of (fun i => i) (fun i => if i = q then q else b) ⟨by simp [hqe, heq, ha, hb, hba, hab, ha', hb', layG] <;> omega, by simp [hqe, heq, ha, hb, hba, hab, ha', hb', layG] <;> omega, by simp [hqe, heq, ha, hb, hba, hab, ha', hb', layG] <;> omega, by simp [hqe, heq, ha, hb, hba, hab, ha', hb', layG] <;> omega, by simp [hqe, heq, ha, hb, hba, hab, ha', hb', layG] <;> omega⟩ (by simp [hqe, heq, ha, hb, hba, hab, ha', hb', layG] <;> omega) (by first | rfl | (simp [renPV, renV1, renC, hqe, heq, ha, hb, hba, hab, ha', hb', layG]))
theorem movedF_c (d e : Nat) (hde : d ≠ e) (t : Tb) (g : Gm) (c : Ck) (hn : t.g.j.length ≤ 4194304) (hr : t.r.length ≤ 1048576) :
    PC Tryz.prog 118 [] [.a (tbL t), .a (gmL g), .a (ckC c), .c (.v (.bool false))] (.t [.a (tbC t (.o d) (.o e)), .c (.v (.bool false))])
      ⟨[], [(d, ⟨86, 3, t.g.j.map lineV, false, true⟩), (e, ⟨140, 4, t.r.map recV, false, true⟩)]⟩ := by
  have hed : e ≠ d := fun h => hde h.symm
  refine pc_of Tryz.func118 rfl (by kernel_rfl) _ Tryz.ntmps118 (by simp) ?_
  repeat' first
    | (first | simp -implicitDefEqProofs only [go_sem] | (refine And.intro ?_ ?_; omega) | (refine And.intro (shr_bd ?_ ?_) ?_; omega; omega) | refine sl_list rfl ?_ | refine sd_list rfl ?_ | refine sl_str ?_ | refine sd_str ?_)
    | refine callL2 (fun d e h => iCopyTable_c d e h t hn hr) rfl rfl rfl ?_
  exact fin_of (fun i => i) (fun i => if i = d then 12 else 1012) ⟨by simp [hde, hed] <;> omega, by simp [hde, hed] <;> omega, by simp [hde, hed] <;> omega, by simp [hde, hed] <;> omega, by simp [hde, hed] <;> omega⟩ (by simp [hde, hed] <;> omega) (by first | rfl | (simp [renPV, renV1, renC, hde, hed]))
end Go.Proofs.YtahnbliabllflaaGreatDoor
namespace Go.Proofs.YtahnbliabllflaaGreatDoor
open Go.PL
set_option linter.unusedSimpArgs false
structure TbS (t : Tb) : Prop where
  x : pzIn t.g.x
  j : t.g.j.length ≤ 1048576
  r : t.r.length ≤ 1048576
theorem TbS.tb {t : Tb} (h : TbS t) : TbIn t := ⟨⟨h.x, by have := h.j; omega⟩, h.r⟩
def stepOk (t : Tb) : Bool := tableOk t && backOk t.g
def stepT (t : Tb) : Tb := if stepOk t = true then layG t (backR t.g) t.c else t
set_option maxHeartbeats 2000000 in
theorem StepBack_c (d e : Nat) (hde : d ≠ e) (t : Tb) (ht : TbS t) : PC Tryz.prog 70 [] [.a (tbL t)] (.t [.a (tbC (stepT t) (.o d) (.o e)), .c (.v (.bool (stepOk t)))])
    ⟨[], [(d, ⟨86, 3, (stepT t).g.j.map lineV, false, true⟩), (e, ⟨140, 4, (stepT t).r.map recV, false, true⟩)]⟩ := by
  have hed : e ≠ d := fun h => hde h.symm
  have hj := ht.j
  have hr := ht.r
  refine pc_of Tryz.func70 rfl (by kernel_rfl) _ Tryz.ntmps70 (by simp) ?_
  repeat' first
    | (first | simp -implicitDefEqProofs only [go_sem] | (refine And.intro ?_ ?_; omega) | (refine And.intro (shr_bd ?_ ?_) ?_; omega; omega) | refine sl_list rfl ?_ | refine sd_list rfl ?_ | refine sl_str ?_ | refine sd_str ?_)
    | refine callL2 (fun d e h => l38Copy_c d e h t (by omega) hr) rfl rfl rfl ?_
  refine callS (TableOk_c t ht.tb) rfl rfl rfl ?_
  by_cases h : tableOk t = true
  · repeat' first
      | (first | simp -implicitDefEqProofs only [h, go_sem] | (refine And.intro ?_ ?_; omega) | (refine And.intro (shr_bd ?_ ?_) ?_; omega; omega) | refine sl_list rfl ?_ | refine sd_list rfl ?_ | refine sl_str ?_ | refine sd_str ?_)
      | refine callL1 (fun d => TakeBack_c d t.g ht.tb.g hj) rfl rfl rfl ?_
    by_cases h' : backOk t.g = true
    · have ho : stepOk t = true := by simp [stepOk, h, h']
      have e1 : stepT t = layG t (backR t.g) t.c := by simp [stepT, ho]
      (repeat' (first | simp -implicitDefEqProofs only [h', go_sem] | (refine And.intro ?_ ?_; omega) | (refine And.intro (shr_bd ?_ ?_) ?_; omega; omega) | refine sl_list rfl ?_ | refine sd_list rfl ?_ | refine sl_str ?_ | refine sd_str ?_))
      exact fin_of (fun i => i) (fun i => if i = d then 16 else 1008) ⟨by simp [e1, ho, hde, hed, layG] <;> omega, by simp [e1, ho, hde, hed, layG] <;> omega, by simp [e1, ho, hde, hed, layG] <;> omega, by simp [e1, ho, hde, hed, layG] <;> omega, by simp [e1, ho, hde, hed, layG] <;> omega⟩ (by simp [e1, ho, hde, hed, layG] <;> omega) (by first | rfl | (simp [renPV, renV1, renC, e1, ho, hde, hed, layG]))
    · have ho : stepOk t = false := by simp [stepOk, h']
      have e1 : stepT t = t := by simp [stepT, ho]
      (repeat' (first | simp -implicitDefEqProofs only [h', go_sem] | (refine And.intro ?_ ?_; omega) | (refine And.intro (shr_bd ?_ ?_) ?_; omega; omega) | refine sl_list rfl ?_ | refine sd_list rfl ?_ | refine sl_str ?_ | refine sd_str ?_))
      exact fin_of (fun i => i) (fun i => if i = d then 8 else 1008) ⟨by simp [e1, ho, hde, hed] <;> omega, by simp [e1, ho, hde, hed] <;> omega, by simp [e1, ho, hde, hed] <;> omega, by simp [e1, ho, hde, hed] <;> omega, by simp [e1, ho, hde, hed] <;> omega⟩ (by simp [e1, ho, hde, hed] <;> omega) (by first | rfl | (simp [renPV, renV1, renC, e1, ho, hde, hed]))
  · have ho : stepOk t = false := by simp [stepOk, h]
    have e1 : stepT t = t := by simp [stepT, ho]
    (repeat' (first | simp -implicitDefEqProofs only [h, go_sem] | (refine And.intro ?_ ?_; omega) | (refine And.intro (shr_bd ?_ ?_) ?_; omega; omega) | refine sl_list rfl ?_ | refine sd_list rfl ?_ | refine sl_str ?_ | refine sd_str ?_))
    exact fin_of (fun i => i) (fun i => if i = d then 8 else 1008) ⟨by simp [e1, ho, hde, hed] <;> omega, by simp [e1, ho, hde, hed] <;> omega, by simp [e1, ho, hde, hed] <;> omega, by simp [e1, ho, hde, hed] <;> omega, by simp [e1, ho, hde, hed] <;> omega⟩ (by simp [e1, ho, hde, hed] <;> omega) (by first | rfl | (simp [renPV, renV1, renC, e1, ho, hde, hed]))
set_option maxHeartbeats 2000000 in
theorem iStepBack_c (d e : Nat) (hde : d ≠ e) (t : Tb) (ht : TbS t) : PC Tryz.prog 61 [] [.a (tbL t)] (.t [.a (tbC (stepT t) (.o d) (.o e)), .c (.v (.bool (stepOk t)))])
    ⟨[], [(d, ⟨86, 3, (stepT t).g.j.map lineV, false, true⟩), (e, ⟨140, 4, (stepT t).r.map recV, false, true⟩)]⟩ := by
  have hed : e ≠ d := fun h => hde h.symm
  have hj := ht.j
  have hr := ht.r
  refine pc_of Tryz.func61 rfl (by kernel_rfl) _ Tryz.ntmps61 (by simp) ?_
  repeat' first
    | (first | simp -implicitDefEqProofs only [go_sem] | (refine And.intro ?_ ?_; omega) | (refine And.intro (shr_bd ?_ ?_) ?_; omega; omega) | refine sl_list rfl ?_ | refine sd_list rfl ?_ | refine sl_str ?_ | refine sd_str ?_)
    | refine callL1 (fun d => iTakeBack_c d t.g ht.tb.g hj) rfl rfl rfl ?_
  refine draw_stepY Tryz.pl_follows (by kernel_rfl) ?_
  by_cases h : tableOk t = true
  · by_cases h' : backOk t.g = true
    · have ho : stepOk t = true := by simp [stepOk, h, h']
      have e1 : stepT t = layG t (backR t.g) t.c := by simp [stepT, ho]
      repeat' first
        | (first | simp -implicitDefEqProofs only [h, h', go_sem] | (refine And.intro ?_ ?_; omega) | (refine And.intro (shr_bd ?_ ?_) ?_; omega; omega) | refine sl_list rfl ?_ | refine sd_list rfl ?_ | refine sl_str ?_ | refine sd_str ?_)
        | refine callS (iTableOk_c t ht.tb) rfl rfl rfl ?_
        | refine callI (movedT_c 9 1021 (by omega) t (backR t.g) t.c (by omega) hr) ⟨⟨rfl, rfl, rfl⟩, rfl, trivial⟩ rfl rfl rfl ?_
      exact fin_of (fun i => i) (fun i => if i = d then 9 else 1021) ⟨by simp [e1, ho, hde, hed, layG] <;> omega, by simp [e1, ho, hde, hed, layG] <;> omega, by simp [e1, ho, hde, hed, layG] <;> omega, by simp [e1, ho, hde, hed, layG] <;> omega, by simp [e1, ho, hde, hed, layG] <;> omega⟩ (by simp [e1, ho, hde, hed, layG] <;> omega) (by first | rfl | (simp [renPV, renV1, renC, e1, ho, hde, hed, layG]))
    · have ho : stepOk t = false := by simp [stepOk, h']
      have e1 : stepT t = t := by simp [stepT, ho]
      repeat' first
        | (first | simp -implicitDefEqProofs only [h, h', go_sem] | (refine And.intro ?_ ?_; omega) | (refine And.intro (shr_bd ?_ ?_) ?_; omega; omega) | refine sl_list rfl ?_ | refine sd_list rfl ?_ | refine sl_str ?_ | refine sd_str ?_)
        | refine callS (iTableOk_c t ht.tb) rfl rfl rfl ?_
        | refine callL2 (fun d e h => movedF_c d e h t (backR t.g) t.c (by omega) hr) rfl rfl rfl ?_
      exact fin_of (fun i => i) (fun i => if i = d then 21 else 1021) ⟨by simp [e1, ho, hde, hed] <;> omega, by simp [e1, ho, hde, hed] <;> omega, by simp [e1, ho, hde, hed] <;> omega, by simp [e1, ho, hde, hed] <;> omega, by simp [e1, ho, hde, hed] <;> omega⟩ (by simp [e1, ho, hde, hed] <;> omega) (by first | rfl | (simp [renPV, renV1, renC, e1, ho, hde, hed]))
  · have ho : stepOk t = false := by simp [stepOk, h]
    have e1 : stepT t = t := by simp [stepT, ho]
    repeat' first
      | (first | simp -implicitDefEqProofs only [h, go_sem] | (refine And.intro ?_ ?_; omega) | (refine And.intro (shr_bd ?_ ?_) ?_; omega; omega) | refine sl_list rfl ?_ | refine sd_list rfl ?_ | refine sl_str ?_ | refine sd_str ?_)
      | refine callS (iTableOk_c t ht.tb) rfl rfl rfl ?_
      | refine callL2 (fun d e h => movedF_c d e h t (backR t.g) t.c (by omega) hr) rfl rfl rfl ?_
    exact fin_of (fun i => i) (fun i => if i = d then 21 else 1021) ⟨by simp [e1, ho, hde, hed] <;> omega, by simp [e1, ho, hde, hed] <;> omega, by simp [e1, ho, hde, hed] <;> omega, by simp [e1, ho, hde, hed] <;> omega, by simp [e1, ho, hde, hed] <;> omega⟩ (by simp [e1, ho, hde, hed] <;> omega) (by first | rfl | (simp [renPV, renV1, renC, e1, ho, hde, hed]))
def playOk (t : Tb) (l : Ln) (s : Int) : Bool := tableOk t && (makeOk t.g l && tickOk t.c s)
def playT (t : Tb) (l : Ln) (s : Int) : Tb := if playOk t l s = true then layG t (makeG t.g l) (tickC t.c s) else t
set_option maxHeartbeats 4000000 in
theorem PlayJump_c (d e : Nat) (hde : d ≠ e) (t : Tb) (l : Ln) (s : Int) (ht : TbS t) : PC Tryz.prog 68 [] [.a (tbL t), .a (lineC l), .c (.v (.int .i64 s))] (.t [.a (tbC (playT t l s) (.o d) (.o e)), .c (.v (.bool (playOk t l s)))])
    ⟨[], [(d, ⟨86, 3, (playT t l s).g.j.map lineV, false, true⟩), (e, ⟨140, 4, (playT t l s).r.map recV, false, true⟩)]⟩ := by
  have hed : e ≠ d := fun h => hde h.symm
  have hj := ht.j
  have hr := ht.r
  refine pc_of Tryz.func68 rfl (by kernel_rfl) _ Tryz.ntmps68 (by simp) ?_
  repeat' first
    | (first | simp -implicitDefEqProofs only [go_sem] | (refine And.intro ?_ ?_; omega) | (refine And.intro (shr_bd ?_ ?_) ?_; omega; omega) | refine sl_list rfl ?_ | refine sd_list rfl ?_ | refine sl_str ?_ | refine sd_str ?_)
    | refine callL2 (fun d e h => l38Copy_c d e h t (by omega) hr) rfl rfl rfl ?_
  refine callS (TableOk_c t ht.tb) rfl rfl rfl ?_
  by_cases h : tableOk t = true
  · repeat' first
      | (first | simp -implicitDefEqProofs only [h, go_sem] | (refine And.intro ?_ ?_; omega) | (refine And.intro (shr_bd ?_ ?_) ?_; omega; omega) | refine sl_list rfl ?_ | refine sd_list rfl ?_ | refine sl_str ?_ | refine sd_str ?_)
      | refine callL1 (fun d => MakeJump_c d t.g l ht.tb.g hj) rfl rfl rfl ?_
      | refine callS (TickClock_c t.c s) rfl rfl rfl ?_
    by_cases h1 : makeOk t.g l = true
    · by_cases h2 : tickOk t.c s = true
      · have ho : playOk t l s = true := by simp [playOk, h, h1, h2]
        have e1 : playT t l s = layG t (makeG t.g l) (tickC t.c s) := by simp [playT, ho]
        (repeat' (first | simp -implicitDefEqProofs only [h1, h2, go_sem] | (refine And.intro ?_ ?_; omega) | (refine And.intro (shr_bd ?_ ?_) ?_; omega; omega) | refine sl_list rfl ?_ | refine sd_list rfl ?_ | refine sl_str ?_ | refine sd_str ?_))
        exact fin_of (fun i => i) (fun i => if i = d then 23 else 1014) ⟨by simp [e1, ho, hde, hed, layG] <;> omega, by simp [e1, ho, hde, hed, layG] <;> omega, by simp [e1, ho, hde, hed, layG] <;> omega, by simp [e1, ho, hde, hed, layG] <;> omega, by simp [e1, ho, hde, hed, layG] <;> omega⟩ (by simp [e1, ho, hde, hed, layG] <;> omega) (by first | rfl | (simp [renPV, renV1, renC, e1, ho, hde, hed, layG]))
      · have ho : playOk t l s = false := by simp [playOk, h2]
        have e1 : playT t l s = t := by simp [playT, ho]
        (repeat' (first | simp -implicitDefEqProofs only [h1, h2, go_sem] | (refine And.intro ?_ ?_; omega) | (refine And.intro (shr_bd ?_ ?_) ?_; omega; omega) | refine sl_list rfl ?_ | refine sd_list rfl ?_ | refine sl_str ?_ | refine sd_str ?_))
        exact fin_of (fun i => i) (fun i => if i = d then 14 else 1014) ⟨by simp [e1, ho, hde, hed] <;> omega, by simp [e1, ho, hde, hed] <;> omega, by simp [e1, ho, hde, hed] <;> omega, by simp [e1, ho, hde, hed] <;> omega, by simp [e1, ho, hde, hed] <;> omega⟩ (by simp [e1, ho, hde, hed] <;> omega) (by first | rfl | (simp [renPV, renV1, renC, e1, ho, hde, hed]))
    · have ho : playOk t l s = false := by simp [playOk, h1]
      have e1 : playT t l s = t := by simp [playT, ho]
      (repeat' (first | simp -implicitDefEqProofs only [h1, go_sem] | (refine And.intro ?_ ?_; omega) | (refine And.intro (shr_bd ?_ ?_) ?_; omega; omega) | refine sl_list rfl ?_ | refine sd_list rfl ?_ | refine sl_str ?_ | refine sd_str ?_))
      exact fin_of (fun i => i) (fun i => if i = d then 14 else 1014) ⟨by simp [e1, ho, hde, hed] <;> omega, by simp [e1, ho, hde, hed] <;> omega, by simp [e1, ho, hde, hed] <;> omega, by simp [e1, ho, hde, hed] <;> omega, by simp [e1, ho, hde, hed] <;> omega⟩ (by simp [e1, ho, hde, hed] <;> omega) (by first | rfl | (simp [renPV, renV1, renC, e1, ho, hde, hed]))
  · have ho : playOk t l s = false := by simp [playOk, h]
    have e1 : playT t l s = t := by simp [playT, ho]
    (repeat' (first | simp -implicitDefEqProofs only [h, go_sem] | (refine And.intro ?_ ?_; omega) | (refine And.intro (shr_bd ?_ ?_) ?_; omega; omega) | refine sl_list rfl ?_ | refine sd_list rfl ?_ | refine sl_str ?_ | refine sd_str ?_))
    exact fin_of (fun i => i) (fun i => if i = d then 14 else 1014) ⟨by simp [e1, ho, hde, hed] <;> omega, by simp [e1, ho, hde, hed] <;> omega, by simp [e1, ho, hde, hed] <;> omega, by simp [e1, ho, hde, hed] <;> omega, by simp [e1, ho, hde, hed] <;> omega⟩ (by simp [e1, ho, hde, hed] <;> omega) (by first | rfl | (simp [renPV, renV1, renC, e1, ho, hde, hed]))
set_option maxHeartbeats 4000000 in
theorem iPlayJump_c (d e : Nat) (hde : d ≠ e) (t : Tb) (l : Ln) (s : Int) (ht : TbS t) : PC Tryz.prog 59 [] [.a (tbL t), .a (lineC l), .c (.v (.int .i64 s))] (.t [.a (tbC (playT t l s) (.o d) (.o e)), .c (.v (.bool (playOk t l s)))])
    ⟨[], [(d, ⟨86, 3, (playT t l s).g.j.map lineV, false, true⟩), (e, ⟨140, 4, (playT t l s).r.map recV, false, true⟩)]⟩ := by
  have hed : e ≠ d := fun h => hde h.symm
  have hj := ht.j
  have hr := ht.r
  refine pc_of Tryz.func59 rfl (by kernel_rfl) _ Tryz.ntmps59 (by simp) ?_
  repeat' first
    | (first | simp -implicitDefEqProofs only [go_sem] | (refine And.intro ?_ ?_; omega) | (refine And.intro (shr_bd ?_ ?_) ?_; omega; omega) | refine sl_list rfl ?_ | refine sd_list rfl ?_ | refine sl_str ?_ | refine sd_str ?_)
    | refine callL1 (fun d => iMakeJump_c d t.g l ht.tb.g hj) rfl rfl rfl ?_
    | refine callS (iTickClock_c t.c s) rfl rfl rfl ?_
  refine draw_stepY Tryz.pl_follows (by kernel_rfl) ?_
  by_cases h : playOk t l s = true
  · have e1 : playT t l s = layG t (makeG t.g l) (tickC t.c s) := by simp [playT, h]
    have h' := h
    simp only [playOk, Bool.and_eq_true] at h'
    obtain ⟨h1, h2, h3⟩ := h'
    repeat' first
      | (first | simp -implicitDefEqProofs only [h1, h2, h3, go_sem] | (refine And.intro ?_ ?_; omega) | (refine And.intro (shr_bd ?_ ?_) ?_; omega; omega) | refine sl_list rfl ?_ | refine sd_list rfl ?_ | refine sl_str ?_ | refine sd_str ?_)
      | refine callS (iTableOk_c t ht.tb) rfl rfl rfl ?_
      | refine callI (movedT_c 16 1037 (by omega) t (makeG t.g l) (tickC t.c s) (by omega) hr) ⟨⟨rfl, rfl, rfl⟩, rfl, trivial⟩ rfl rfl rfl ?_
    exact fin_of (fun i => i) (fun i => if i = d then 16 else 1037) ⟨by simp [e1, h, hde, hed, layG] <;> omega, by simp [e1, h, hde, hed, layG] <;> omega, by simp [e1, h, hde, hed, layG] <;> omega, by simp [e1, h, hde, hed, layG] <;> omega, by simp [e1, h, hde, hed, layG] <;> omega⟩ (by simp [e1, h, hde, hed, layG] <;> omega) (by first | rfl | (simp [renPV, renV1, renC, e1, h, hde, hed, layG]))
  · have e1 : playT t l s = t := by simp [playT, h]
    have hf : (tableOk t && (makeOk t.g l && tickOk t.c s)) = false := by simpa [playOk] using h
    by_cases h1 : tableOk t = true
    · by_cases h2 : makeOk t.g l = true
      · have h3 : tickOk t.c s = false := by simpa [h1, h2] using hf
        repeat' first
          | (first | simp -implicitDefEqProofs only [h1, h2, h3, go_sem] | (refine And.intro ?_ ?_; omega) | (refine And.intro (shr_bd ?_ ?_) ?_; omega; omega) | refine sl_list rfl ?_ | refine sd_list rfl ?_ | refine sl_str ?_ | refine sd_str ?_)
          | refine callS (iTableOk_c t ht.tb) rfl rfl rfl ?_
          | refine callL2 (fun d e h => movedF_c d e h t (makeG t.g l) (tickC t.c s) (by omega) hr) rfl rfl rfl ?_
        exact fin_of (fun i => i) (fun i => if i = d then 37 else 1037) ⟨by simp [e1, h, hde, hed] <;> omega, by simp [e1, h, hde, hed] <;> omega, by simp [e1, h, hde, hed] <;> omega, by simp [e1, h, hde, hed] <;> omega, by simp [e1, h, hde, hed] <;> omega⟩ (by simp [e1, h, hde, hed] <;> omega) (by first | rfl | (simp [renPV, renV1, renC, e1, h, hde, hed]))
      · repeat' first
          | (first | simp -implicitDefEqProofs only [h1, h2, go_sem] | (refine And.intro ?_ ?_; omega) | (refine And.intro (shr_bd ?_ ?_) ?_; omega; omega) | refine sl_list rfl ?_ | refine sd_list rfl ?_ | refine sl_str ?_ | refine sd_str ?_)
          | refine callS (iTableOk_c t ht.tb) rfl rfl rfl ?_
          | refine callL2 (fun d e h => movedF_c d e h t (makeG t.g l) (tickC t.c s) (by omega) hr) rfl rfl rfl ?_
        exact fin_of (fun i => i) (fun i => if i = d then 37 else 1037) ⟨by simp [e1, h, hde, hed] <;> omega, by simp [e1, h, hde, hed] <;> omega, by simp [e1, h, hde, hed] <;> omega, by simp [e1, h, hde, hed] <;> omega, by simp [e1, h, hde, hed] <;> omega⟩ (by simp [e1, h, hde, hed] <;> omega) (by first | rfl | (simp [renPV, renV1, renC, e1, h, hde, hed]))
    · repeat' first
        | (first | simp -implicitDefEqProofs only [h1, go_sem] | (refine And.intro ?_ ?_; omega) | (refine And.intro (shr_bd ?_ ?_) ?_; omega; omega) | refine sl_list rfl ?_ | refine sd_list rfl ?_ | refine sl_str ?_ | refine sd_str ?_)
        | refine callS (iTableOk_c t ht.tb) rfl rfl rfl ?_
        | refine callL2 (fun d e h => movedF_c d e h t (makeG t.g l) (tickC t.c s) (by omega) hr) rfl rfl rfl ?_
      exact fin_of (fun i => i) (fun i => if i = d then 37 else 1037) ⟨by simp [e1, h, hde, hed] <;> omega, by simp [e1, h, hde, hed] <;> omega, by simp [e1, h, hde, hed] <;> omega, by simp [e1, h, hde, hed] <;> omega, by simp [e1, h, hde, hed] <;> omega⟩ (by simp [e1, h, hde, hed] <;> omega) (by first | rfl | (simp [renPV, renV1, renC, e1, h, hde, hed]))
end Go.Proofs.YtahnbliabllflaaGreatDoor
namespace Go.Proofs.YtahnbliabllflaaGreatDoor
open Go.PL
set_option linter.unusedSimpArgs false
def jumpsOf (b : Brd) (p : Int) : List Ln := if positionOk b p = true then (linesOf b).filter (canJ p) else []
theorem jumps_mem {b : Brd} {p : Int} {l : Ln} (h : l ∈ jumpsOf b p) : positionOk b p = true ∧ l ∈ linesOf b ∧ canJ p l = true := by
  unfold jumpsOf at h
  split at h
  · rename_i hp
    have := List.mem_filter.1 h
    exact ⟨hp, this.1, this.2⟩
  · simp at h
theorem jumps_len {b : Brd} {p : Int} : (jumpsOf b p).length ≤ 196 := by
  have h1 := linesOf_len (b := b)
  unfold jumpsOf
  split
  · have := List.length_filter_le (canJ p) (linesOf b)
    omega
  · simp
theorem flip_pos {b : Brd} {p : Int} {l : Ln} (hp : positionOk b p = true) (hm : l ∈ linesOf b) (hc : canJ p l = true) : positionOk b (flip p l) = true := by
  obtain ⟨hb, p0, hs⟩ := pos_sub hp
  have ha : able false p.toNat l = true := by simp only [able, Bool.false_eq_true, if_false]; rw [Int.toNat_of_nonneg p0]; exact hc
  exact sub_pos hb (rch_sub hs (.step _ l .refl hm ha))
theorem jumpI_flip {b : Brd} {p : Int} {l : Ln} (hp : positionOk b p = true) (hm : l ∈ linesOf b) (hc : canJ p l = true) : jumpI p l = flip p l := by
  obtain ⟨hb, p0, hs⟩ := pos_sub hp
  obtain ⟨hne0, hne1, hne2⟩ := line_ne hm
  rw [jumpI, if_pos hc, jmp_flip p0 (lnIn hm) hne1 hne2 hc]; rfl
set_option maxHeartbeats 4000000 in
theorem JumpsOf_c (d : Nat) (b : Brd) (p : Int) (p2 : p ≤ 9223372036854775807) : PC Tryz.prog 92 [] [.a (brdC b), .c (.v (.int .i64 p))] (.s (.c (.o d))) ⟨[], [(d, ⟨86, 3, (jumpsOf b p).map lineV, false, true⟩)]⟩ := by
  refine pc_of Tryz.func92 rfl (by kernel_rfl) _ Tryz.ntmps92 (by simp) ?_
  have hl := linesOf_len (b := b)
  repeat' first
    | (first | simp -implicitDefEqProofs only [go_sem] | (refine And.intro ?_ ?_; omega) | (refine And.intro (shr_bd ?_ ?_) ?_; omega; omega) | refine sl_list rfl ?_ | refine sd_list rfl ?_ | refine sl_str ?_ | refine sd_str ?_)
    | refine callL1 (fun d => LinesOf_c d b) rfl rfl rfl ?_
  by_cases hp : positionOk b p = true
  · have e : jumpsOf b p = (linesOf b).filter (canJ p) := by simp [jumpsOf, hp]
    obtain ⟨hb, p0, hs⟩ := pos_sub hp
    refine loop_step (X := Nat) (fun i => ⟨51, [(1, vN p), (2, .s (.c (.p 2 0))), (5, vO 8), (6, vO 10), (7, vN i)], ⟨[(2, brdC b)], [(8, ⟨86, 3, (filN (canJ p) (linesOf b) i).map lineV, false, true⟩), (10, ⟨86, 3, (linesOf b).map lineV, false, true⟩)]⟩⟩)
      (fun i => i ≤ (linesOf b).length) (fun i => (linesOf b).length - i) 0 (by omega) (weak_of (fun i => i) (fun i => i) rfl ⟨by simp [filN_zero] <;> omega, by simp [filN_zero] <;> omega, by simp [filN_zero] <;> omega, by simp [filN_zero] <;> omega, by simp [filN_zero] <;> omega⟩ (by simp [filN_zero] <;> omega)) (fun i hi => ?_)
    have hf := filN_len (p := canJ p) (l := linesOf b) (i := i)
    by_cases hlt : i < (linesOf b).length
    · have e0 : ((i : Int) < (linesOf b).length) = True := eq_true (by omega)
      have hg := map_get (f := lineV) hlt
      have hm := List.getElem_mem hlt
      have hln := lnIn hm
      obtain ⟨hne0, hne1, hne2⟩ := line_ne hm
      have hbl := bitsL_le hln
      have q1 := pow48 hln.f0 hln.f1
      have q2 := pow48 hln.o0 hln.o1
      have q3 := or63 (a := 2 ^ (linesOf b)[i].f.toNat) (c := 2 ^ (linesOf b)[i].o.toNat) (by omega) (by omega)
      have hc := can_and p0 hln hne1 hne2
      have f0 := hln.f0
      have f1 := hln.f1
      have o0 := hln.o0
      have o1 := hln.o1
      (repeat' (first | simp -implicitDefEqProofs only [e0, go_sem] | (refine And.intro ?_ ?_; omega) | (refine And.intro (shr_bd ?_ ?_) ?_; omega; omega) | refine sl_list rfl ?_ | refine sd_list rfl ?_ | refine sl_str ?_ | refine sd_str ?_))
      refine callS (PositionOk_c b p p2) rfl rfl rfl ?_
      (repeat' (first | simp -implicitDefEqProofs only [hp, go_sem] | (refine And.intro ?_ ?_; omega) | (refine And.intro (shr_bd ?_ ?_) ?_; omega; omega) | refine sl_list rfl ?_ | refine sd_list rfl ?_ | refine sl_str ?_ | refine sd_str ?_))
      refine draw_step Tryz.pl_follows (by kernel_rfl) ?_
      (repeat' (first | simp -implicitDefEqProofs only [hg, hlt, lineV, go_sem] | (refine And.intro ?_ ?_; omega) | (refine And.intro (shr_bd ?_ ?_) ?_; omega; omega) | refine sl_list rfl ?_ | refine sd_list rfl ?_ | refine sl_str ?_ | refine sd_str ?_))
      refine callD (l05Bits_c (linesOf b)[i] hln) rfl rfl rfl ?_
      by_cases h3 : canJ p (linesOf b)[i] = true
      · have e1 : (((p.toNat &&& bitsL (linesOf b)[i] : Nat) : Int) = ((2 ^ (linesOf b)[i].f.toNat ||| 2 ^ (linesOf b)[i].o.toNat : Nat) : Int)) = True := eq_true (by rw [hc.2 h3])
        have e2 := filN_hit (p := canJ p) hlt h3
        (repeat' (first | simp -implicitDefEqProofs only [hg, hlt, lineV, e1, go_sem] | (refine And.intro ?_ ?_; omega) | (refine And.intro (shr_bd ?_ ?_) ?_; omega; omega) | refine sl_list rfl ?_ | refine sd_list rfl ?_ | refine sl_str ?_ | refine sd_str ?_))
        exact ⟨i + 1, by omega, by omega, weak_of (fun i => i) (fun i => if i = 8 then 49 else i) rfl ⟨by simp [e2, lineV] <;> omega, by simp [e2, lineV] <;> omega, by simp [e2, lineV] <;> omega, by simp [e2, lineV] <;> omega, by simp [e2, lineV] <;> omega⟩ (by simp [e2, lineV] <;> omega)⟩
      · have e1 : (((p.toNat &&& bitsL (linesOf b)[i] : Nat) : Int) = ((2 ^ (linesOf b)[i].f.toNat ||| 2 ^ (linesOf b)[i].o.toNat : Nat) : Int)) = False := eq_false (fun h => h3 (hc.1 (by omega)))
        have e2 := filN_miss (p := canJ p) hlt (by simpa using h3)
        (repeat' (first | simp -implicitDefEqProofs only [hg, hlt, lineV, e1, go_sem] | (refine And.intro ?_ ?_; omega) | (refine And.intro (shr_bd ?_ ?_) ?_; omega; omega) | refine sl_list rfl ?_ | refine sd_list rfl ?_ | refine sl_str ?_ | refine sd_str ?_))
        exact ⟨i + 1, by omega, by omega, weak_of (fun i => i) (fun i => i) rfl ⟨by simp [e2] <;> omega, by simp [e2] <;> omega, by simp [e2] <;> omega, by simp [e2] <;> omega, by simp [e2] <;> omega⟩ (by simp [e2] <;> omega)⟩
    · have e0 : ((i : Int) < (linesOf b).length) = False := eq_false (by omega)
      have hle : i = (linesOf b).length := by omega
      subst hle
      (repeat' (first | simp -implicitDefEqProofs only [e0, go_sem] | (refine And.intro ?_ ?_; omega) | (refine And.intro (shr_bd ?_ ?_) ?_; omega; omega) | refine sl_list rfl ?_ | refine sd_list rfl ?_ | refine sl_str ?_ | refine sd_str ?_))
      exact fin_of (fun i => i) (fun i => 8) ⟨by simp [e, filN_end] <;> omega, by simp [e, filN_end] <;> omega, by simp [e, filN_end] <;> omega, by simp [e, filN_end] <;> omega, by simp [e, filN_end] <;> omega⟩ (by simp [e, filN_end] <;> omega) (by first | rfl | (simp [renPV, renV1, renC, e, filN_end]))
  · have e : jumpsOf b p = [] := by simp [jumpsOf, hp]
    refine loop_step (X := Nat) (fun i => ⟨51, [(1, vN p), (2, .s (.c (.p 2 0))), (5, vO 8), (6, vO 10), (7, vN 0)], ⟨[(2, brdC b)], [(8, ⟨86, 3, [], false, true⟩), (10, ⟨86, 3, (linesOf b).map lineV, false, true⟩)]⟩⟩)
      (fun i => True) (fun i => 0) 0 trivial (weak_of (fun i => i) (fun i => i) rfl ⟨by simp <;> omega, by simp <;> omega, by simp <;> omega, by simp <;> omega, by simp <;> omega⟩ (by simp <;> omega)) (fun i hi => ?_)
    by_cases hlt : (0 : Int) < (linesOf b).length
    · (repeat' (first | simp -implicitDefEqProofs only [hlt, go_sem] | (refine And.intro ?_ ?_; omega) | (refine And.intro (shr_bd ?_ ?_) ?_; omega; omega) | refine sl_list rfl ?_ | refine sd_list rfl ?_ | refine sl_str ?_ | refine sd_str ?_))
      refine callS (PositionOk_c b p p2) rfl rfl rfl ?_
      (repeat' (first | simp -implicitDefEqProofs only [hp, go_sem] | (refine And.intro ?_ ?_; omega) | (refine And.intro (shr_bd ?_ ?_) ?_; omega; omega) | refine sl_list rfl ?_ | refine sd_list rfl ?_ | refine sl_str ?_ | refine sd_str ?_))
      exact fin_of (fun i => i) (fun i => 8) ⟨by simp [e] <;> omega, by simp [e] <;> omega, by simp [e] <;> omega, by simp [e] <;> omega, by simp [e] <;> omega⟩ (by simp [e] <;> omega) (by first | rfl | (simp [renPV, renV1, renC, e]))
    · (repeat' (first | simp -implicitDefEqProofs only [hlt, go_sem] | (refine And.intro ?_ ?_; omega) | (refine And.intro (shr_bd ?_ ?_) ?_; omega; omega) | refine sl_list rfl ?_ | refine sd_list rfl ?_ | refine sl_str ?_ | refine sd_str ?_))
      exact fin_of (fun i => i) (fun i => 8) ⟨by simp [e] <;> omega, by simp [e] <;> omega, by simp [e] <;> omega, by simp [e] <;> omega, by simp [e] <;> omega⟩ (by simp [e] <;> omega) (by first | rfl | (simp [renPV, renV1, renC, e]))
set_option maxHeartbeats 4000000 in
theorem iJumpsOf_c (d : Nat) (b : Brd) (p : Int) (p2 : p ≤ 9223372036854775807) : PC Tryz.prog 212 [] [.a (brdC b), .c (.v (.int .i64 p))] (.s (.c (.o d))) ⟨[], [(d, ⟨86, 3, (jumpsOf b p).map lineV, false, true⟩)]⟩ := by
  refine pc_of Tryz.func212 rfl (by kernel_rfl) _ Tryz.ntmps212 (by simp) ?_
  have hl := linesOf_len (b := b)
  (repeat' (first | simp -implicitDefEqProofs only [go_sem] | (refine And.intro ?_ ?_; omega) | (refine And.intro (shr_bd ?_ ?_) ?_; omega; omega) | refine sl_list rfl ?_ | refine sd_list rfl ?_ | refine sl_str ?_ | refine sd_str ?_))
  refine callS (iPositionOk_c b p p2) rfl rfl rfl ?_
  by_cases hp : positionOk b p = true
  · have e : jumpsOf b p = (linesOf b).filter (canJ p) := by simp [jumpsOf, hp]
    obtain ⟨hb, p0, hs⟩ := pos_sub hp
    repeat' first
      | (first | simp -implicitDefEqProofs only [hp, go_sem] | (refine And.intro ?_ ?_; omega) | (refine And.intro (shr_bd ?_ ?_) ?_; omega; omega) | refine sl_list rfl ?_ | refine sd_list rfl ?_ | refine sl_str ?_ | refine sd_str ?_)
      | refine callL1 (fun d => iLinesOf_c d b) rfl rfl rfl ?_
    refine loop_step (X := Nat) (fun i => ⟨36, [(1, vN p), (5, vO 10), (17, vO 17), (18, vN (linesOf b).length), (19, vN i)], ⟨[], [(10, ⟨86, 3, (filN (canJ p) (linesOf b) i).map lineV, false, true⟩), (17, ⟨86, 3, (linesOf b).map lineV, false, true⟩)]⟩⟩)
      (fun i => i ≤ (linesOf b).length) (fun i => (linesOf b).length - i) 0 (by omega) (weak_of (fun i => i) (fun i => i) rfl ⟨by simp [filN_zero] <;> omega, by simp [filN_zero] <;> omega, by simp [filN_zero] <;> omega, by simp [filN_zero] <;> omega, by simp [filN_zero] <;> omega⟩ (by simp [filN_zero] <;> omega)) (fun i hi => ?_)
    have hf := filN_len (p := canJ p) (l := linesOf b) (i := i)
    simp -implicitDefEqProofs only [go_sem]
    refine if_splitP (fun h => ?_) (fun h => ?_)
    · have hlt : i < (linesOf b).length := by omega
      have hg := map_get (f := lineV) hlt
      have hm := List.getElem_mem hlt
      have hln := lnIn hm
      (repeat' (first | simp -implicitDefEqProofs only [hg, hlt, lineV, go_sem] | (refine And.intro ?_ ?_; omega) | (refine And.intro (shr_bd ?_ ?_) ?_; omega; omega) | refine sl_list rfl ?_ | refine sd_list rfl ?_ | refine sl_str ?_ | refine sd_str ?_))
      refine callS (jumpFrom_c p (linesOf b)[i] p0 p2 hln) rfl rfl rfl ?_
      by_cases h3 : canJ p (linesOf b)[i] = true
      · have e2 := filN_hit (p := canJ p) hlt h3
        (repeat' (first | simp -implicitDefEqProofs only [h3, go_sem] | (refine And.intro ?_ ?_; omega) | (refine And.intro (shr_bd ?_ ?_) ?_; omega; omega) | refine sl_list rfl ?_ | refine sd_list rfl ?_ | refine sl_str ?_ | refine sd_str ?_))
        exact ⟨i + 1, by omega, by omega, weak_of (fun i => i) (fun i => if i = 10 then 33 else i) rfl ⟨by simp [e2, lineV] <;> omega, by simp [e2, lineV] <;> omega, by simp [e2, lineV] <;> omega, by simp [e2, lineV] <;> omega, by simp [e2, lineV] <;> omega⟩ (by simp [e2, lineV] <;> omega)⟩
      · have e2 := filN_miss (p := canJ p) hlt (by simpa using h3)
        (repeat' (first | simp -implicitDefEqProofs only [h3, go_sem] | (refine And.intro ?_ ?_; omega) | (refine And.intro (shr_bd ?_ ?_) ?_; omega; omega) | refine sl_list rfl ?_ | refine sd_list rfl ?_ | refine sl_str ?_ | refine sd_str ?_))
        exact ⟨i + 1, by omega, by omega, weak_of (fun i => i) (fun i => i) rfl ⟨by simp [e2] <;> omega, by simp [e2] <;> omega, by simp [e2] <;> omega, by simp [e2] <;> omega, by simp [e2] <;> omega⟩ (by simp [e2] <;> omega)⟩
    · have hle : i = (linesOf b).length := by omega
      subst hle
      (repeat' (first | simp -implicitDefEqProofs only [go_sem] | (refine And.intro ?_ ?_; omega) | (refine And.intro (shr_bd ?_ ?_) ?_; omega; omega) | refine sl_list rfl ?_ | refine sd_list rfl ?_ | refine sl_str ?_ | refine sd_str ?_))
      exact fin_of (fun i => i) (fun i => 10) ⟨by simp [e, filN_end] <;> omega, by simp [e, filN_end] <;> omega, by simp [e, filN_end] <;> omega, by simp [e, filN_end] <;> omega, by simp [e, filN_end] <;> omega⟩ (by simp [e, filN_end] <;> omega) (by first | rfl | (simp [renPV, renV1, renC, e, filN_end]))
  · have e : jumpsOf b p = [] := by simp [jumpsOf, hp]
    (repeat' (first | simp -implicitDefEqProofs only [hp, go_sem] | (refine And.intro ?_ ?_; omega) | (refine And.intro (shr_bd ?_ ?_) ?_; omega; omega) | refine sl_list rfl ?_ | refine sd_list rfl ?_ | refine sl_str ?_ | refine sd_str ?_))
    exact fin_of (fun i => i) (fun i => 10) ⟨by simp [e] <;> omega, by simp [e] <;> omega, by simp [e] <;> omega, by simp [e] <;> omega, by simp [e] <;> omega⟩ (by simp [e] <;> omega) (by first | rfl | (simp [renPV, renV1, renC, e]))
noncomputable def goodAt' (b : Brd) (p g : Int) (l : Ln) : Bool := hasS (spreadL b true g) (flip p l)
noncomputable def goodJ (b : Brd) (p g : Int) : List Ln := (jumpsOf b p).filter (goodAt' b p g)
theorem goodJ_no {b : Brd} {p g : Int} (h : puzzleOk ⟨b, p, g⟩ = false) : goodJ b p g = [] := by
  unfold goodJ
  rw [List.filter_eq_nil_iff]
  intro l hl hg
  obtain ⟨hp, _, _⟩ := jumps_mem hl
  have := has_spread.1 (show hasS (spreadL b true g) (flip p l) = true from hg)
  simp [puzzleOk, this.1, this.2.1, hp] at h
theorem goodJ_len {b : Brd} {p g : Int} : (goodJ b p g).length ≤ 196 := by
  have h1 := jumps_len (b := b) (p := p)
  have := List.length_filter_le (goodAt' b p g) (jumpsOf b p)
  unfold goodJ
  omega
set_option maxHeartbeats 4000000 in
theorem GoodJumps_c (d : Nat) (b : Brd) (p g : Int) (p2 : p ≤ 9223372036854775807) (g2 : g ≤ 9223372036854775807) : PC Tryz.prog 195 [] [.a (brdC b), .c (.v (.int .i64 p)), .c (.v (.int .i64 g))] (.s (.c (.o d))) ⟨[], [(d, ⟨86, 3, (goodJ b p g).map lineV, false, true⟩)]⟩ := by
  refine pc_of Tryz.func195 rfl (by kernel_rfl) _ Tryz.ntmps195 (by simp) ?_
  (repeat' (first | simp -implicitDefEqProofs only [go_sem] | (refine And.intro ?_ ?_; omega) | (refine And.intro (shr_bd ?_ ?_) ?_; omega; omega) | refine sl_list rfl ?_ | refine sd_list rfl ?_ | refine sl_str ?_ | refine sd_str ?_))
  refine callS (l15Ok_c ⟨b, p, g⟩ ⟨p2, g2⟩) rfl rfl rfl ?_
  by_cases hk : puzzleOk ⟨b, p, g⟩ = true
  · have hk' := hk
    simp only [puzzleOk, Bool.and_eq_true] at hk'
    obtain ⟨hs, hp, hgo⟩ := hk'
    obtain ⟨hb, p0, hsub⟩ := pos_sub hp
    have espr : spreadL b true g = seenL b true g.toNat := by simp [spreadL, hs, hgo]
    have hsl : (spreadL b true g).length = boardN b := by rw [espr]; exact seenL_len
    have hjl := jumps_len (b := b) (p := p)
    repeat' first
      | (first | simp -implicitDefEqProofs only [hk, go_sem] | (refine And.intro ?_ ?_; omega) | (refine And.intro (shr_bd ?_ ?_) ?_; omega; omega) | refine sl_list rfl ?_ | refine sd_list rfl ?_ | refine sl_str ?_ | refine sd_str ?_)
      | refine callL1 (fun d => l15Back_c d b g hs hgo) rfl rfl rfl ?_
      | refine callL1 (fun d => JumpsOf_c d b p p2) rfl rfl rfl ?_
    refine loop_step (X := Nat) (fun i => ⟨48, [(1, vN p), (7, vO 11), (8, vO 20), (9, vO 23), (10, vN i)], ⟨[], [(11, ⟨86, 3, (filN (goodAt' b p g) (jumpsOf b p) i).map lineV, false, true⟩), (20, ⟨4, 1, (spreadL b true g).map Value.bool, false, true⟩), (23, ⟨86, 3, (jumpsOf b p).map lineV, false, true⟩)]⟩⟩)
      (fun i => i ≤ (jumpsOf b p).length) (fun i => (jumpsOf b p).length - i) 0 (by omega) (weak_of (fun i => i) (fun i => i) rfl ⟨by simp [filN_zero] <;> omega, by simp [filN_zero] <;> omega, by simp [filN_zero] <;> omega, by simp [filN_zero] <;> omega, by simp [filN_zero] <;> omega⟩ (by simp [filN_zero] <;> omega)) (fun i hi => ?_)
    have hf := filN_len (p := goodAt' b p g) (l := jumpsOf b p) (i := i)
    simp -implicitDefEqProofs only [go_sem]
    refine if_splitP (fun h => ?_) (fun h => ?_)
    · have hlt : i < (jumpsOf b p).length := by omega
      have hg := map_get (f := lineV) hlt
      obtain ⟨_, hm, hcj⟩ := jumps_mem (List.getElem_mem hlt)
      have hln := lnIn hm
      have hbl := bitsL_le hln
      have q5 := xor63 (a := p.toNat) (c := bitsL (jumpsOf b p)[i]) (by omega) (by omega)
      obtain ⟨_, fl0, fls⟩ := pos_sub (flip_pos hp hm hcj)
      have hflt : p.toNat ^^^ bitsL (jumpsOf b p)[i] < (spreadL b true g).length := by rw [hsl]; exact sub_lt hb fls
      have hgg : ((spreadL b true g).map Value.bool)[p.toNat ^^^ bitsL (jumpsOf b p)[i]]? = some (.bool (spreadL b true g)[p.toNat ^^^ bitsL (jumpsOf b p)[i]]) := by simp [hflt]
      have eg : goodAt' b p g (jumpsOf b p)[i] = (spreadL b true g)[p.toNat ^^^ bitsL (jumpsOf b p)[i]] := by
        have : (flip p (jumpsOf b p)[i]).toNat = p.toNat ^^^ bitsL (jumpsOf b p)[i] := by simp [flip]
        simp [goodAt', hasS, fl0, this, hflt]
      (repeat' (first | simp -implicitDefEqProofs only [hg, hlt, lineV, go_sem] | (refine And.intro ?_ ?_; omega) | (refine And.intro (shr_bd ?_ ?_) ?_; omega; omega) | refine sl_list rfl ?_ | refine sd_list rfl ?_ | refine sl_str ?_ | refine sd_str ?_))
      refine callS (l05Bits_c (jumpsOf b p)[i] hln) rfl rfl rfl ?_
      (repeat' (first | simp -implicitDefEqProofs only [hgg, hflt, go_sem] | (refine And.intro ?_ ?_; omega) | (refine And.intro (shr_bd ?_ ?_) ?_; omega; omega) | refine sl_list rfl ?_ | refine sd_list rfl ?_ | refine sl_str ?_ | refine sd_str ?_))
      refine if_split (fun h3 => ?_) (fun h3 => ?_)
      · have e2 := filN_hit (p := goodAt' b p g) hlt (by rw [eg]; exact h3)
        (repeat' (first | simp -implicitDefEqProofs only [hg, hlt, lineV, go_sem] | (refine And.intro ?_ ?_; omega) | (refine And.intro (shr_bd ?_ ?_) ?_; omega; omega) | refine sl_list rfl ?_ | refine sd_list rfl ?_ | refine sl_str ?_ | refine sd_str ?_))
        exact ⟨i + 1, by omega, by omega, weak_of (fun i => i) (fun i => if i = 11 then 46 else i) rfl ⟨by simp [e2, lineV] <;> omega, by simp [e2, lineV] <;> omega, by simp [e2, lineV] <;> omega, by simp [e2, lineV] <;> omega, by simp [e2, lineV] <;> omega⟩ (by simp [e2, lineV] <;> omega)⟩
      · have e2 := filN_miss (p := goodAt' b p g) hlt (by rw [eg]; exact h3)
        (repeat' (first | simp -implicitDefEqProofs only [go_sem] | (refine And.intro ?_ ?_; omega) | (refine And.intro (shr_bd ?_ ?_) ?_; omega; omega) | refine sl_list rfl ?_ | refine sd_list rfl ?_ | refine sl_str ?_ | refine sd_str ?_))
        exact ⟨i + 1, by omega, by omega, weak_of (fun i => i) (fun i => i) rfl ⟨by simp [e2] <;> omega, by simp [e2] <;> omega, by simp [e2] <;> omega, by simp [e2] <;> omega, by simp [e2] <;> omega⟩ (by simp [e2] <;> omega)⟩
    · have hle : i = (jumpsOf b p).length := by omega
      subst hle
      (repeat' (first | simp -implicitDefEqProofs only [go_sem] | (refine And.intro ?_ ?_; omega) | (refine And.intro (shr_bd ?_ ?_) ?_; omega; omega) | refine sl_list rfl ?_ | refine sd_list rfl ?_ | refine sl_str ?_ | refine sd_str ?_))
      exact fin_of (fun i => i) (fun i => 11) ⟨by simp [goodJ, filN_end] <;> omega, by simp [goodJ, filN_end] <;> omega, by simp [goodJ, filN_end] <;> omega, by simp [goodJ, filN_end] <;> omega, by simp [goodJ, filN_end] <;> omega⟩ (by simp [goodJ, filN_end] <;> omega) (by first | rfl | (simp [renPV, renV1, renC, goodJ, filN_end]))
  · have e : goodJ b p g = [] := goodJ_no (by simpa using hk)
    (repeat' (first | simp -implicitDefEqProofs only [hk, go_sem] | (refine And.intro ?_ ?_; omega) | (refine And.intro (shr_bd ?_ ?_) ?_; omega; omega) | refine sl_list rfl ?_ | refine sd_list rfl ?_ | refine sl_str ?_ | refine sd_str ?_))
    exact fin_of (fun i => i) (fun i => 11) ⟨by simp [e] <;> omega, by simp [e] <;> omega, by simp [e] <;> omega, by simp [e] <;> omega, by simp [e] <;> omega⟩ (by simp [e] <;> omega) (by first | rfl | (simp [renPV, renV1, renC, e]))
set_option maxHeartbeats 4000000 in
theorem iGoodJumps_c (d : Nat) (b : Brd) (p g : Int) (p2 : p ≤ 9223372036854775807) (g2 : g ≤ 9223372036854775807) : PC Tryz.prog 193 [] [.a (brdC b), .c (.v (.int .i64 p)), .c (.v (.int .i64 g))] (.s (.c (.o d))) ⟨[], [(d, ⟨86, 3, (goodJ b p g).map lineV, false, true⟩)]⟩ := by
  refine pc_of Tryz.func193 rfl (by kernel_rfl) _ Tryz.ntmps193 (by simp) ?_
  have hjl := jumps_len (b := b) (p := p)
  repeat' first
    | (first | simp -implicitDefEqProofs only [go_sem] | (refine And.intro ?_ ?_; omega) | (refine And.intro (shr_bd ?_ ?_) ?_; omega; omega) | refine sl_list rfl ?_ | refine sd_list rfl ?_ | refine sl_str ?_ | refine sd_str ?_)
    | refine callL1 (fun d => spreadOf_c d b g true g2) rfl rfl rfl ?_
    | refine callL1 (fun d => iJumpsOf_c d b p p2) rfl rfl rfl ?_
  refine loop_step (X := Nat) (fun i => ⟨40, [(1, vN p), (7, vO 15), (8, vO 16), (19, vO 19), (20, vN (jumpsOf b p).length), (21, vN i)], ⟨[], [(16, ⟨86, 3, (filN (goodAt' b p g) (jumpsOf b p) i).map lineV, false, true⟩), (15, ⟨4, 1, (spreadL b true g).map Value.bool, false, true⟩), (19, ⟨86, 3, (jumpsOf b p).map lineV, false, true⟩)]⟩⟩)
    (fun i => i ≤ (jumpsOf b p).length) (fun i => (jumpsOf b p).length - i) 0 (by omega) (weak_of (fun i => i) (fun i => i) rfl ⟨by simp [filN_zero] <;> omega, by simp [filN_zero] <;> omega, by simp [filN_zero] <;> omega, by simp [filN_zero] <;> omega, by simp [filN_zero] <;> omega⟩ (by simp [filN_zero] <;> omega)) (fun i hi => ?_)
  have hf := filN_len (p := goodAt' b p g) (l := jumpsOf b p) (i := i)
  simp -implicitDefEqProofs only [go_sem]
  refine if_splitP (fun h => ?_) (fun h => ?_)
  · have hlt : i < (jumpsOf b p).length := by omega
    have hg := map_get (f := lineV) hlt
    obtain ⟨hp, hm, hcj⟩ := jumps_mem (List.getElem_mem hlt)
    obtain ⟨hb, p0, hsub⟩ := pos_sub hp
    have hln := lnIn hm
    have ej := jumpI_flip hp hm hcj
    (repeat' (first | simp -implicitDefEqProofs only [hg, hlt, lineV, go_sem] | (refine And.intro ?_ ?_; omega) | (refine And.intro (shr_bd ?_ ?_) ?_; omega; omega) | refine sl_list rfl ?_ | refine sd_list rfl ?_ | refine sl_str ?_ | refine sd_str ?_))
    refine callS (jumpFrom_c p (jumpsOf b p)[i] p0 p2 hln) rfl rfl rfl ?_
    (repeat' (first | simp -implicitDefEqProofs only [ej, go_sem] | (refine And.intro ?_ ?_; omega) | (refine And.intro (shr_bd ?_ ?_) ?_; omega; omega) | refine sl_list rfl ?_ | refine sd_list rfl ?_ | refine sl_str ?_ | refine sd_str ?_))
    refine callS (has_c (spreadL b true g) _) rfl rfl rfl ?_
    by_cases h3 : hasS (spreadL b true g) (flip p (jumpsOf b p)[i]) = true
    · have e2 := filN_hit (p := goodAt' b p g) hlt h3
      (repeat' (first | simp -implicitDefEqProofs only [h3, go_sem] | (refine And.intro ?_ ?_; omega) | (refine And.intro (shr_bd ?_ ?_) ?_; omega; omega) | refine sl_list rfl ?_ | refine sd_list rfl ?_ | refine sl_str ?_ | refine sd_str ?_))
      exact ⟨i + 1, by omega, by omega, weak_of (fun i => i) (fun i => if i = 16 then 37 else i) rfl ⟨by simp [e2, lineV] <;> omega, by simp [e2, lineV] <;> omega, by simp [e2, lineV] <;> omega, by simp [e2, lineV] <;> omega, by simp [e2, lineV] <;> omega⟩ (by simp [e2, lineV] <;> omega)⟩
    · have e2 := filN_miss (p := goodAt' b p g) hlt (by simpa [goodAt'] using h3)
      (repeat' (first | simp -implicitDefEqProofs only [h3, go_sem] | (refine And.intro ?_ ?_; omega) | (refine And.intro (shr_bd ?_ ?_) ?_; omega; omega) | refine sl_list rfl ?_ | refine sd_list rfl ?_ | refine sl_str ?_ | refine sd_str ?_))
      exact ⟨i + 1, by omega, by omega, weak_of (fun i => i) (fun i => i) rfl ⟨by simp [e2] <;> omega, by simp [e2] <;> omega, by simp [e2] <;> omega, by simp [e2] <;> omega, by simp [e2] <;> omega⟩ (by simp [e2] <;> omega)⟩
  · have hle : i = (jumpsOf b p).length := by omega
    subst hle
    (repeat' (first | simp -implicitDefEqProofs only [go_sem] | (refine And.intro ?_ ?_; omega) | (refine And.intro (shr_bd ?_ ?_) ?_; omega; omega) | refine sl_list rfl ?_ | refine sd_list rfl ?_ | refine sl_str ?_ | refine sd_str ?_))
    exact fin_of (fun i => i) (fun i => 16) ⟨by simp [goodJ, filN_end] <;> omega, by simp [goodJ, filN_end] <;> omega, by simp [goodJ, filN_end] <;> omega, by simp [goodJ, filN_end] <;> omega, by simp [goodJ, filN_end] <;> omega⟩ (by simp [goodJ, filN_end] <;> omega) (by first | rfl | (simp [renPV, renV1, renC, goodJ, filN_end]))
noncomputable def hintFor (x : Pz) (now : Int) : Option Ln := if puzzleOk x = true ∧ positionOk x.b now = true then (goodJ x.b now x.g).head? else none
theorem head_cons {l : List Ln} (h : 0 < l.length) : l.head? = some l[0] := by
  cases l with
  | nil => simp at h
  | cons a r => rfl
set_option maxHeartbeats 2000000 in
theorem HintFor_c (x : Pz) (now : Int) (hx : pzIn x) (n2 : now ≤ 9223372036854775807) : PC Tryz.prog 170 [] [.a (pzC x), .c (.v (.int .i64 now))] (.t [.a (lineC (lineO (hintFor x now))), .c (.v (.bool (hintFor x now).isSome))]) ⟨[], []⟩ := by
  refine pc_of Tryz.func170 rfl (by kernel_rfl) _ Tryz.ntmps170 (by simp) ?_
  (repeat' (first | simp -implicitDefEqProofs only [go_sem] | (refine And.intro ?_ ?_; omega) | (refine And.intro (shr_bd ?_ ?_) ?_; omega; omega) | refine sl_list rfl ?_ | refine sd_list rfl ?_ | refine sl_str ?_ | refine sd_str ?_))
  refine callS (PuzzleOk_c x hx) rfl rfl rfl ?_
  by_cases h1 : puzzleOk x = true
  · (repeat' (first | simp -implicitDefEqProofs only [h1, go_sem] | (refine And.intro ?_ ?_; omega) | (refine And.intro (shr_bd ?_ ?_) ?_; omega; omega) | refine sl_list rfl ?_ | refine sd_list rfl ?_ | refine sl_str ?_ | refine sd_str ?_))
    refine callS (PositionOk_c x.b now n2) rfl rfl rfl ?_
    by_cases h2 : positionOk x.b now = true
    · have hl := goodJ_len (b := x.b) (p := now) (g := x.g)
      repeat' first
        | (first | simp -implicitDefEqProofs only [h2, go_sem] | (refine And.intro ?_ ?_; omega) | (refine And.intro (shr_bd ?_ ?_) ?_; omega; omega) | refine sl_list rfl ?_ | refine sd_list rfl ?_ | refine sl_str ?_ | refine sd_str ?_)
        | refine callL1 (fun d => GoodJumps_c d x.b now x.g n2 hx.2) rfl rfl rfl ?_
      by_cases h0 : ((goodJ x.b now x.g).length : Int) = 0
      · have e : hintFor x now = none := by
          have : goodJ x.b now x.g = [] := List.eq_nil_of_length_eq_zero (by omega)
          simp [hintFor, h1, h2, this]
        (repeat' (first | simp -implicitDefEqProofs only [h0, go_sem] | (refine And.intro ?_ ?_; omega) | (refine And.intro (shr_bd ?_ ?_) ?_; omega; omega) | refine sl_list rfl ?_ | refine sd_list rfl ?_ | refine sl_str ?_ | refine sd_str ?_))
        exact fin_scal rfl (by simp [e, lineO, retOf])
      · have hlt : 0 < (goodJ x.b now x.g).length := by omega
        have e : hintFor x now = some (goodJ x.b now x.g)[0] := by simp only [hintFor, h1, h2, and_self, if_true]; exact head_cons hlt
        have hg := map_get (f := lineV) hlt
        (repeat' (first | simp -implicitDefEqProofs only [h0, hg, hlt, lineV, go_sem] | (refine And.intro ?_ ?_; omega) | (refine And.intro (shr_bd ?_ ?_) ?_; omega; omega) | refine sl_list rfl ?_ | refine sd_list rfl ?_ | refine sl_str ?_ | refine sd_str ?_))
        exact fin_scal rfl (by simp [e, lineO, retOf])
    · have e : hintFor x now = none := by simp [hintFor, h2]
      (repeat' (first | simp -implicitDefEqProofs only [h2, go_sem] | (refine And.intro ?_ ?_; omega) | (refine And.intro (shr_bd ?_ ?_) ?_; omega; omega) | refine sl_list rfl ?_ | refine sd_list rfl ?_ | refine sl_str ?_ | refine sd_str ?_))
      exact fin_scal rfl (by simp [e, lineO, retOf])
  · have e : hintFor x now = none := by simp [hintFor, h1]
    (repeat' (first | simp -implicitDefEqProofs only [h1, go_sem] | (refine And.intro ?_ ?_; omega) | (refine And.intro (shr_bd ?_ ?_) ?_; omega; omega) | refine sl_list rfl ?_ | refine sd_list rfl ?_ | refine sl_str ?_ | refine sd_str ?_))
    exact fin_scal rfl (by simp [e, lineO, retOf])
set_option maxHeartbeats 2000000 in
theorem iHintFor_c (x : Pz) (now : Int) (hx : pzIn x) (n2 : now ≤ 9223372036854775807) : PC Tryz.prog 165 [] [.a (pzC x), .c (.v (.int .i64 now))] (.t [.a (lineC (lineO (hintFor x now))), .c (.v (.bool (hintFor x now).isSome))]) ⟨[], []⟩ := by
  refine pc_of Tryz.func165 rfl (by kernel_rfl) _ Tryz.ntmps165 (by simp) ?_
  (repeat' (first | simp -implicitDefEqProofs only [go_sem] | (refine And.intro ?_ ?_; omega) | (refine And.intro (shr_bd ?_ ?_) ?_; omega; omega) | refine sl_list rfl ?_ | refine sd_list rfl ?_ | refine sl_str ?_ | refine sd_str ?_))
  refine callS (iPuzzleOk_c x hx) rfl rfl rfl ?_
  by_cases h1 : puzzleOk x = true
  · (repeat' (first | simp -implicitDefEqProofs only [h1, go_sem] | (refine And.intro ?_ ?_; omega) | (refine And.intro (shr_bd ?_ ?_) ?_; omega; omega) | refine sl_list rfl ?_ | refine sd_list rfl ?_ | refine sl_str ?_ | refine sd_str ?_))
    refine callS (iPositionOk_c x.b now n2) rfl rfl rfl ?_
    by_cases h2 : positionOk x.b now = true
    · have hl := goodJ_len (b := x.b) (p := now) (g := x.g)
      repeat' first
        | (first | simp -implicitDefEqProofs only [h2, go_sem] | (refine And.intro ?_ ?_; omega) | (refine And.intro (shr_bd ?_ ?_) ?_; omega; omega) | refine sl_list rfl ?_ | refine sd_list rfl ?_ | refine sl_str ?_ | refine sd_str ?_)
        | refine callL1 (fun d => iGoodJumps_c d x.b now x.g n2 hx.2) rfl rfl rfl ?_
      by_cases h0 : ((goodJ x.b now x.g).length : Int) = 0
      · have e : hintFor x now = none := by
          have : goodJ x.b now x.g = [] := List.eq_nil_of_length_eq_zero (by omega)
          simp [hintFor, h1, h2, this]
        (repeat' (first | simp -implicitDefEqProofs only [h0, go_sem] | (refine And.intro ?_ ?_; omega) | (refine And.intro (shr_bd ?_ ?_) ?_; omega; omega) | refine sl_list rfl ?_ | refine sd_list rfl ?_ | refine sl_str ?_ | refine sd_str ?_))
        exact fin_scal rfl (by simp [e, lineO, retOf])
      · have hlt : 0 < (goodJ x.b now x.g).length := by omega
        have e : hintFor x now = some (goodJ x.b now x.g)[0] := by simp only [hintFor, h1, h2, and_self, if_true]; exact head_cons hlt
        have hg := map_get (f := lineV) hlt
        (repeat' (first | simp -implicitDefEqProofs only [h0, hg, hlt, lineV, go_sem] | (refine And.intro ?_ ?_; omega) | (refine And.intro (shr_bd ?_ ?_) ?_; omega; omega) | refine sl_list rfl ?_ | refine sd_list rfl ?_ | refine sl_str ?_ | refine sd_str ?_))
        exact fin_scal rfl (by simp [e, lineO, retOf])
    · have e : hintFor x now = none := by simp [hintFor, h2]
      (repeat' (first | simp -implicitDefEqProofs only [h2, go_sem] | (refine And.intro ?_ ?_; omega) | (refine And.intro (shr_bd ?_ ?_) ?_; omega; omega) | refine sl_list rfl ?_ | refine sd_list rfl ?_ | refine sl_str ?_ | refine sd_str ?_))
      exact fin_scal rfl (by simp [e, lineO, retOf])
  · have e : hintFor x now = none := by simp [hintFor, h1]
    (repeat' (first | simp -implicitDefEqProofs only [h1, go_sem] | (refine And.intro ?_ ?_; omega) | (refine And.intro (shr_bd ?_ ?_) ?_; omega; omega) | refine sl_list rfl ?_ | refine sd_list rfl ?_ | refine sl_str ?_ | refine sd_str ?_))
    exact fin_scal rfl (by simp [e, lineO, retOf])
end Go.Proofs.YtahnbliabllflaaGreatDoor
