/-
  The law FnEveryScript returns true at every input, and what it was handed reads as it did; with the package-level variables that its row lists, tied to the program.
-/
import Derived.Test.YtahnbliabllflaaGreatDoorEp
import Derived.Test.YtahnbliabllflaaGreatDoorBM
namespace Go.Proofs.YtahnbliabllflaaGreatDoor.fnEveryScriptCard
open Go.ChangeShapes Go.WideShapes Go.ChangeAt Go.RowKit Go.PL
set_option linter.unusedVariables false
theorem own : ownKnob Tryz.prog.godebug = none := by kernel_rfl
theorem laid : laidOutB Tryz.prog = true := by kernel_rfl
/-- the heap that the door leaves meets the condition -/
theorem door_met (os : Os) (args : Array Value) : laidMetH Tryz.prog Rows.fnEveryScriptRow.laid ((layW (World.doorLaid Tryz.prog 400 os) 4 firstL).forCall (fun _ _ => 0) ⟨#[], args, []⟩).memory :=
  laidMetH_of_parts3 (fuel := 8) (laidMet_of_run3 8 (by kernel_rfl) (by kernel_rfl) (by kernel_rfl)) (by kernel_rfl) (by kernel_rfl)
/-- what the condition gives the walk -/
theorem tab0 {W : World} (hs : W.ShapedOpen Tryz.prog) (h : laidMetH Tryz.prog Rows.fnEveryScriptRow.laid W) : Tab0 (gOf W) ⟨[], []⟩ := by
  rw [MakeChecks.laidMetH_plain _ _ _ (by kernel_rfl)] at h
  obtain ⟨ur, vr, tr, fr, hr⟩ := laid_iface (g := 2) h (n := "strconv.ErrRange") (List.Mem.tail _ (List.Mem.tail _ (List.Mem.tail _ (List.Mem.tail _ (List.Mem.head _))))) (by kernel_rfl)
  obtain ⟨us, vs, ts, fs, hs2⟩ := laid_iface (g := 1) h (n := "strconv.ErrSyntax") (List.Mem.tail _ (List.Mem.tail _ (List.Mem.tail _ (List.Mem.tail _ (List.Mem.tail _ (List.Mem.head _)))))) (by kernel_rfl)
  obtain ⟨m, r, ty, fz, hm⟩ := max_row hs
  refine tab0_of (rows := [(3, (List.range 20).map fun i => Value.int .u64 (10 ^ i : Nat)), (1, [.iface us vs]), (2, [.iface ur vr]), (0, Value.int .i64 m :: r)]) ⟨rfl, ⟨_, _, ⟨_, _, rfl⟩, ⟨_, _, rfl⟩, List.Mem.tail _ (List.Mem.head _), List.Mem.tail _ (List.Mem.tail _ (List.Mem.head _))⟩, ⟨_, _, List.Mem.tail _ (List.Mem.tail _ (List.Mem.tail _ (List.Mem.head _)))⟩, List.Mem.head _, trivial⟩ (fun x hx => ?_)
  rcases List.mem_cons.1 hx with rfl | hx
  · exact ⟨Nat.succ_pos _, pow_row h (List.Mem.tail _ (List.Mem.tail _ (List.Mem.head _))) (by kernel_rfl)⟩
  rcases List.mem_cons.1 hx with rfl | hx
  · exact ⟨Nat.succ_pos _, ⟨ts, fs, hs2⟩⟩
  rcases List.mem_cons.1 hx with rfl | hx
  · exact ⟨Nat.succ_pos _, ⟨tr, fr, hr⟩⟩
  obtain rfl := List.mem_singleton.1 hx
  exact ⟨Nat.succ_pos _, ⟨ty, fz, hm⟩⟩
set_option maxRecDepth 100000 in
theorem lifted (os : Os) (started : os.Started) (H : Type) (enc : TypeId × Value → H) :
    ReturnsInHanded {} Tryz.checked os 6 .any (fun w args => (Rows.fnEveryScriptSpec.pre enc Tryz.prog Tryz.f6 [] false w args ∧ laidMetH Tryz.prog Rows.fnEveryScriptRow.laid w) ∧ sizedMet enc Tryz.prog Tryz.f6 (OpenSpec.ofChange Rows.fnEveryScriptSpec) false w args)
      (Rows.fnEveryScriptSpec.post enc Tryz.prog Tryz.f6 false true false false) := by
  refine returns_told (C := Tryz.checked) (X := fun w _ => laidMetH Tryz.prog Rows.fnEveryScriptRow.laid w) (fun _ _ _ hh h => h.of_heap hh) own started (by kernel_rfl) Tryz.func6
    (ChangeSpec.witness_shaped (enc := enc) (C := Tryz.checked) (os := os) (X := fun w _ => laidMetH Tryz.prog Rows.fnEveryScriptRow.laid w) false (layW (World.doorLaid Tryz.prog 400 os) 4 firstL) #[.string ByteArray.empty] 8 rfl (World.shaped_of_RefB (by kernel_rfl) (by kernel_rfl)) (by kernel_rfl) (by kernel_rfl) (by kernel_rfl) (door_met os _)) ?_
  intro W base args ds gs before hval0 hW hs hL
  have hval : ∀ (j : Nat) t v, Tryz.f6.params[j]? = some t → args[j]? = some v → Value.okWide Tryz.prog W .any base t v := hval0
  have hW' := hW
  obtain ⟨p, q, hA0, hV, rfl, hfz, hnd⟩ := hW
  have hA : DataW.TrodAll enc Tryz.prog W 0 (fun _ => true) true Tryz.f6.params.toList args.toList ds p := hA0
  rw [Tryz.params6] at hA hval
  obtain ⟨v0, vs0, d0, ds0, p0, q0, hargs, rfl, rfl, h0, r0⟩ := trodAll_cons hA
  obtain ⟨rfl, rfl, rfl⟩ := trodAll_nil r0
  obtain rfl : args = #[v0] := by cases args; simp_all
  obtain ⟨rfl, rfl⟩ := trodVars_none hV
  obtain ⟨c0, e0, t0⟩ := read_one (m := 4) (k := .z .s) (by rw [Tryz.underlying9]; simp) (by kernel_rfl) (by kernel_rfl) (hval 0 9 v0 rfl rfl) h0 (by have := hval 0 9 v0 rfl rfl; first | (obtain ⟨_, _, _, rfl⟩ := okWide_slice Tryz.underlying9 this; rfl) | (obtain ⟨_, rfl⟩ := okWide_int Tryz.underlying9 this; rfl) | (obtain ⟨_, rfl⟩ := okWide_string Tryz.underlying9 this; rfl))
  refine (calls_true (fnEveryScript.law_c t0) W (tab0 hs hL) #[v0] ⟨e0, trivial⟩).mono fun e W' ⟨he, hb⟩ => ?_
  subst he
  exact ⟨_, rfl, post_true (tb := 4) laid (by kernel_rfl) hW' hb rfl (by kernel_rfl) Tryz.underlying4 rfl rfl⟩
theorem over : Rows.fnEveryScriptRow.holds Tryz.pinned (OpenSpec.ofChange Rows.fnEveryScriptSpec) :=
  OpenClaim.holds_of_wide 6 Tryz.f6 rfl rfl rfl rfl rfl rfl rfl ⟨rfl, rfl, rfl, rfl, rfl⟩ rfl rfl rfl rfl rfl (by kernel_rfl) Tryz.func6 (by kernel_rfl)
    (of_decide_eq_true (by kernel_rfl)) (by unfold Func.isWrapper; first | (rw [if_pos (by decide +kernel)]; kernel_rfl) | (rw [if_neg (by decide +kernel)]; exact ⟨rfl, rfl⟩))
    (fun os started H enc _ => lifted os started H enc)
theorem proved : Rows.FnEveryScriptCardSaid :=
  Claim7.holds_tied_plain_at .later [] Rows.fnEveryScriptCard.laidKinds true Rows.fnEveryScriptCard.stood.harness Rows.fnEveryScriptCard.stood.looks
    over (fun _ h => by cases h) (by kernel_rfl) (fun _ h => by cases h) fnEveryScript_row_tie rfl ⟨rfl, rfl⟩ (by kernel_rfl) rfl
    (fun f fn hf hfn => by
      obtain rfl : f = 6 := Option.some.inj ((show Tryz.prog.funcNamed Tryz.f6.name = some 6 by kernel_rfl).symm.trans hf) |>.symm
      obtain rfl : fn = Tryz.f6 := (Option.some.inj (Tryz.func6.symm.trans hfn)).symm
      exact ⟨by kernel_rfl, fun j t ht => by
        have hm : t ∈ Tryz.f6.params.toList := by simpa using Array.mem_of_getElem? ht
        have hall : (Tryz.f6.params.toList.all fun u => !Tryz.prog.wantsStandIn u) = true := by kernel_rfl
        exact (show Tryz.prog.wantsStandIn t = false by simpa using List.all_eq_true.1 hall t hm)⟩)
    (by kernel_rfl)
#print axioms proved
end Go.Proofs.YtahnbliabllflaaGreatDoor.fnEveryScriptCard
