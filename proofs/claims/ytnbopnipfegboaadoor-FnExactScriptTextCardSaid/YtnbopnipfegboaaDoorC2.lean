/-
  The law FnExactScriptText returns true at every input, and what it was handed reads as it did; with the package-level variables that its row lists, tied to the program.
-/
import Derived.Test.YtnbopnipfegboaaDoorEo
import Derived.Test.YtnbopnipfegboaaDoorB4
namespace Go.Proofs.YtnbopnipfegboaaDoor.fnExactScriptTextCard
open Go.ChangeShapes Go.WideShapes Go.ChangeAt Go.RowKit Go.PL
set_option linter.unusedVariables false
theorem own : ownKnob Tryd.prog.godebug = none := by kernel_rfl
theorem laid : laidOutB Tryd.prog = true := by kernel_rfl
/-- the heap that the door leaves meets the condition -/
theorem door_met (os : Os) (args : Array Value) : laidMetH Tryd.prog Rows.fnExactScriptTextRow.laid ((World.doorLaid Tryd.prog 400 os).forCall (fun _ _ => 0) ⟨#[], args, []⟩).memory :=
  laidMetH_of_parts3 (fuel := 8) (laidMet_of_run' 8 (by kernel_rfl) (by kernel_rfl)) (by kernel_rfl) (by kernel_rfl)
/-- what the condition gives the walk -/
theorem tab0 {W : World} (h : laidMetH Tryd.prog Rows.fnExactScriptTextRow.laid W) : Tab0 (gOf W) ⟨[], []⟩ := by
  rw [MakeChecks.laidMetH_plain _ _ _ (by kernel_rfl)] at h
  refine tab0_of (rows := [(1, (List.range 20).map fun i => Value.int .u64 (10 ^ i : Nat))]) ⟨rfl, List.mem_singleton.2 rfl, trivial⟩ (fun x hx => ?_)
  obtain rfl := List.mem_singleton.1 hx
  exact ⟨Nat.succ_pos _, pow_row h (List.Mem.tail _ (List.Mem.tail _ (List.Mem.head _))) (by kernel_rfl)⟩
set_option maxRecDepth 100000 in
theorem lifted (os : Os) (started : os.Started) (H : Type) (enc : TypeId × Value → H) :
    ReturnsInHanded {} Tryd.checked os 4 .any (fun w args => (Rows.fnExactScriptTextSpec.pre enc Tryd.prog Tryd.f4 [] false w args ∧ laidMetH Tryd.prog Rows.fnExactScriptTextRow.laid w) ∧ sizedMet enc Tryd.prog Tryd.f4 (OpenSpec.ofChange Rows.fnExactScriptTextSpec) false w args)
      (Rows.fnExactScriptTextSpec.post enc Tryd.prog Tryd.f4 false true false false) := by
  refine returnsInHanded_of_change_and (C := Tryd.checked) (X := fun w _ => laidMetH Tryd.prog Rows.fnExactScriptTextRow.laid w) (fun _ _ _ hh h => h.of_heap hh) own started (by kernel_rfl) Tryd.func4
    (ChangeSpec.witness_shaped (enc := enc) (C := Tryd.checked) (os := os) (X := fun w _ => laidMetH Tryd.prog Rows.fnExactScriptTextRow.laid w) false (World.doorLaid Tryd.prog 400 os) #[.slice none 0 0] 8 rfl (World.shaped_of_RefB (by kernel_rfl) (by kernel_rfl)) (by kernel_rfl) (by kernel_rfl) (by kernel_rfl) (door_met os _)) ?_
  intro W base args ds gs before hval0 hW hcnd _ hL _
  have hval : ∀ (j : Nat) t v, Tryd.f4.params[j]? = some t → args[j]? = some v → Value.okWide Tryd.prog W .any base t v := hval0
  have hW' := hW
  obtain ⟨p, q, hA0, hV, rfl, hfz, hnd⟩ := hW
  have hA : DataW.TrodAll enc Tryd.prog W 0 (fun _ => true) true Tryd.f4.params.toList args.toList ds p := hA0
  rw [Tryd.params4] at hA hval
  obtain ⟨v0, vs0, d0, ds0, p0, q0, hargs, rfl, rfl, h0, r0⟩ := trodAll_cons hA
  obtain ⟨rfl, rfl, rfl⟩ := trodAll_nil r0
  obtain rfl : args = #[v0] := by cases args; simp_all
  obtain ⟨rfl, rfl⟩ := trodVars_none hV
  obtain ⟨c0, e0, t0⟩ := read_one (m := 4) (k := .l 3 true [.i .i64, .i .i64, .i .i64]) (by rw [Tryd.underlying29]; simp) (by kernel_rfl) (by kernel_rfl) (hval 0 29 v0 rfl rfl) h0 (by have := hval 0 29 v0 rfl rfl; first | (obtain ⟨_, _, _, rfl⟩ := okWide_slice Tryd.underlying29 this; rfl) | (obtain ⟨_, rfl⟩ := okWide_int Tryd.underlying29 this; rfl) | (obtain ⟨_, rfl⟩ := okWide_string Tryd.underlying29 this; rfl))
  refine (calls_true (fnExactScriptText.law_c t0) W (tab0 hL) #[v0] ⟨e0, trivial⟩).mono fun e W' ⟨he, hb⟩ => ?_
  subst he
  exact ⟨_, rfl, post_true (tb := 4) laid (by kernel_rfl) hW' hb rfl (by kernel_rfl) Tryd.underlying4 rfl rfl⟩
theorem over : Rows.fnExactScriptTextRow.holds Tryd.pinned (OpenSpec.ofChange Rows.fnExactScriptTextSpec) :=
  OpenClaim.holds_of_wide 4 Tryd.f4 rfl rfl rfl rfl rfl rfl rfl ⟨rfl, rfl, rfl, rfl, rfl⟩ rfl rfl rfl rfl rfl (by kernel_rfl) Tryd.func4 (by kernel_rfl)
    (of_decide_eq_true (by kernel_rfl)) (by unfold Func.isWrapper; first | (rw [if_pos (by decide +kernel)]; kernel_rfl) | (rw [if_neg (by decide +kernel)]; exact ⟨rfl, rfl⟩))
    (fun os started H enc _ => lifted os started H enc)
theorem proved : Rows.FnExactScriptTextCardSaid :=
  Claim7.holds_tied_plain_at .later [] Rows.fnExactScriptTextCard.laidKinds true Rows.fnExactScriptTextCard.stood.harness Rows.fnExactScriptTextCard.stood.looks
    over (fun _ h => by cases h) (by kernel_rfl) (fun _ h => by cases h) fnExactScriptText_row_tie rfl ⟨rfl, rfl⟩ (by kernel_rfl) rfl
    (fun f fn hf hfn => by
      obtain rfl : f = 4 := Option.some.inj ((show Tryd.prog.funcNamed Tryd.f4.name = some 4 by kernel_rfl).symm.trans hf) |>.symm
      obtain rfl : fn = Tryd.f4 := (Option.some.inj (Tryd.func4.symm.trans hfn)).symm
      exact ⟨by kernel_rfl, fun j t ht => by
        have hm : t ∈ Tryd.f4.params.toList := by simpa using Array.mem_of_getElem? ht
        have hall : (Tryd.f4.params.toList.all fun u => !Tryd.prog.wantsStandIn u) = true := by kernel_rfl
        exact (show Tryd.prog.wantsStandIn t = false by simpa using List.all_eq_true.1 hall t hm)⟩)
    (by kernel_rfl)
#print axioms proved
end Go.Proofs.YtnbopnipfegboaaDoor.fnExactScriptTextCard
