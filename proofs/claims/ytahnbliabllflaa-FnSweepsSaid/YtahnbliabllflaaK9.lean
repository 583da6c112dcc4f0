/-
  The law FnSweeps returns true at every input, and what it was handed reads as it did.
-/
import Derived.Test.YtahnbliabllflaaEg
import Derived.Test.YtahnbliabllflaaWd
namespace Go.Proofs.Ytahnbliabllflaa.fnSweeps
open Go.ChangeShapes Go.WideShapes Go.ChangeAt Go.RowKit Go.PL
set_option linter.unusedVariables false
theorem own : ownKnob Try.prog.godebug = none := by kernel_rfl
theorem laid : laidOutB Try.prog = true := by kernel_rfl
set_option maxRecDepth 100000 in
theorem lifted (os : Os) (started : os.Started) (H : Type) (enc : TypeId × Value → H) :
    ReturnsInHanded {} Try.checked os 3 .any (Rows.fnSweepsSpec.pre6 enc Try.prog Try.f3 Rows.fnSweepsRow.domain false) (Rows.fnSweepsSpec.post enc Try.prog Try.f3 false true false false) := by
  refine returnsInHanded_of_change (C := Try.checked) own started (by kernel_rfl) Try.func3
    (ChangeSpec.witness6 (enc := enc) (C := Try.checked) false ⟨#[], #[.slice none 0 0], []⟩ 8 (by kernel_rfl) (by kernel_rfl) (by kernel_rfl) (by kernel_rfl)) ?_
  intro W base args ds gs before hval0 hW hcnd _
  have hval : ∀ (j : Nat) t v, Try.f3.params[j]? = some t → args[j]? = some v → Value.okWide Try.prog W .any base t v := hval0
  have hW' := hW
  obtain ⟨p, q, hA0, hV, rfl, hfz, hnd⟩ := hW
  have hA : DataW.TrodAll enc Try.prog W 0 (fun _ => true) true Try.f3.params.toList args.toList ds p := hA0
  rw [Try.params3] at hA hval
  obtain ⟨v0, vs0, d0, ds0, p0, q0, hargs, rfl, rfl, h0, r0⟩ := trodAll_cons hA
  obtain ⟨rfl, rfl, rfl⟩ := trodAll_nil r0
  obtain rfl : args = #[v0] := by cases args; simp_all
  obtain ⟨rfl, rfl⟩ := trodVars_none hV
  obtain ⟨c0, e0, t0⟩ := read_one (m := 4) (k := .l 1 false [.i .u8]) (by rw [Try.underlying22]; simp) (by kernel_rfl) (by kernel_rfl) (hval 0 22 v0 rfl rfl) h0 (by have := hval 0 22 v0 rfl rfl; first | (obtain ⟨_, _, _, rfl⟩ := okWide_slice Try.underlying22 this; rfl) | (obtain ⟨_, rfl⟩ := okWide_int Try.underlying22 this; rfl) | (obtain ⟨_, rfl⟩ := okWide_string Try.underlying22 this; rfl))
  refine (calls_true (law_c t0) W (tab_none ⟨rfl, trivial⟩ _ _) #[v0] ⟨e0, trivial⟩).mono fun e W' ⟨he, hb⟩ => ?_
  subst he
  exact ⟨_, rfl, post_true (tb := 4) laid (by kernel_rfl) hW' hb rfl (by kernel_rfl) Try.underlying4 rfl rfl⟩
theorem over : Rows.fnSweepsRow.holds Try.pinned (OpenSpec.ofChange Rows.fnSweepsSpec) :=
  OpenClaim.holds_of_wide 3 Try.f3 rfl rfl rfl rfl rfl rfl rfl ⟨rfl, rfl, rfl, rfl, rfl⟩ rfl rfl rfl rfl rfl (by kernel_rfl) Try.func3 (by kernel_rfl)
    (of_decide_eq_true (by kernel_rfl)) (by unfold Func.isWrapper; first | (rw [if_pos (by decide +kernel)]; kernel_rfl) | (rw [if_neg (by decide +kernel)]; exact ⟨rfl, rfl⟩))
    (fun os started H enc _ => lifted os started H enc)
theorem proved : Rows.FnSweepsSaid :=
  over
#print axioms proved
end Go.Proofs.Ytahnbliabllflaa.fnSweeps
