/-
  The law FnExactClaimRecord returns true at every input, and what it was handed reads as it did.
-/
import Derived.Test.YtncdcgaaeclhiaaEg
import Derived.Test.YtncdcgaaeclhiaaR8
namespace Go.Proofs.Ytncdcgaaeclhiaa.fnExactClaimRecord
open Go.ChangeShapes Go.WideShapes Go.ChangeAt Go.RowKit Go.PL
set_option linter.unusedVariables false
theorem own : ownKnob Try.prog.godebug = none := by kernel_rfl
theorem laid : laidOutB Try.prog = true := by kernel_rfl
set_option maxRecDepth 100000 in
theorem lifted (os : Os) (started : os.Started) (H : Type) (enc : TypeId × Value → H) :
    ReturnsInHanded {} Try.checked os 9 .any (Rows.fnExactClaimRecordSpec.pre6 enc Try.prog Try.f9 Rows.fnExactClaimRecordRow.domain false) (Rows.fnExactClaimRecordSpec.post enc Try.prog Try.f9 false true false false) := by
  refine returnsInHanded_of_change (C := Try.checked) own started (by kernel_rfl) Try.func9
    (ChangeSpec.witness6 (enc := enc) (C := Try.checked) false ⟨#[], #[.agg #[.int .i64 0, .int .i64 0, .int .i64 0, .int .i64 0, .int .i64 0, .slice none 0 0, .int .i64 0, .int .i64 0, .int .i64 0, .int .i64 0, .int .i64 0, .int .i64 0, .slice none 0 0], .int .i64 0, .int .i64 0], []⟩ 8 (by kernel_rfl) (by kernel_rfl) (by kernel_rfl) (by kernel_rfl)) ?_
  intro W base args ds gs before hval0 hW hcnd _
  have hval : ∀ (j : Nat) t v, Try.f9.params[j]? = some t → args[j]? = some v → Value.okWide Try.prog W .any base t v := hval0
  have hW' := hW
  obtain ⟨p, q, hA0, hV, rfl, hfz, hnd⟩ := hW
  have hA : DataW.TrodAll enc Try.prog W 0 (fun _ => true) true Try.f9.params.toList args.toList ds p := hA0
  rw [Try.params9] at hA hval
  obtain ⟨v0, vs0, d0, ds0, p0, q0, hargs, rfl, rfl, h0, r0⟩ := trodAll_cons hA
  obtain ⟨v1, vs1, d1, ds1, p1, q1, rfl, rfl, rfl, h1, r1⟩ := trodAll_cons r0
  obtain ⟨v2, vs2, d2, ds2, p2, q2, rfl, rfl, rfl, h2, r2⟩ := trodAll_cons r1
  obtain ⟨rfl, rfl, rfl⟩ := trodAll_nil r2
  obtain rfl : args = #[v0, v1, v2] := by cases args; simp_all
  obtain ⟨rfl, rfl⟩ := trodVars_none hV
  obtain ⟨c0, e0, t0⟩ := read_agg (m := 6) (ks := [.z (.i .i64), .z (.i .i64), .z (.i .i64), .z (.i .i64), .z (.i .i64), .l 3 true [.i .i64, .i .i64, .i .i64], .z (.i .i64), .z (.i .i64), .z (.i .i64), .z (.i .i64), .z (.i .i64), .z (.i .i64), .l 4 true recK]) Try.underlying63 (by kernel_rfl) (by kernel_rfl) (hval 0 63 v0 rfl rfl) h0
  obtain ⟨c1, e1, t1⟩ := read_one (m := 4) (k := .z (.i .i64)) (by rw [Try.underlying3]; simp) (by kernel_rfl) (by kernel_rfl) (hval 1 3 v1 rfl rfl) h1 (by have := hval 1 3 v1 rfl rfl; first | (obtain ⟨_, _, _, rfl⟩ := okWide_slice Try.underlying3 this; rfl) | (obtain ⟨_, rfl⟩ := okWide_int Try.underlying3 this; rfl) | (obtain ⟨_, rfl⟩ := okWide_string Try.underlying3 this; rfl))
  obtain ⟨c2, e2, t2⟩ := read_one (m := 4) (k := .z (.i .i64)) (by rw [Try.underlying3]; simp) (by kernel_rfl) (by kernel_rfl) (hval 2 3 v2 rfl rfl) h2 (by have := hval 2 3 v2 rfl rfl; first | (obtain ⟨_, _, _, rfl⟩ := okWide_slice Try.underlying3 this; rfl) | (obtain ⟨_, rfl⟩ := okWide_int Try.underlying3 this; rfl) | (obtain ⟨_, rfl⟩ := okWide_string Try.underlying3 this; rfl))
  refine (calls_true (law_c t0 t1 t2) W #[v0, v1, v2] ⟨e0, e1, e2, trivial⟩).mono fun e W' ⟨he, hb⟩ => ?_
  subst he
  exact ⟨_, rfl, post_true (tb := 4) laid (by kernel_rfl) hW' hb rfl (by kernel_rfl) Try.underlying4 rfl rfl⟩
theorem over : Rows.fnExactClaimRecordRow.holds Try.pinned (OpenSpec.ofChange Rows.fnExactClaimRecordSpec) :=
  OpenClaim.holds_of_wide 9 Try.f9 rfl rfl rfl rfl rfl rfl rfl ⟨rfl, rfl, rfl, rfl, rfl⟩ rfl rfl rfl rfl rfl (by kernel_rfl) Try.func9 (by kernel_rfl)
    (of_decide_eq_true (by kernel_rfl)) (by unfold Func.isWrapper; first | (rw [if_pos (by decide +kernel)]; kernel_rfl) | (rw [if_neg (by decide +kernel)]; exact ⟨rfl, rfl⟩))
    (fun os started H enc _ => lifted os started H enc)
theorem proved : Rows.FnExactClaimRecordSaid :=
  over
#print axioms proved
end Go.Proofs.Ytncdcgaaeclhiaa.fnExactClaimRecord
