/-
  The law FnExactIsReplay returns true at every input, and what it was handed reads as it did.
-/
import Derived.Test.YtncdcgaaeclhiaaGreatEg
import Derived.Test.YtncdcgaaeclhiaaGreatT5
namespace Go.Proofs.YtncdcgaaeclhiaaGreat.fnExactIsReplay
open Go.ChangeShapes Go.WideShapes Go.ChangeAt Go.RowKit Go.PL
set_option linter.unusedVariables false
theorem own : ownKnob Tryz.prog.godebug = none := by kernel_rfl
theorem laid : laidOutB Tryz.prog = true := by kernel_rfl
set_option maxRecDepth 100000 in
theorem lifted (os : Os) (started : os.Started) (H : Type) (enc : TypeId × Value → H) :
    ReturnsInHanded {} Tryz.checked os 4 .any (Rows.fnExactIsReplaySpec.pre6 enc Tryz.prog Tryz.f4 Rows.fnExactIsReplayRow.domain false) (Rows.fnExactIsReplaySpec.post enc Tryz.prog Tryz.f4 false true false false) := by
  refine returnsInHanded_of_change (C := Tryz.checked) own started (by kernel_rfl) Tryz.func4
    (ChangeSpec.witness6 (enc := enc) (C := Tryz.checked) false ⟨#[], #[.agg #[.int .i64 0, .int .i64 0, .int .i64 0, .int .i64 0, .int .i64 0, .slice none 0 0, .int .i64 0, .int .i64 0, .int .i64 0, .int .i64 0, .int .i64 0, .int .i64 0, .slice none 0 0], .slice none 0 0, .slice none 0 0], []⟩ 8 (by kernel_rfl) (by kernel_rfl) (by kernel_rfl) (by kernel_rfl)) ?_
  intro W base args ds gs before hval0 hW hcnd _
  have hval : ∀ (j : Nat) t v, Tryz.f4.params[j]? = some t → args[j]? = some v → Value.okWide Tryz.prog W .any base t v := hval0
  have hW' := hW
  obtain ⟨p, q, hA0, hV, rfl, hfz, hnd⟩ := hW
  have hA : DataW.TrodAll enc Tryz.prog W 0 (fun _ => true) true Tryz.f4.params.toList args.toList ds p := hA0
  rw [Tryz.params4] at hA hval
  obtain ⟨v0, vs0, d0, ds0, p0, q0, hargs, rfl, rfl, h0, r0⟩ := trodAll_cons hA
  obtain ⟨v1, vs1, d1, ds1, p1, q1, rfl, rfl, rfl, h1, r1⟩ := trodAll_cons r0
  obtain ⟨v2, vs2, d2, ds2, p2, q2, rfl, rfl, rfl, h2, r2⟩ := trodAll_cons r1
  obtain ⟨rfl, rfl, rfl⟩ := trodAll_nil r2
  obtain rfl : args = #[v0, v1, v2] := by cases args; simp_all
  obtain ⟨rfl, rfl⟩ := trodVars_none hV
  obtain ⟨c0, e0, t0⟩ := read_agg (m := 6) (ks := [.z (.i .i64), .z (.i .i64), .z (.i .i64), .z (.i .i64), .z (.i .i64), .l 3 true [.i .i64, .i .i64, .i .i64], .z (.i .i64), .z (.i .i64), .z (.i .i64), .z (.i .i64), .z (.i .i64), .z (.i .i64), .l 4 true recK]) Tryz.underlying33 (by kernel_rfl) (by kernel_rfl) (hval 0 33 v0 rfl rfl) h0
  obtain ⟨c1, e1, t1⟩ := read_one (m := 4) (k := .l 3 true [.i .i64, .i .i64, .i .i64]) (by rw [Tryz.underlying55]; simp) (by kernel_rfl) (by kernel_rfl) (hval 1 55 v1 rfl rfl) h1 (by have := hval 1 55 v1 rfl rfl; first | (obtain ⟨_, _, _, rfl⟩ := okWide_slice Tryz.underlying55 this; rfl) | (obtain ⟨_, rfl⟩ := okWide_int Tryz.underlying55 this; rfl) | (obtain ⟨_, rfl⟩ := okWide_string Tryz.underlying55 this; rfl))
  obtain ⟨c2, e2, t2⟩ := read_one (m := 4) (k := .l 1 false [.i .i64]) (by rw [Tryz.underlying56]; simp) (by kernel_rfl) (by kernel_rfl) (hval 2 56 v2 rfl rfl) h2 (by have := hval 2 56 v2 rfl rfl; first | (obtain ⟨_, _, _, rfl⟩ := okWide_slice Tryz.underlying56 this; rfl) | (obtain ⟨_, rfl⟩ := okWide_int Tryz.underlying56 this; rfl) | (obtain ⟨_, rfl⟩ := okWide_string Tryz.underlying56 this; rfl))
  refine (calls_true (law_c t0 t1 t2) W #[v0, v1, v2] ⟨e0, e1, e2, trivial⟩).mono fun e W' ⟨he, hb⟩ => ?_
  subst he
  exact ⟨_, rfl, post_true (tb := 4) laid (by kernel_rfl) hW' hb rfl (by kernel_rfl) Tryz.underlying4 rfl rfl⟩
theorem over : Rows.fnExactIsReplayRow.holds Tryz.pinned (OpenSpec.ofChange Rows.fnExactIsReplaySpec) :=
  OpenClaim.holds_of_wide 4 Tryz.f4 rfl rfl rfl rfl rfl rfl rfl ⟨rfl, rfl, rfl, rfl, rfl⟩ rfl rfl rfl rfl rfl (by kernel_rfl) Tryz.func4 (by kernel_rfl)
    (of_decide_eq_true (by kernel_rfl)) (by unfold Func.isWrapper; first | (rw [if_pos (by decide +kernel)]; kernel_rfl) | (rw [if_neg (by decide +kernel)]; exact ⟨rfl, rfl⟩))
    (fun os started H enc _ => lifted os started H enc)
theorem proved : Rows.FnExactIsReplaySaid :=
  over
#print axioms proved
end Go.Proofs.YtncdcgaaeclhiaaGreat.fnExactIsReplay
