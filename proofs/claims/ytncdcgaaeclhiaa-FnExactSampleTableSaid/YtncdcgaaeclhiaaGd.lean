/-
  The comparison of structs of numbers.
-/
import Derived.Test.YtncdcgaaeclhiaaGc
import Derived.Laws.StructEq
namespace Go.PL
set_option linter.unusedSimpArgs false
/-- the type is a struct of fields that are int, one cell each, in order -/
def intF (P : Program) : Nat → List Field → Bool
  | _, [] => true
  | i, f :: fs => (f.name != "_") && (f.offset == i) && (match P.underlying f.type with | some (.int .i64) => true | _ => false) && (match aggN P f.type with | some none => true | _ => false) && intF P (i + 1) fs
def intS (P : Program) (t : TypeId) (n : Nat) : Bool :=
  (match P.underlying t with | some (.struct fs) => fs.size == n && intF P 0 fs.toList | _ => false) && !P.stoodInHeld t && !P.eqGuardType P.depth t
theorem run_eqFields {P : Program} {w : World} (xs ys : List Int) : ∀ (fs : List Field) (i : Nat), intF P i fs = true → i + fs.length = xs.length → xs.length = ys.length →
    (Op.eqFields 9999 (xs.map (Value.int .i64)).toArray (ys.map (Value.int .i64)).toArray fs).run P w = .ok (decide (xs.drop i = ys.drop i)) w
  | [], i, _, hl, he => by
    have h1 : xs.drop i = [] := by rw [List.drop_eq_nil_iff]; simp at hl; omega
    have h2 : ys.drop i = [] := by rw [List.drop_eq_nil_iff]; simp at hl; omega
    simp [Op.eqFields, h1, h2]
  | f :: fs, i, hf, hl, he => by
    simp only [intF, Bool.and_eq_true, beq_iff_eq, bne_iff_ne] at hf
    obtain ⟨⟨⟨⟨h1, h2⟩, h3⟩, h4⟩, h5⟩ := hf
    have hi : i < xs.length := by simp at hl; omega
    have hi' : i < ys.length := by omega
    have hu : P.underlying f.type = some (.int .i64) := by
      split at h3
      · rename_i h; exact h
      · cases h3
    have ha : aggN P f.type = some none := by
      split at h4
      · rename_i h; exact h
      · cases h4
    have ih := run_eqFields (P := P) (w := w) xs ys fs (i + 1) h5 (by simp at hl; omega) he
    have hpx : (part f.type (xs.map (Value.int .i64)).toArray f.offset).run P w = .ok (.int .i64 xs[i]) w := by
      simp [part, (run_isAgg ha w).1, h2, hi]
    have hpy : (part f.type (ys.map (Value.int .i64)).toArray f.offset).run P w = .ok (.int .i64 ys[i]) w := by
      simp [part, (run_isAgg ha w).1, h2, hi']
    unfold Op.eqFields
    rw [if_pos h1]
    simp only [Sem.run_bind, hpx, hpy, Result.andThen_ok]
    rw [run_equalIn_int w 9998 f.type .i64 .i64 xs[i] ys[i] hu]
    simp only [Result.andThen_ok]
    rw [List.drop_eq_getElem_cons hi, List.drop_eq_getElem_cons hi']
    by_cases e : xs[i] = ys[i]
    · simp [e, ih, -List.getElem_cons_drop]
    · simp [e, -List.getElem_cons_drop]
theorem eq_ints {P : Program} {t : TypeId} {K : Value → Prop} (xs ys : List Int) (n : Nat) (hs : intS P t n = true) (hx : xs.length = n) (hy : ys.length = n) (hK : K (.bool (decide (xs = ys)))) :
    binR P .eql t K (.s (.a (xs.map fun x => .v (.int .i64 x)))) (.s (.a (ys.map fun x => .v (.int .i64 x)))) := by
  rw [bin_agg]
  have ex : ∀ (l : List Int), exactCs (l.map fun x => C.v (.int .i64 x)) = some (l.map (Value.int .i64)) := by
    intro l
    induction l with
    | nil => rfl
    | cons a r ih => simp [exactCs, exactC, ih]
  simp only [intS, Bool.and_eq_true, Bool.not_eq_true'] at hs
  obtain ⟨⟨h1, h2⟩, h3⟩ := hs
  split at h1
  · rename_i fs hfs
    simp only [Bool.and_eq_true, beq_iff_eq] at h1
    have hff : P.fieldsOf t = fs := by simp [Program.fieldsOf, hfs]
    refine ⟨_, _, _, by rw [exactV1, ex]; rfl, by rw [exactV1, ex]; rfl, fun xo yo w => ?_, hK⟩
    simp only [Sem.run_bind]
    rw [run_eqGuard_agg w .eql t xo yo _ _ h3]
    simp only [Result.andThen_ok]
    rw [run_eql_struct, run_equalIn_agg w 9999 t _ _ (by rw [hff]; exact hfs) h2, hff, run_eqFields xs ys fs.toList 0 h1.2 (by simp; omega) (by omega)]
    simp
  · cases h1
theorem eq_ints3 {P : Program} {t : TypeId} {K : Value → Prop} {a b c x y z : Int} (hs : intS P t 3 = true) (hK : K (.bool (decide (a = x ∧ b = y ∧ c = z)))) :
    binR P .eql t K (.s (.a [.v (.int .i64 a), .v (.int .i64 b), .v (.int .i64 c)])) (.s (.a [.v (.int .i64 x), .v (.int .i64 y), .v (.int .i64 z)])) :=
  eq_ints [a, b, c] [x, y, z] 3 hs rfl rfl (by
    have e : decide ([a, b, c] = [x, y, z]) = decide (a = x ∧ b = y ∧ c = z) := by simp
    rw [e]; exact hK)
end Go.PL
