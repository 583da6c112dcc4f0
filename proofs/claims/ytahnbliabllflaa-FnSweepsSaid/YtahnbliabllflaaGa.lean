/-
  Plain laws on lists for loops that fill or read a list.
  Plain laws on lists for loops that write a list in place.
  Plain laws on lists for loops that pick elements.
  The comparison of structs of numbers.
-/
import Derived.Test.YtahnbliabllflaaEf
import Derived.Laws.StructEq
namespace Go.PL
/-- a list of l.length values of which the first i are done -/
def made {α : Type} (f : α → Value) (z : Value) (l : List α) (i : Nat) : List Value := (l.take i).map f ++ List.replicate (l.length - i) z
@[simp] theorem made_zero {α : Type} {f : α → Value} {z : Value} {l : List α} : made f z l 0 = List.replicate l.length z := by simp [made]
theorem made_len {α : Type} {f : α → Value} {z : Value} {l : List α} {i : Nat} (h : i ≤ l.length) : (made f z l i).length = l.length := by simp [made]; omega
theorem made_set {α : Type} {f : α → Value} {z : Value} {l : List α} {i : Nat} (h : i < l.length) : (made f z l i).set i (f l[i]) = made f z l (i + 1) := by
  apply List.ext_getElem?
  intro j
  simp only [made, List.getElem?_set, List.getElem?_append, List.length_map, List.length_take, List.getElem?_map, List.getElem?_take, List.getElem?_replicate, List.length_append, List.length_replicate]
  by_cases h1 : i = j
  · subst h1
    have : min (i + 1) l.length = i + 1 := by omega
    have h2 : min i l.length = i := by omega
    have h3 : i < i + (l.length - i) := by omega
    simp [h2, h3, h]
    intro h4; omega
  · by_cases h2 : j < i
    · have h3 : j < min i l.length := by omega
      have h4 : j < min (i + 1) l.length := by omega
      have h5 : j < i + 1 := by omega
      simp [h1, h3, h4, h2, h5, show j < l.length by omega]
    · have h3 : ¬ j < min i l.length := by omega
      have h4 : ¬ j < min (i + 1) l.length := by omega
      simp only [h1, if_false, h3, h4]
      have h5 : (j - min i l.length < l.length - i) ↔ (j - min (i + 1) l.length < l.length - (i + 1)) := by omega
      by_cases h6 : j - min i l.length < l.length - i
      · rw [if_pos h6, if_pos (h5.1 h6)]
      · rw [if_neg h6, if_neg (fun h => h6 (h5.2 h))]
theorem made_end {α : Type} {f : α → Value} {z : Value} {l : List α} : made f z l l.length = l.map f := by simp [made]
theorem map_get {α : Type} {f : α → Value} {l : List α} {i : Nat} (h : i < l.length) : (l.map f)[i]? = some (f l[i]) := by simp [h]
@[go_sem] theorem toNat_pred (i : Nat) : ((i : Int) - 1).toNat = i - 1 := by omega
@[go_sem] theorem toNat_succ (i : Nat) : ((i : Int) + 1).toNat = i + 1 := by omega
attribute [go_sem] List.size_toArray List.length_append List.length_take List.length_drop
end Go.PL
namespace Go.PL
/-- a list whose first i elements are written anew -/
def mkd (f : Nat → Value) (l : List Value) (i : Nat) : List Value := (List.range i).map f ++ l.drop i
/-- a list of n written elements -/
def marks (f : Nat → Value) (n : Nat) : List Value := (List.range n).map f
theorem marks_len {f : Nat → Value} {n : Nat} : (marks f n).length = n := by simp [marks]
theorem marks_get {f : Nat → Value} {n i : Nat} (h : i < n) : (marks f n)[i]? = some (f i) := by simp [marks, h]
theorem mkd_zero {f : Nat → Value} {l : List Value} : mkd f l 0 = l := by simp [mkd]
theorem mkd_len {f : Nat → Value} {l : List Value} {i : Nat} (h : i ≤ l.length) : (mkd f l i).length = l.length := by simp [mkd]; omega
theorem mkd_get {f : Nat → Value} {l : List Value} {i : Nat} : (mkd f l i)[i]? = l[i]? := by
  simp only [mkd]
  rw [List.getElem?_append_right (by simp)]
  simp
theorem mkd_set {f : Nat → Value} {l : List Value} {i : Nat} (h : i < l.length) : (mkd f l i).set i (f i) = mkd f l (i + 1) := by
  simp only [mkd]
  rw [List.set_append_right _ _ (by simp), List.range_succ, List.map_append, List.append_assoc]
  congr 1
  have e : i - ((List.range i).map f).length = 0 := by simp
  rw [e, List.drop_eq_getElem_cons h]
  rfl
theorem mkd_end {f : Nat → Value} {l : List Value} : mkd f l l.length = marks f l.length := by simp [mkd, marks]
@[go_sem] theorem set_set' {l : List Value} {i : Nat} {a b : Value} : (l.set i a).set i b = l.set i b := by simp
@[go_sem] theorem set_get {l : List Value} {i : Nat} {a : Value} (h : i < l.length) : (l.set i a)[i]? = some a := by simp [h]
@[go_sem] theorem set_len {l : List Value} {i : Nat} {a : Value} : (l.set i a).length = l.length := by simp
@[go_sem] theorem agg_set {l : List Value} {i : Nat} {u : Value} : l.toArray.setIfInBounds i u = (l.set i u).toArray := by simp
@[go_sem] theorem cast_zero' : ((0 : Nat) : Int) = 0 := rfl
@[go_sem] theorem cast_one' : ((1 : Nat) : Int) = 1 := rfl
end Go.PL
namespace Go.PL
/-- of the first i elements those that p picks -/
def filN {α : Type} (p : α → Bool) (l : List α) (i : Nat) : List α := (l.take i).filter p
theorem filN_zero {α : Type} {p : α → Bool} {l : List α} : filN p l 0 = [] := by simp [filN]
theorem filN_hit {α : Type} {p : α → Bool} {l : List α} {i : Nat} (h : i < l.length) (hp : p l[i] = true) : filN p l (i + 1) = filN p l i ++ [l[i]] := by
  unfold filN
  rw [List.take_succ_eq_append_getElem h, List.filter_append]
  simp [hp]
theorem filN_miss {α : Type} {p : α → Bool} {l : List α} {i : Nat} (h : i < l.length) (hp : p l[i] = false) : filN p l (i + 1) = filN p l i := by
  unfold filN
  rw [List.take_succ_eq_append_getElem h, List.filter_append]
  simp [hp]
theorem filN_end {α : Type} {p : α → Bool} {l : List α} : filN p l l.length = l.filter p := by simp [filN]
theorem filN_len {α : Type} {p : α → Bool} {l : List α} {i : Nat} : (filN p l i).length ≤ i := by
  have h1 := List.length_filter_le p (l.take i)
  have h2 : (l.take i).length ≤ i := List.length_take_le _ _
  unfold filN; omega
theorem filN_len' {α : Type} {p : α → Bool} {l : List α} {i : Nat} : (filN p l i).length ≤ l.length := by
  have h1 := List.length_filter_le p (l.take i)
  have h2 : (l.take i).length ≤ l.length := List.length_take_le' _ _
  unfold filN; omega
end Go.PL
namespace Go.PL
set_option linter.unusedSimpArgs false
/-- the type is a struct of fields that are int, one cell each, in order -/
def intF (P : Program) : Nat → List Field → Bool
  | _, [] => true
  | i, f :: fs => (f.name != "_") && (f.offset == i) && (match P.underlying f.type with | some (.int .i64) => true | _ => false) && (match aggN P f.type with | some none => true | _ => false) && intF P (i + 1) fs
def intS (P : Program) (t : TypeId) (n : Nat) : Bool :=
  (match P.underlying t with | some (.struct fs) => fs.size == n && intF P 0 fs.toList | _ => false) && !P.stoodInHeld t && !P.eqGuardType P.depth t
theorem run_eqFields {P : Program} {w : World} (xs ys : List Int) : ∀ (fs : List Field) (i : Nat), intF P i fs = true → i + fs.length = xs.length → xs.length = ys.length →
    (Op.eqFields 9999 (xs.map (Value.int .i64)).toArray (ys.map (Value.int .i64)).toArray fs).run P w = .ok (decide (xs.drop i = ys.drop i)) w
  | [], i, _, hl, he => by
    have h1 : xs.drop i = [] := by rw [List.drop_eq_nil_iff]; simp at hl; omega
    have h2 : ys.drop i = [] := by rw [List.drop_eq_nil_iff]; simp at hl; omega
    simp [Op.eqFields, h1, h2]
  | f :: fs, i, hf, hl, he => by
    simp only [intF, Bool.and_eq_true, beq_iff_eq, bne_iff_ne] at hf
    obtain ⟨⟨⟨⟨h1, h2⟩, h3⟩, h4⟩, h5⟩ := hf
    have hi : i < xs.length := by simp at hl; omega
    have hi' : i < ys.length := by omega
    have hu : P.underlying f.type = some (.int .i64) := by
      split at h3
      · rename_i h; exact h
      · cases h3
    have ha : aggN P f.type = some none := by
      split at h4
      · rename_i h; exact h
      · cases h4
    have ih := run_eqFields (P := P) (w := w) xs ys fs (i + 1) h5 (by simp at hl; omega) he
    have hpx : (part f.type (xs.map (Value.int .i64)).toArray f.offset).run P w = .ok (.int .i64 xs[i]) w := by
      simp [part, (run_isAgg ha w).1, h2, hi]
    have hpy : (part f.type (ys.map (Value.int .i64)).toArray f.offset).run P w = .ok (.int .i64 ys[i]) w := by
      simp [part, (run_isAgg ha w).1, h2, hi']
    unfold Op.eqFields
    rw [if_pos h1]
    simp only [Sem.run_bind, hpx, hpy, Result.andThen_ok]
    rw [run_equalIn_int w 9998 f.type .i64 .i64 xs[i] ys[i] hu]
    simp only [Result.andThen_ok]
    rw [List.drop_eq_getElem_cons hi, List.drop_eq_getElem_cons hi']
    by_cases e : xs[i] = ys[i]
    · simp [e, ih, -List.getElem_cons_drop]
    · simp [e, -List.getElem_cons_drop]
theorem eq_ints {P : Program} {t : TypeId} {K : Value → Prop} (xs ys : List Int) (n : Nat) (hs : intS P t n = true) (hx : xs.length = n) (hy : ys.length = n) (hK : K (.bool (decide (xs = ys)))) :
    binR P .eql t K (.s (.a (xs.map fun x => .v (.int .i64 x)))) (.s (.a (ys.map fun x => .v (.int .i64 x)))) := by
  rw [bin_agg]
  have ex : ∀ (l : List Int), exactCs (l.map fun x => C.v (.int .i64 x)) = some (l.map (Value.int .i64)) := by
    intro l
    induction l with
    | nil => rfl
    | cons a r ih => simp [exactCs, exactC, ih]
  simp only [intS, Bool.and_eq_true, Bool.not_eq_true'] at hs
  obtain ⟨⟨h1, h2⟩, h3⟩ := hs
  split at h1
  · rename_i fs hfs
    simp only [Bool.and_eq_true, beq_iff_eq] at h1
    have hff : P.fieldsOf t = fs := by simp [Program.fieldsOf, hfs]
    refine ⟨_, _, _, by rw [exactV1, ex]; rfl, by rw [exactV1, ex]; rfl, fun xo yo w => ?_, hK⟩
    simp only [Sem.run_bind]
    rw [run_eqGuard_agg w .eql t xo yo _ _ h3]
    simp only [Result.andThen_ok]
    rw [run_eql_struct, run_equalIn_agg w 9999 t _ _ (by rw [hff]; exact hfs) h2, hff, run_eqFields xs ys fs.toList 0 h1.2 (by simp; omega) (by omega)]
    simp
  · cases h1
theorem eq_ints3 {P : Program} {t : TypeId} {K : Value → Prop} {a b c x y z : Int} (hs : intS P t 3 = true) (hK : K (.bool (decide (a = x ∧ b = y ∧ c = z)))) :
    binR P .eql t K (.s (.a [.v (.int .i64 a), .v (.int .i64 b), .v (.int .i64 c)])) (.s (.a [.v (.int .i64 x), .v (.int .i64 y), .v (.int .i64 z)])) :=
  eq_ints [a, b, c] [x, y, z] 3 hs rfl rfl (by
    have e : decide ([a, b, c] = [x, y, z]) = decide (a = x ∧ b = y ∧ c = z) := by simp
    rw [e]; exact hK)
theorem ne_ints {P : Program} {t : TypeId} {K : Value → Prop} (xs ys : List Int) (n : Nat) (hs : intS P t n = true) (hx : xs.length = n) (hy : ys.length = n) (hK : K (.bool (!decide (xs = ys)))) :
    binR P .neq t K (.s (.a (xs.map fun x => .v (.int .i64 x)))) (.s (.a (ys.map fun x => .v (.int .i64 x)))) := by
  rw [bin_agg]
  have ex : ∀ (l : List Int), exactCs (l.map fun x => C.v (.int .i64 x)) = some (l.map (Value.int .i64)) := by
    intro l
    induction l with
    | nil => rfl
    | cons a r ih => simp [exactCs, exactC, ih]
  simp only [intS, Bool.and_eq_true, Bool.not_eq_true'] at hs
  obtain ⟨⟨h1, h2⟩, h3⟩ := hs
  split at h1
  · rename_i fs hfs
    simp only [Bool.and_eq_true, beq_iff_eq] at h1
    have hff : P.fieldsOf t = fs := by simp [Program.fieldsOf, hfs]
    refine ⟨_, _, _, by rw [exactV1, ex]; rfl, by rw [exactV1, ex]; rfl, fun xo yo w => ?_, hK⟩
    simp only [Sem.run_bind]
    rw [run_eqGuard_agg w .neq t xo yo _ _ h3]
    simp only [Result.andThen_ok]
    rw [run_neq_struct, run_equalIn_agg w 9999 t _ _ (by rw [hff]; exact hfs) h2, hff, run_eqFields xs ys fs.toList 0 h1.2 (by simp; omega) (by omega)]
    simp
  · cases h1
end Go.PL
