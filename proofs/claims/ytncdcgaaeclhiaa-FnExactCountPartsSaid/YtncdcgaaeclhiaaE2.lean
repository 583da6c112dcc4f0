/-
  What an operation does to abstract values: the operations that hand back a value and change no box and no own list. Each is proved against the model's own run.
-/
import Derived.Test.YtncdcgaaeclhiaaE1
namespace Go.PL
set_option linter.unusedSimpArgs false
set_option linter.unusedVariables false

abbrev vI (n : Int) : PV := .s (.c (.v (.int .i64 n)))
abbrev vB (b : Bool) : PV := .s (.c (.v (.bool b)))
abbrev vV (v : Value) : PV := .s (.c (.v v))
def optK {α : Type} : Option α → (α → Prop) → Prop
  | some x, K => K x
  | none, _ => False
@[simp] theorem optK_some {α : Type} (x : α) (K : α → Prop) : optK (some x) K = K x := rfl
@[simp] theorem optK_none {α : Type} (K : α → Prop) : optK none K = False := rfl
theorem optK_ex {α : Type} {o : Option α} {K : α → Prop} (h : optK o K) : ∃ x, o = some x ∧ K x := by
  cases o with
  | none => exact h.elim
  | some x => exact ⟨x, rfl, h⟩

def inK (k : IntKind) (n : Int) : Prop := k.min ≤ n ∧ n ≤ k.max
theorem inK_i64 (n : Int) : inK .i64 n ↔ -9223372036854775808 ≤ n ∧ n ≤ 9223372036854775807 := by
  simp [inK, IntKind.min, IntKind.max, IntKind.signed, IntKind.bits]
theorem inK_u64 (n : Int) : inK .u64 n ↔ 0 ≤ n ∧ n ≤ 18446744073709551615 := by
  simp [inK, IntKind.min, IntKind.max, IntKind.signed, IntKind.bits]
theorem inK_u8 (n : Int) : inK .u8 n ↔ 0 ≤ n ∧ n ≤ 255 := by
  simp [inK, IntKind.min, IntKind.max, IntKind.signed, IntKind.bits]
theorem inK_i32 (n : Int) : inK .i32 n ↔ -2147483648 ≤ n ∧ n ≤ 2147483647 := by
  simp [inK, IntKind.min, IntKind.max, IntKind.signed, IntKind.bits]
theorem wrap_in {k : IntKind} {n : Int} (h : inK k n) : k.wrap n = n := by
  cases k <;> simp [inK, IntKind.min, IntKind.max, IntKind.signed, IntKind.bits, IntKind.wrap] at h ⊢ <;> omega

/-- the set a without the set b -/
def ndiff (a b : Nat) : Nat := a ^^^ (a &&& b)

theorem bv_of (n : Nat) (a : Int) (h0 : 0 ≤ a) : (BitVec.ofInt n a).toNat = a.toNat % 2 ^ n := by
  obtain ⟨m, rfl⟩ := Int.eq_ofNat_of_zero_le h0
  simp

theorem maxk (k : IntKind) {a : Int} (h : a ≤ k.max) (h0 : 0 ≤ a) : a.toNat < 2 ^ k.bits := by
  cases k <;> simp [IntKind.max, IntKind.signed, IntKind.bits] at h ⊢ <;> omega
theorem inK_of_lt {k : IntKind} {a b : Int} {m : Nat} (ha : a ≤ k.max) (h0 : 0 ≤ a) (hb : b ≤ k.max) (hb0 : 0 ≤ b) (h : m ≤ max a.toNat b.toNat) : inK k m := by
  unfold inK
  refine ⟨?_, ?_⟩
  · cases k <;> simp [IntKind.min, IntKind.signed, IntKind.bits] <;> omega
  · have : (m : Int) ≤ max a b := by omega
    omega

def binI (op : BinOp) (k : IntKind) (a b : Int) (K : Value → Prop) : Prop :=
  match op with
  | .add => inK k (a + b) ∧ K (.int k (a + b))
  | .sub => inK k (a - b) ∧ K (.int k (a - b))
  | .mul => inK k (a * b) ∧ K (.int k (a * b))
  | .quo => (0 ≤ a ∧ 0 < b ∧ a ≤ k.max) ∧ K (.int k (a / b))
  | .rem => (0 ≤ a ∧ 0 < b) ∧ K (.int k (a % b))
  | .and => (0 ≤ a ∧ 0 ≤ b ∧ a ≤ k.max ∧ b ≤ k.max) ∧ K (.int k ((a.toNat &&& b.toNat : Nat) : Int))
  | .or => (0 ≤ a ∧ 0 ≤ b ∧ inK k ((a.toNat ||| b.toNat : Nat) : Int) ∧ a ≤ k.max ∧ b ≤ k.max) ∧ K (.int k ((a.toNat ||| b.toNat : Nat) : Int))
  | .xor => (0 ≤ a ∧ 0 ≤ b ∧ inK k ((a.toNat ^^^ b.toNat : Nat) : Int) ∧ a ≤ k.max ∧ b ≤ k.max) ∧ K (.int k ((a.toNat ^^^ b.toNat : Nat) : Int))
  | .andNot => (0 ≤ a ∧ 0 ≤ b ∧ a ≤ k.max ∧ b ≤ k.max) ∧ K (.int k ((ndiff a.toNat b.toNat : Nat) : Int))
  | .eql => K (.bool (decide (a = b)))
  | .neq => K (.bool (!decide (a = b)))
  | .lss => K (.bool (decide (a < b)))
  | .leq => K (.bool (decide (a ≤ b)))
  | .gtr => K (.bool (decide (b < a)))
  | .geq => K (.bool (decide (b ≤ a)))
  | _ => False
def shI (op : BinOp) (k : IntKind) (a b : Int) (K : Value → Prop) : Prop :=
  match op with
  | .shl => (0 ≤ b ∧ b < 64 ∧ b ≤ k.bits ∧ inK k (a * 2 ^ b.toNat)) ∧ K (.int k (a * 2 ^ b.toNat))
  | .shr => (0 ≤ b ∧ b ≤ k.bits) ∧ K (.int k (a / 2 ^ b.toNat))
  | _ => False

theorem ndiff_bv (n a b : Nat) (ha : a < 2 ^ n) (hb : b < 2 ^ n) : (BitVec.ofNat n a &&& ~~~ (BitVec.ofNat n b)).toNat = ndiff a b := by
  apply Nat.eq_of_testBit_eq
  intro i
  simp only [BitVec.toNat_and, BitVec.toNat_not, BitVec.toNat_ofNat, Nat.mod_eq_of_lt ha, Nat.mod_eq_of_lt hb, ndiff, Nat.testBit_and, Nat.testBit_xor]
  by_cases hi : i < n
  · have : (2 ^ n - 1 - b).testBit i = !b.testBit i := by
      rw [Nat.sub_sub, Nat.add_comm 1 b, Nat.testBit_two_pow_sub_succ hb]; simp [hi]
    rw [this]
    cases a.testBit i <;> cases b.testBit i <;> rfl
  · have : a.testBit i = false := Nat.testBit_lt_two_pow (Nat.lt_of_lt_of_le ha (Nat.pow_le_pow_right (by omega) (by omega)))
    simp [this]

theorem ofInt_nat (n : Nat) (a : Int) (h : 0 ≤ a) : BitVec.ofInt n a = BitVec.ofNat n a.toNat := by
  obtain ⟨m, rfl⟩ := Int.eq_ofNat_of_zero_le h
  simp

theorem ndiff_le (a b : Nat) : ndiff a b ≤ a := by
  apply Nat.le_of_testBit
  intro i h
  simp only [ndiff, Nat.testBit_xor, Nat.testBit_and] at h
  cases ha : a.testBit i <;> simp [ha] at h ⊢

theorem binI_run {P : Program} {op : BinOp} {k : IntKind} {a b : Int} {K : Value → Prop} (h : binI op k a b K) (t : TypeId) :
    ∃ v, K v ∧ (∃ kk n, v = .int kk n ∨ ∃ b, v = .bool b) ∧ ∀ w, (binOp op t (.int k a) (.int k b)).run P w = .ok v w := by
  cases op <;> simp only [binI] at h <;> try exact h.elim
  case add => exact ⟨_, h.2, ⟨_, _, .inl rfl⟩, fun w => by simp [binOp, Op.intArith, wrap_in h.1]⟩
  case sub => exact ⟨_, h.2, ⟨_, _, .inl rfl⟩, fun w => by simp [binOp, Op.intArith, wrap_in h.1]⟩
  case mul => exact ⟨_, h.2, ⟨_, _, .inl rfl⟩, fun w => by simp [binOp, Op.intArith, wrap_in h.1]⟩
  case quo =>
    obtain ⟨⟨h0, h1, h2⟩, h3⟩ := h
    have e : a.tdiv b = a / b := Int.tdiv_eq_ediv_of_nonneg h0
    have hle : a / b ≤ a := Int.ediv_le_self b h0
    have hn : 0 ≤ a / b := Int.ediv_nonneg h0 (by omega)
    have hin : inK k (a / b) := by
      refine ⟨?_, by omega⟩
      have : k.min ≤ 0 := by cases k <;> simp [IntKind.min, IntKind.signed, IntKind.bits]
      omega
    exact ⟨_, h3, ⟨_, _, .inl rfl⟩, fun w => by simp [binOp, Op.intDiv, show b ≠ 0 by omega, e, wrap_in hin]⟩
  case rem =>
    obtain ⟨⟨h0, h1⟩, h3⟩ := h
    have e : a.tmod b = a % b := Int.tmod_eq_emod_of_nonneg h0
    exact ⟨_, h3, ⟨_, _, .inl rfl⟩, fun w => by simp [binOp, Op.intDiv, show b ≠ 0 by omega, e]⟩
  case and =>
    obtain ⟨⟨h0, h1, h2, h3⟩, h4⟩ := h
    have hm : a.toNat &&& b.toNat ≤ a.toNat := Nat.and_le_left
    refine ⟨_, h4, ⟨_, _, .inl rfl⟩, fun w => ?_⟩
    have hw := wrap_in (inK_of_lt (k := k) (m := a.toNat &&& b.toNat) h2 h0 h3 h1 (by omega))
    have e : (BitVec.ofInt k.bits a &&& BitVec.ofInt k.bits b).toNat = a.toNat &&& b.toNat := by
      rw [BitVec.toNat_and, bv_of _ _ h0, bv_of _ _ h1, Nat.mod_eq_of_lt (maxk k h2 h0), Nat.mod_eq_of_lt (maxk k h3 h1)]
    simp only [binOp, Op.intBits, e, hw]
    simp
  case or =>
    obtain ⟨⟨h0, h1, hin, h2, h3⟩, h4⟩ := h
    refine ⟨_, h4, ⟨_, _, .inl rfl⟩, fun w => ?_⟩
    have e : (BitVec.ofInt k.bits a ||| BitVec.ofInt k.bits b).toNat = a.toNat ||| b.toNat := by
      rw [BitVec.toNat_or, bv_of _ _ h0, bv_of _ _ h1, Nat.mod_eq_of_lt (maxk k h2 h0), Nat.mod_eq_of_lt (maxk k h3 h1)]
    simp only [binOp, Op.intBits, e, wrap_in hin]
    simp
  case xor =>
    obtain ⟨⟨h0, h1, hin, h2, h3⟩, h4⟩ := h
    refine ⟨_, h4, ⟨_, _, .inl rfl⟩, fun w => ?_⟩
    have e : (BitVec.ofInt k.bits a ^^^ BitVec.ofInt k.bits b).toNat = a.toNat ^^^ b.toNat := by
      rw [BitVec.toNat_xor, bv_of _ _ h0, bv_of _ _ h1, Nat.mod_eq_of_lt (maxk k h2 h0), Nat.mod_eq_of_lt (maxk k h3 h1)]
    simp only [binOp, Op.intBits, e, wrap_in hin]
    simp
  case andNot =>
    obtain ⟨⟨h0, h1, h2, h3⟩, h4⟩ := h
    refine ⟨_, h4, ⟨_, _, .inl rfl⟩, fun w => ?_⟩
    have hm := ndiff_le a.toNat b.toNat
    have hw := wrap_in (inK_of_lt (k := k) (m := ndiff a.toNat b.toNat) h2 h0 h3 h1 (by omega))
    have e : (BitVec.ofInt k.bits a &&& ~~~ (BitVec.ofInt k.bits b)).toNat = ndiff a.toNat b.toNat := by
      rw [ofInt_nat _ _ h0, ofInt_nat _ _ h1, ndiff_bv _ _ _ (maxk k h2 h0) (maxk k h3 h1)]
    simp only [binOp, Op.intBits, e, hw]
    simp
  case eql => exact ⟨_, h, ⟨k, 0, .inr ⟨_, rfl⟩⟩, fun w => by simp [binOp, Op.intCmp]; rfl⟩
  case neq => exact ⟨_, h, ⟨k, 0, .inr ⟨_, rfl⟩⟩, fun w => by simp [binOp, Op.intCmp]; rfl⟩
  case lss => exact ⟨_, h, ⟨k, 0, .inr ⟨_, rfl⟩⟩, fun w => by simp [binOp, Op.intCmp]⟩
  case leq => exact ⟨_, h, ⟨k, 0, .inr ⟨_, rfl⟩⟩, fun w => by simp [binOp, Op.intCmp]⟩
  case gtr => exact ⟨_, h, ⟨k, 0, .inr ⟨_, rfl⟩⟩, fun w => by simp [binOp, Op.intCmp]⟩
  case geq => exact ⟨_, h, ⟨k, 0, .inr ⟨_, rfl⟩⟩, fun w => by simp [binOp, Op.intCmp]⟩

theorem shI_run {P : Program} {op : BinOp} {k k' : IntKind} {a b : Int} {K : Value → Prop} (h : shI op k a b K) (t : TypeId) :
    ∃ v, K v ∧ ∀ w, (binOp op t (.int k a) (.int k' b)).run P w = .ok v w := by
  cases op <;> simp only [shI] at h <;> try exact h.elim
  case shl =>
    obtain ⟨⟨h0, h1, h2, h3⟩, h4⟩ := h
    refine ⟨_, h4, fun w => ?_⟩
    have : min b.toNat k.bits = b.toNat := by omega
    simp [binOp, Op.shift, show ¬ b < 0 by omega, this, wrap_in h3]
  case shr =>
    obtain ⟨⟨h0, h1⟩, h4⟩ := h
    refine ⟨_, h4, fun w => ?_⟩
    have : min b.toNat k.bits = b.toNat := by omega
    have hp : (0 : Int) ≤ 2 ^ b.toNat := by exact Int.le_of_lt (Int.pow_pos (by omega))
    simp [binOp, Op.shift, show ¬ b < 0 by omega, this, Int.fdiv_eq_ediv_of_nonneg _ hp]

def exactC : C → Option Value
  | .v x => some x
  | _ => none
def exactCs : List C → Option (List Value)
  | [] => some []
  | x :: xs => match exactC x, exactCs xs with
    | some u, some us => some (u :: us)
    | _, _ => none
def exactV1 : V1 → Option Value
  | .c x => exactC x
  | .a xs => (exactCs xs).map fun us => .agg us.toArray
theorem exactC_rep {g : Gh} {h : Hp} {x : C} {u c : Value} (he : exactC x = some u) (hr : RepC g h x c) : c = u := by
  cases x <;> simp [exactC] at he
  subst he; exact hr
theorem exactCs_rep {g : Gh} {h : Hp} : ∀ {xs : List C} {us cs : List Value}, exactCs xs = some us → All2 (RepC g h) xs cs → cs = us
  | [], us, [], he, _ => by simp [exactCs] at he; exact he.symm
  | x :: xs, us, c :: cs, he, ⟨h1, h2⟩ => by
    simp only [exactCs] at he
    cases hx : exactC x with
    | none => simp [hx] at he
    | some u =>
      cases hxs : exactCs xs with
      | none => simp [hx, hxs] at he
      | some us' =>
        simp [hx, hxs] at he
        rw [← he, exactC_rep hx h1, exactCs_rep hxs h2]
  | [], _, _ :: _, _, h => h.elim
  | _ :: _, _, [], _, h => h.elim
theorem exactV1_rep {g : Gh} {h : Hp} {x : V1} {u c : Value} (he : exactV1 x = some u) (hr : RepV1 g h x c) : c = u := by
  cases x with
  | c x => exact exactC_rep he hr
  | a xs =>
    obtain ⟨cs, rfl, h2⟩ := hr
    simp only [exactV1] at he
    cases hx : exactCs xs with
    | none => simp [hx] at he
    | some us => simp [hx] at he; rw [← he, ← exactCs_rep hx h2]

/-- an operation on exact values that the model carries out without looking at the world -/
def PureB (P : Program) (op : BinOp) (t : TypeId) (x y : V1) (K : Value → Prop) : Prop :=
  ∃ vx vy v, exactV1 x = some vx ∧ exactV1 y = some vy ∧ (∀ xo yo w, (do eqGuard op t xo yo vx vy; binOp op t vx vy).run P w = .ok v w) ∧ K v
def strI (op : BinOp) (a b : ByteArray) (K : Value → Prop) : Prop :=
  match op with
  | .add => a.size + b.size ≤ 9223372036854775807 ∧ K (.string (a ++ b))
  | .eql => K (.bool (a.toList == b.toList))
  | .neq => K (.bool (!(a.toList == b.toList)))
  | _ => False
def boolI (op : BinOp) (a b : Bool) (K : Value → Prop) : Prop :=
  match op with
  | .eql => K (.bool (a == b))
  | .neq => K (.bool (!(a == b)))
  | _ => False
def isShift : BinOp → Bool
  | .shl | .shr => true
  | _ => false
def binC (P : Program) (op : BinOp) (t : TypeId) : C → C → (Value → Prop) → Prop
  | .v (.int k a), .v (.int k' b), K => if isShift op = true then shI op k a b K else k = k' ∧ binI op k a b K
  | .v (.bool a), .v (.bool b), K => P.underlying t = some .bool ∧ boolI op a b K
  | .v (.string a), .v (.string b), K => strI op a b K
  | x, y, K => PureB P op t (.c x) (.c y) K
def binV (P : Program) (op : BinOp) (t : TypeId) : V1 → V1 → (Value → Prop) → Prop
  | .c x, .c y, K => binC P op t x y K
  | x, y, K => PureB P op t x y K
theorem eqGuard_int (P : Program) (op : BinOp) (t : TypeId) (xo yo : Operand) (k k' : IntKind) (a b : Int) (w : World) : (eqGuard op t xo yo (.int k a) (.int k' b)).run P w = .ok () w := by
  cases op <;> simp [eqGuard]
theorem eqGuard_bool (P : Program) (op : BinOp) (t : TypeId) (xo yo : Operand) (a b : Bool) (w : World) : (eqGuard op t xo yo (.bool a) (.bool b)).run P w = .ok () w := by
  cases op <;> simp [eqGuard]
theorem eqGuard_str (P : Program) (op : BinOp) (t : TypeId) (xo yo : Operand) (a b : ByteArray) (w : World) : (eqGuard op t xo yo (.string a) (.string b)).run P w = .ok () w := by
  cases op <;> simp [eqGuard]

theorem binPure_sound {P : Program} {op : BinOp} {t : TypeId} {x y : V1} {K : Value → Prop} (h : PureB P op t x y K) :
    ∃ v, K v ∧ ∀ g hp a b xo yo, RepV1 g hp x a → RepV1 g hp y b → (do eqGuard op t xo yo a b; binOp op t a b).run P g.w = .ok v g.w := by
  obtain ⟨vx, vy, v, h1, h2, h3, h4⟩ := h
  refine ⟨v, h4, fun g hp a b xo yo ha hb => ?_⟩
  rw [exactV1_rep h1 ha, exactV1_rep h2 hb]
  exact h3 xo yo g.w

theorem binV_sound {P : Program} {op : BinOp} {t : TypeId} {x y : V1} {K : Value → Prop} (h : binV P op t x y K) :
    ∃ v, K v ∧ ∀ g hp a b xo yo, RepV1 g hp x a → RepV1 g hp y b → (do eqGuard op t xo yo a b; binOp op t a b).run P g.w = .ok v g.w := by
  unfold binV at h
  split at h
  · rename_i x y K
    unfold binC at h
    split at h
    · rename_i K k a k' b
      split at h
      · obtain ⟨v, h1, h2⟩ := shI_run (P := P) (k' := k') h t
        refine ⟨v, h1, fun g hp a b xo yo ha hb => ?_⟩
        simp only [RepV1, RepC] at ha hb
        subst ha hb
        simp [eqGuard_int, h2]
      · obtain ⟨rfl, h⟩ := h
        obtain ⟨v, h1, _, h2⟩ := binI_run (P := P) h t
        refine ⟨v, h1, fun g hp a b xo yo ha hb => ?_⟩
        simp only [RepV1, RepC] at ha hb
        subst ha hb
        simp [eqGuard_int, h2]
    · rename_i K a b
      obtain ⟨hu, h⟩ := h
      have heq : ∀ w, (Op.equal t (.bool a) (.bool b)).run P w = .ok (a == b) w := fun w => by
        have h1 : ∀ d, (Op.equalIn (d + 1) t (.bool a) (.bool b)).run P w = .ok (a == b) w := fun d => by
          simp only [Op.equalIn, Sem.run_bind, run_underlying hu, Result.andThen_ok, Sem.run_pure]
        exact h1 9999
      cases op <;> simp only [boolI] at h <;> try exact h.elim
      all_goals
        refine ⟨_, h, fun g hp a b xo yo ha hb => ?_⟩
        simp only [RepV1, RepC] at ha hb
        subst ha hb
        simp [eqGuard_bool, binOp, heq]
    · rename_i K a b
      cases op <;> simp only [strI] at h <;> try exact h.elim
      case add =>
        obtain ⟨h0, h⟩ := h
        refine ⟨_, h, fun g hp a b xo yo ha hb => ?_⟩
        simp only [RepV1, RepC] at ha hb
        subst ha hb
        have : ¬ (9223372036854775807 < ((a.size : Int) + (b.size : Int))) := by omega
        simp [eqGuard_str, binOp, Op.stringOp, IntKind.max, IntKind.signed, IntKind.bits, this]
      all_goals
        refine ⟨_, h, fun g hp a b xo yo ha hb => ?_⟩
        simp only [RepV1, RepC] at ha hb
        subst ha hb
        simp [eqGuard_str, binOp, Op.stringOp]
    · exact binPure_sound h
  · exact binPure_sound h

end Go.PL
