/-
  Numbers that wrap around: regions whose operations on numbers are the model's own. Own lists that are published at an end.
  An own list of the caller that a callee is not shown stays as it is.
  Strings as lists of bytes.
-/
import Derived.Test.YtahnbliabllflaaEf
import Derived.Lib.Strings
namespace Go.PL
open Go.RowKit
set_option linter.unusedSimpArgs false
set_option linter.unusedVariables false
def addW (k : IntKind) (a b : Int) : Int := k.wrap (a + b)
def mulW (k : IntKind) (a b : Int) : Int := k.wrap (a * b)
def andW (k : IntKind) (a b : Int) : Int := k.wrap (BitVec.ofInt k.bits a &&& BitVec.ofInt k.bits b).toNat
def xorW (k : IntKind) (a b : Int) : Int := k.wrap (BitVec.ofInt k.bits a ^^^ BitVec.ofInt k.bits b).toNat
/-- what the model makes of two numbers, whatever they are -/
def wrapI (op : BinOp) (k : IntKind) (a b : Int) : Option Value :=
  match op with
  | .add => some (.int k (addW k a b))
  | .mul => some (.int k (mulW k a b))
  | .and => some (.int k (andW k a b))
  | .xor => some (.int k (xorW k a b))
  | .shr => if 0 ≤ b ∧ b ≤ k.bits then some (.int k (a / 2 ^ b.toNat)) else none
  | _ => none
theorem shr_run {P : Program} {k k' : IntKind} {a b : Int} (h0 : 0 ≤ b ∧ b ≤ k.bits) (t : TypeId) (w : World) : (binOp .shr t (.int k a) (.int k' b)).run P w = .ok (.int k (a / 2 ^ b.toNat)) w := by
  have : min b.toNat k.bits = b.toNat := by omega
  have hp : (0 : Int) ≤ 2 ^ b.toNat := by exact Int.le_of_lt (Int.pow_pos (by omega))
  simp [binOp, Op.shift, show ¬ b < 0 by omega, this, Int.fdiv_eq_ediv_of_nonneg _ hp]
theorem wrapI_run {P : Program} {op : BinOp} {k k' : IntKind} {a b : Int} {v : Value} (h : wrapI op k a b = some v) (hk : op = .shr ∨ k = k') (t : TypeId) (w : World) : (binOp op t (.int k a) (.int k' b)).run P w = .ok v w := by
  by_cases hs : op = .shr
  · subst hs
    simp only [wrapI] at h
    split at h
    · rename_i h0
      have e := Option.some.inj h
      subst e
      exact shr_run h0 t w
    · cases h
  · have hk := hk.resolve_left hs
    subst hk
    cases op <;> simp only [wrapI, Option.some.injEq, reduceCtorEq] at h
    case shr => exact absurd rfl hs
    all_goals (subst h; simp [binOp, Op.intArith, Op.intBits, addW, mulW, andW, xorW])
def binW (op : BinOp) (K : Value → Prop) : PV → PV → Prop
  | .s (.c (.v (.int k a))), .s (.c (.v (.int k' b))) => (op = .shr ∨ k = k') ∧ optK (wrapI op k a b) K
  | _, _ => False
theorem binW_y {P : Program} {h : Hp} {ρ : Operand → PV} {o : Oper} {op : BinOp} {t t' : TypeId} {x y : Operand} {K : Value → Prop} (ho : o.op = .binOp op t x y t') (hc : binW op K (ρ x) (ρ y)) : ∃ v, K v ∧ DYields P h ρ o (vV v) := by
  unfold binW at hc
  split at hc
  · rename_i k a1 k' b1 hx hy
    obtain ⟨hk, hc⟩ := hc
    obtain ⟨v, hv, hK⟩ := optK_ex hc
    refine ⟨v, hK, fun g0 pk g a hk' wf hρ next Q hn => ?_⟩
    have h1 := hρ x (by rw [ho]; simp [Op.operands])
    have h2 := hρ y (by rw [ho]; simp [Op.operands])
    rw [hx] at h1
    rw [hy] at h2
    simp only [RepPV, RepV1, RepC] at h1 h2
    have hrun := wrapI_run (P := P) (k' := k') hv hk t g.w
    unfold Oper.wp
    have hr : (execOp a.eval o).run P g.w = .ok (.value v) g.w := by
      simp only [execOp, ho, h1, h2, Sem.run_bind, eqGuard_int, Result.andThen_ok, hrun]
      rfl
    rw [hr]
    exact hn g v hk' (Ext.refl _ _) rfl
  · exact hc.elim
def opW (P : Program) (op : Op) (dst : Option Nat) (σ : St) (K : St → Prop) : Prop :=
  match op with
  | .binOp o t x y _ => binW o (fun v => K (σ.put dst (vV v))) (σ.ev x) (σ.ev y)
  | op => opK P op dst σ K
def opsW (P : Program) : List Oper → St → (St → Prop) → Prop
  | [], σ, K => K σ
  | o :: r, σ, K => o.guard = none ∧ opW P o.op o.dst σ fun σ' => opsW P r σ' K
theorem opW_wp {P : Program} {σ : St} {o : Oper} {K : St → Prop} (hc : opW P o.op o.dst σ K) {g0 : Gh} {pk : Pk} {g : Gh} {a : Act} (s : SimG g0 pk g σ a) (Q : Exit → Act → World → Prop) :
    o.wp P a g.w (fun a' w' => ∃ σ', K σ' ∧ Sim g0 pk σ' a' w') Q := by
  by_cases hb : ∃ op t x y t', o.op = .binOp op t x y t'
  · obtain ⟨op, t, x, y, t', ho⟩ := hb
    rw [ho] at hc
    obtain ⟨v, hK, hy⟩ := binW_y (P := P) (h := σ.h) (ρ := σ.ev) ho hc
    exact hy g0 pk g a s.heap s.wf (fun x _ => s.ev x) _ Q fun g' v' hk he hr => ⟨_, hK, g', rfl, s.put hk (s.wf.ext he) he hr⟩
  · have hc' : opK P o.op o.dst σ K := by
      cases ho : o.op <;> rw [ho] at hc <;> first | exact hc | exact absurd ⟨_, _, _, _, _, ho⟩ hb
    exact opK_sound hc' s Q
theorem opsW_sound {P : Program} {ops : Array Oper} {Q : Exit → Act → World → Prop} {g0 : Gh} {pk : Pk} : ∀ (l : List Oper) (σ : St) (K : St → Prop) (a : Act) (w : World), opsW P l σ K → Sim g0 pk σ a w →
    (∀ σ' a' w', K σ' → Sim g0 pk σ' a' w' → Q .normal a' w') → wpList P ops Q l a w
  | [], σ, K, a, w, h, s, hQ => hQ σ a w h s
  | o :: rest, σ, K, a, w, h, s, hQ => by
    obtain ⟨g, rfl, s⟩ := s
    obtain ⟨hg, h⟩ := h
    unfold wpList
    rw [if_pos (by simp [Region.wanted, hg])]
    left
    exact Oper.wp_mono (fun a' w' ⟨σ', h1, h2⟩ => opsW_sound rest σ' K a' w' h1 h2 hQ) (opW_wp h s Q)
def opDW (P : Program) (h : Hp) (ρ : Operand → PV) (op : Op) (K : PV → Prop) : Prop :=
  match op with
  | .binOp o t x y _ => binW o (fun v => K (vV v)) (ρ x) (ρ y)
  | op => opD P h ρ op K
def opsDW (P : Program) : List Oper → St → (St → Prop) → Prop
  | [], σ, K => K σ
  | o :: r, σ, K => o.guard = none ∧ opDW P σ.h σ.ev o.op fun pv => opsDW P r (σ.put o.dst pv) K
theorem opDW_sound {P : Program} {h : Hp} {ρ : Operand → PV} {o : Oper} {K : PV → Prop} (hfu : ∀ f, ρ (.func f) = vV (.func (.func f) #[] #[])) (hc : opDW P h ρ o.op K) : ∃ pv, K pv ∧ DYields P h ρ o pv := by
  by_cases hb : ∃ op t x y t', o.op = .binOp op t x y t'
  · obtain ⟨op, t, x, y, t', ho⟩ := hb
    rw [ho] at hc
    obtain ⟨v, hK, hy⟩ := binW_y (P := P) (h := h) (ρ := ρ) ho hc
    exact ⟨_, hK, hy⟩
  · have hc' : opD P h ρ o.op K := by
      cases ho : o.op <;> rw [ho] at hc <;> first | exact hc | exact absurd ⟨_, _, _, _, _, ho⟩ hb
    exact opD_sound hfu hc'
theorem opsDW_ex {P : Program} {ops : Array Oper} {K : St → Prop} : ∀ (l : List Oper) (σ : St), opsDW P l σ K → ∃ vs, StepsOk P ops σ l vs ∧ K (puts σ l vs)
  | [], σ, h => ⟨[], trivial, h⟩
  | o :: l, σ, h => by
    obtain ⟨hg, h⟩ := h
    obtain ⟨pv, h1, h2⟩ := opDW_sound (fun f => rfl) h
    obtain ⟨vs, h3, h4⟩ := opsDW_ex l _ h1
    exact ⟨pv :: vs, ⟨by simp only [StepAt, hg]; exact h2, h3⟩, h4⟩
section
variable {P : Program} {pk : Pk} {Q : Exit → St → Prop} {σ : St}
theorem codeW_seq {a b : Code} (h : CodeW P pk a (thenE (fun σ' => CodeW P pk b Q σ') Q) σ) : CodeW P pk (.seq a b) Q σ := by
  intro g0 ac w s
  refine wp_seq (wp_mono (h g0 ac w s) fun e a' w' hq => ?_)
  obtain ⟨σ', s', hq⟩ := hq
  cases e with
  | normal => exact hq g0 a' w' s'
  | _ => exact ⟨σ', s', hq⟩
theorem codeW_region {id : Nat} {ops : Array Oper} (h : opsW P ops.toList σ fun σ' => Q .normal σ') : CodeW P pk (.region id ops false) Q σ := by
  intro g0 a w s
  exact wp_region_list (opsW_sound ops.toList σ _ a w h s fun σ' a' w' h1 h2 => ⟨σ', h2, h1⟩)
theorem codeW_draw {id : Nat} {ops : Array Oper} (hm : P.follows .mixedOrders = true) (hok : drawOk ops = true) (h : opsDW P ops.toList σ fun σ' => Q .normal σ') : CodeW P pk (.region id ops true) Q σ := by
  obtain ⟨vs, hst, hK⟩ := opsDW_ex (ops := ops) _ _ h
  exact cK_drawS hm hok hst hK
/-- the rest as ever -/
theorem codeW_run {c : Code} (h : cK P pk c Q σ) : CodeW P pk c Q σ := cK_sound c Q σ h
theorem codeW_weak {c : Code} {τ : St} (hw : Weak pk σ τ) (h : CodeW P pk c Q τ) : CodeW P pk c Q σ := fun g0 a w s => h g0 a w (hw g0 a w s)
end
theorem pc_ofW {P : Program} {f : FuncId} {fn : Func} {c : Code} {bxs : List (Nat × List C)} {args : List V1} {r : PV} {h' : Hp} (hf : P.funcs[f]? = some fn) (hb : fn.body = some c)
    (hname : (fn.name == "runtime.NumGoroutine") = false) (n : Nat) (hn : fn.ntmps = n) (hargs : args.length ≤ n)
    (h : CodeW P ⟨bxs.map Prod.fst, []⟩ c (retE P ⟨bxs.map Prod.fst, []⟩ fn.results.toList h' r) { n := n, env := envOf 0 args, h := ⟨bxs, []⟩ }) : PC P f bxs args r h' := ⟨pcalls_ofW hf hb hname n hn hargs h⟩
/-! ### evaluation -/
section
variable {P : Program} {d : Option Nat} {σ : St} {K : St → Prop} {op : Op} {t t' : TypeId} {pos : String} {af : Array Edge} {l : List Oper} {pk : Pk} {Q : Exit → St → Prop}
def restW (P : Program) (l : List Oper) (K : St → Prop) (σ : St) : Prop := opsW P l σ K
def restDW (P : Program) (l : List Oper) (K : St → Prop) (σ : St) : Prop := opsDW P l σ K
def oneW (P : Program) (op : Op) (d : Option Nat) (σ : St) (l : List Oper) (K : St → Prop) : Prop := opW P op d σ (restW P l K)
def oneDW (P : Program) (op : Op) (d : Option Nat) (σ : St) (l : List Oper) (K : St → Prop) : Prop := opDW P σ.h σ.ev op (putP (restDW P l K) σ d)
theorem restW_start (h : restW P l K σ) : opsW P l σ K := h
theorem restDW_start (h : restDW P l K σ) : opsDW P l σ K := h
theorem restW_nil : restW P [] K σ = K σ := rfl
theorem restDW_nil : restDW P [] K σ = K σ := rfl
theorem restW_cons : restW P (⟨d, op, t, pos, af, none⟩ :: l) K σ = oneW P op d σ l K := by simp only [restW, opsW, oneW, true_and]; rfl
theorem restDW_cons : restDW P (⟨d, op, t, pos, af, none⟩ :: l) K σ = oneDW P op d σ l K := by simp only [restDW, opsDW, oneDW, true_and]; rfl
theorem oneW_bin {o : BinOp} {x y : Operand} : oneW P (.binOp o t x y t') d σ l K = binW o (putV (restW P l K) σ d) (σ.ev x) (σ.ev y) := rfl
theorem oneDW_bin {o : BinOp} {x y : Operand} : oneDW P (.binOp o t x y t') d σ l K = binW o (ofV (putP (restDW P l K) σ d)) (σ.ev x) (σ.ev y) := rfl
theorem oneW_move {x : Operand} : oneW P (.move x) d σ l K = opK P (.move x) d σ (restW P l K) := rfl
theorem oneW_assign {x : Operand} : oneW P (.assign x) d σ l K = opK P (.assign x) d σ (restW P l K) := rfl
theorem oneW_load {x : Operand} : oneW P (.load t x) d σ l K = opK P (.load t x) d σ (restW P l K) := rfl
theorem oneW_store {x y : Operand} : oneW P (.store t x y) d σ l K = opK P (.store t x y) d σ (restW P l K) := rfl
theorem oneW_fieldAddr {x : Operand} {i : Nat} : oneW P (.fieldAddr t x i) d σ l K = opK P (.fieldAddr t x i) d σ (restW P l K) := rfl
theorem oneW_nil {x : Operand} : oneW P (.nilCheck x) d σ l K = opK P (.nilCheck x) d σ (restW P l K) := rfl
theorem oneDW_move {x : Operand} : oneDW P (.move x) d σ l K = opD P σ.h σ.ev (.move x) (putP (restDW P l K) σ d) := rfl
theorem oneDW_assign {x : Operand} : oneDW P (.assign x) d σ l K = opD P σ.h σ.ev (.assign x) (putP (restDW P l K) σ d) := rfl
theorem oneDW_load {x : Operand} : oneDW P (.load t x) d σ l K = opD P σ.h σ.ev (.load t x) (putP (restDW P l K) σ d) := rfl
theorem oneDW_fieldAddr {x : Operand} {i : Nat} : oneDW P (.fieldAddr t x i) d σ l K = opD P σ.h σ.ev (.fieldAddr t x i) (putP (restDW P l K) σ d) := rfl
theorem oneDW_nil {x : Operand} : oneDW P (.nilCheck x) d σ l K = opD P σ.h σ.ev (.nilCheck x) (putP (restDW P l K) σ d) := rfl
theorem binW_add {k : IntKind} {a b : Int} {K : Value → Prop} : binW .add K (.s (.c (.v (.int k a)))) (.s (.c (.v (.int k b)))) = K (.int k (addW k a b)) := by simp [binW, wrapI]
theorem binW_mul {k : IntKind} {a b : Int} {K : Value → Prop} : binW .mul K (.s (.c (.v (.int k a)))) (.s (.c (.v (.int k b)))) = K (.int k (mulW k a b)) := by simp [binW, wrapI]
theorem binW_and {k : IntKind} {a b : Int} {K : Value → Prop} : binW .and K (.s (.c (.v (.int k a)))) (.s (.c (.v (.int k b)))) = K (.int k (andW k a b)) := by simp [binW, wrapI]
theorem binW_xor {k : IntKind} {a b : Int} {K : Value → Prop} : binW .xor K (.s (.c (.v (.int k a)))) (.s (.c (.v (.int k b)))) = K (.int k (xorW k a b)) := by simp [binW, wrapI]
theorem binW_shr {k k' : IntKind} {a b : Int} {K : Value → Prop} : binW .shr K (.s (.c (.v (.int k a)))) (.s (.c (.v (.int k' b)))) = ((0 ≤ b ∧ b ≤ k.bits) ∧ K (.int k (a / 2 ^ b.toNat))) := by
  simp only [binW, wrapI, true_or, true_and]
  by_cases h : 0 ≤ b ∧ b ≤ (k.bits : Int) <;> simp [h]
theorem thenE_n {f : St → Prop} : thenE f Q .normal σ = f σ := rfl
end
attribute [go_sem] restW_nil restDW_nil restW_cons restDW_cons oneW_bin oneDW_bin oneW_move oneW_assign oneW_load oneW_store oneW_fieldAddr oneW_nil oneDW_move oneDW_assign oneDW_load oneDW_fieldAddr oneDW_nil binW_add binW_mul binW_and binW_xor binW_shr thenE_n
attribute [irreducible] restW restDW oneW oneDW
theorem and255 (a : Int) : ∃ n : Nat, n ≤ 255 ∧ andW .i64 a 255 = (n : Int) := by
  have h : (BitVec.ofInt IntKind.i64.bits a &&& BitVec.ofInt IntKind.i64.bits 255).toNat ≤ 255 := by
    rw [BitVec.toNat_and]
    refine Nat.le_trans Nat.and_le_right ?_
    decide
  refine ⟨(BitVec.ofInt IntKind.i64.bits a &&& BitVec.ofInt IntKind.i64.bits 255).toNat, h, ?_⟩
  have hmin : IntKind.min .i64 ≤ 0 := by decide
  have hmax : (255 : Int) ≤ IntKind.max .i64 := by decide
  exact wrap_in (k := .i64) ⟨by omega, by omega⟩
/-! ### publishing at an end -/
theorem fin_pub {pk : Pk} {h h' : Hp} {pv r : PV} (hf : Fin pk { h with lists := pubAll h.lists } pv h' r) : Fin pk h pv h' r := by
  intro g0 g v hk wf hr
  obtain ⟨hk', he⟩ := hk.pub' wf
  exact hf g0 (pubG g h) v hk' wf.pub (hr.ext he)
theorem weak_pub {pk : Pk} {σ τ : St} (hw : Weak pk { σ with h := { σ.h with lists := pubAll σ.h.lists } } τ) : Weak pk σ τ := by
  intro g0 a w ⟨g, hg, s⟩
  obtain ⟨hk', he⟩ := s.heap.pub' s.wf
  exact hw g0 a w ⟨pubG g σ.h, hg, ⟨s.defers, s.size, hk', s.wf.pub, fun t ht => (s.env t ht).ext he⟩⟩
/-- own lists (all, or those of these numbers) shown as readable lists -/
def seeO : Option LO → C → C
  | some lo, x => if lo.live = true then .l lo.sz lo.xs else x
  | none, x => x
def seeC (all : Bool) (ks : List Nat) (ls : List (Nat × LO)) : C → C
  | .o id => if (all || memN ks id) = true then seeO (fnd ls id) (.o id) else .o id
  | x => x
def seeV1 (all : Bool) (ks : List Nat) (ls : List (Nat × LO)) : V1 → V1
  | .c x => .c (seeC all ks ls x)
  | .a xs => .a (xs.map (seeC all ks ls))
def seePV (all : Bool) (ks : List Nat) (ls : List (Nat × LO)) : PV → PV
  | .s x => .s (seeV1 all ks ls x)
  | .t xs => .t (xs.map (seeV1 all ks ls))
section
variable {g0 : Gh} {pk : Pk} {g : Gh} {h : Hp}
theorem seeC_rep {all : Bool} {ks : List Nat} (hk : HeapOk g0 pk g h) (hp : ∀ id lo, (id, lo) ∈ h.lists → lo.pub = true) {x : C} {u : Value} (hr : RepC g h x u) : RepC g h (seeC all ks h.lists x) u := by
  cases x with
  | o id =>
    simp only [seeC]
    split
    · cases hf : fnd h.lists id with
      | none => exact hr
      | some lo =>
        simp only [seeO]
        split
        · rename_i hl
          obtain ⟨_, rfl⟩ := hr
          exact own_view hk (fnd_mem hf) hl (hp id lo (fnd_mem hf)) h
        · exact hr
    · exact hr
  | _ => exact hr
theorem all2_map {α β : Type} {R S : α → β → Prop} {f : α → α} (h : ∀ x y, R x y → S (f x) y) : ∀ {l : List α} {m : List β}, All2 R l m → All2 S (l.map f) m
  | [], [], _ => trivial
  | _ :: _, _ :: _, ⟨a, b⟩ => ⟨h _ _ a, all2_map h b⟩
  | [], _ :: _, h => h.elim
  | _ :: _, [], h => h.elim
theorem seeV1_rep {all : Bool} {ks : List Nat} (hk : HeapOk g0 pk g h) (hp : ∀ id lo, (id, lo) ∈ h.lists → lo.pub = true) {x : V1} {u : Value} (hr : RepV1 g h x u) : RepV1 g h (seeV1 all ks h.lists x) u := by
  cases x with
  | c x => exact seeC_rep hk hp hr
  | a xs => obtain ⟨cs, e, h2⟩ := hr; exact ⟨cs, e, all2_map (f := seeC all ks h.lists) (fun _ _ => seeC_rep hk hp) h2⟩
theorem seePV_rep {all : Bool} {ks : List Nat} (hk : HeapOk g0 pk g h) (hp : ∀ id lo, (id, lo) ∈ h.lists → lo.pub = true) {x : PV} {u : Value} (hr : RepPV g h x u) : RepPV g h (seePV all ks h.lists x) u := by
  cases x with
  | s x => exact seeV1_rep hk hp hr
  | t xs => obtain ⟨cs, e, h2⟩ := hr; exact ⟨cs, e, all2_map (f := seeV1 all ks h.lists) (fun _ _ => seeV1_rep hk hp) h2⟩
theorem pubAll_pub {l : List (Nat × LO)} {id : Nat} {lo : LO} (h : (id, lo) ∈ pubAll l) : lo.pub = true := by
  obtain ⟨lo0, _, e⟩ := mem_pubAll h
  rw [e]
/-- the boxes' cells seen anew -/
def reB (f : C → C) (l : List (Nat × List C)) : List (Nat × List C) := l.map fun x => (x.1, x.2.map f)
theorem mem_reB {f : C → C} {l : List (Nat × List C)} {id : Nat} {cs : List C} (h : (id, cs) ∈ reB f l) : ∃ cs0, (id, cs0) ∈ l ∧ cs = cs0.map f := by
  obtain ⟨⟨i, c⟩, hm, e⟩ := List.mem_map.1 h
  obtain ⟨rfl, rfl⟩ := Prod.mk.inj e
  exact ⟨c, hm, rfl⟩
theorem mem_reB' {f : C → C} {l : List (Nat × List C)} {id : Nat} {cs : List C} (h : (id, cs) ∈ l) : (id, cs.map f) ∈ reB f l := List.mem_map.2 ⟨(id, cs), h, rfl⟩
theorem repC_reB {f : C → C} {x : C} {u : Value} (hr : RepC g h x u) : RepC g { h with boxes := reB f h.boxes } x u := by
  cases x with
  | p id off => obtain ⟨⟨cs, hm⟩, e⟩ := hr; exact ⟨⟨_, mem_reB' hm⟩, e⟩
  | sb id n cap => obtain ⟨⟨cs, hm⟩, e⟩ := hr; exact ⟨⟨_, mem_reB' hm⟩, e⟩
  | _ => exact hr
theorem HeapOk.reB {f : C → C} (hk : HeapOk g0 pk g h) (hf : ∀ x u, RepC g h x u → RepC g h (f x) u) : HeapOk g0 pk g { h with boxes := PL.reB f h.boxes } := by
  refine ⟨hk.os, hk.tape, hk.output, hk.size, hk.frame, hk.vis, hk.old, hk.vin, fun id hid => ?_, hk.lsin, fun id cs hm => ?_, hk.lists, fun id cs id' cs' hm hm' hne => ?_, hk.sepL, fun id lo id' cs' hm hm' hl => ?_, hk.tab, hk.maps, hk.mold, hk.mkept⟩
  · obtain ⟨cs, hm⟩ := hk.pkin id hid
    exact ⟨_, mem_reB' hm⟩
  · obtain ⟨cs0, h0, rfl⟩ := mem_reB hm
    have hb := hk.boxes id cs0 h0
    obtain ⟨arr, ty, h1, h2, h3⟩ := hb.cells
    exact ⟨hb.own, hb.hid, arr, ty, h1, all2_map (fun x u hr => repC_reB (hf x u hr)) h2, h3⟩
  · obtain ⟨cs0, h0, rfl⟩ := mem_reB hm
    obtain ⟨cs1, h1, rfl⟩ := mem_reB hm'
    exact hk.sepB id cs0 id' cs1 h0 h1 hne
  · obtain ⟨cs1, h1, rfl⟩ := mem_reB hm'
    exact hk.sepX id lo id' cs1 hm h1 hl
end
/-- at an end: own lists are handed back as readable lists -/
theorem fin_see {pk : Pk} {h h' : Hp} {pv r : PV} (hf : Fin pk { h with lists := pubAll h.lists } (seePV true [] (pubAll h.lists) pv) h' r) : Fin pk h pv h' r := by
  intro g0 g v hk wf hr
  obtain ⟨hk', he⟩ := hk.pub' wf
  exact hf g0 (pubG g h) v hk' wf.pub (seePV_rep hk' (fun _ _ hm => pubAll_pub hm) (hr.ext he))
/-- at an end: own lists of these numbers become readable lists, in boxes too -/
theorem fin_seeB {pk : Pk} {h h' : Hp} {pv r : PV} (ks : List Nat) (hf : Fin pk ⟨reB (seeC false ks (pubAll h.lists)) h.boxes, pubAll h.lists⟩ pv h' r) (hs : ∀ {g : Gh} {v : Value}, RepPV g { h with lists := pubAll h.lists } pv v → RepPV g ⟨reB (seeC false ks (pubAll h.lists)) h.boxes, pubAll h.lists⟩ pv v) : Fin pk h pv h' r := by
  intro g0 g v hk wf hr
  obtain ⟨hk', he⟩ := hk.pub' wf
  have hk2 := hk'.reB (f := seeC false ks (pubAll h.lists)) fun x u hr => seeC_rep (h := { h with lists := pubAll h.lists }) hk' (fun _ _ hm => pubAll_pub hm) hr
  exact hf g0 (pubG g h) v hk2 ⟨wf.pub.ov, wf.pub.nd⟩ (hs (hr.ext he))
theorem repL_of {g : Gh} {h : Hp} {sz : Nat} {xs : List Value} {v : Value} (hr : RepC g h (.l sz xs) v) : RepL g sz xs v := hr
/-- at an end: a list of readable lists in a box is handed back as a readable list -/
theorem fin_ll {h : Hp} {id n cap sz : Nat} {xss : List (List Value)} {rest : List C} (hf : fnd h.boxes id = some (xss.map (fun xs => .l sz xs) ++ rest)) (hn : n = xss.length) (hc : cap = n + rest.length) (hm : cap ≤ maxLen) :
    Fin ⟨[], []⟩ h (.s (.c (.sb id n cap))) ⟨[], []⟩ (.s (.c (.ll sz xss))) := by
  intro g0 g v hk wf hr
  obtain ⟨_, rfl⟩ := hr
  have hb := hk.boxes id _ (fnd_mem hf)
  obtain ⟨arr, ty, hblk, hrep, h1⟩ := hb.cells
  have hnew : g0.w.heap.size ≤ g.bx id := by
    rcases hb.own with ⟨_, h2⟩ | ⟨h2, _⟩
    · exact h2
    · simp at h2
  let g' : Gh := { g with V := fun b o => g.V b o ∨ (b = g.bx id ∧ o < xss.length) }
  have hlt := hb.lt
  refine ⟨g', rfl, ⟨hk.os, hk.tape, hk.output, hk.size, hk.frame, fun b o hv => ⟨.inl (hk.vis b o hv).1, (hk.vis b o hv).2⟩, fun b o hlt2 hl hv => ?_, fun b o hv => ?_, by simp, by simp, fun _ _ h => by simp at h, fun _ _ h => by simp at h, fun _ _ _ _ h => by simp at h, fun _ _ _ _ h => by simp at h, fun _ _ _ _ h => by simp at h, hk.tab, hk.maps, hk.mold, hk.mkept⟩, ⟨fun _ _ h => by simp at h, trivial⟩, ?_⟩
  · rcases hv with hv | ⟨rfl, _⟩
    · exact hk.old b o hlt2 hl hv
    · omega
  · rcases hv with hv | ⟨rfl, _⟩
    · exact hk.vin b o hv
    · exact hlt
  · have hve : ∀ b o, g.V b o → g'.V b o ∧ g'.w.cell? ⟨b, o, none⟩ = g.w.cell? ⟨b, o, none⟩ := fun b o hv => ⟨.inl hv, rfl⟩
    refine ⟨some ⟨g.bx id, 0, none⟩, cap, by rw [hn], by omega, hm, by simp, fun ad had => ?_⟩
    cases had
    refine ⟨rfl, fun j hj => ?_⟩
    obtain ⟨u, hu, hR⟩ := hrep.get j (.l sz xss[j]) (by rw [List.getElem?_append_left (by simpa using hj)]; simp [hj])
    refine ⟨u, ⟨?_, .inr ⟨rfl, by simpa using hj⟩⟩, RepL.ext hve (repL_of hR)⟩
    rw [Nat.zero_add]
    show g.w.cell? ⟨g.bx id, j, none⟩ = some u
    rw [cell_of_row _ _ _ _ _ _ hblk]
    simpa using hu
/-- own lists of these numbers become readable lists, in boxes too -/
theorem weak_see {pk : Pk} {σ τ : St} (ks : List Nat)
    (hw : Weak pk ⟨σ.n, σ.env.map fun x => (x.1, seePV false ks (pubAll σ.h.lists) x.2), ⟨reB (seeC false ks (pubAll σ.h.lists)) σ.h.boxes, pubAll σ.h.lists⟩⟩ τ) : Weak pk σ τ := by
  intro g0 a w ⟨g, hg, s⟩
  obtain ⟨hk', he⟩ := s.heap.pub' s.wf
  have hp : ∀ id lo, (id, lo) ∈ pubAll σ.h.lists → lo.pub = true := fun _ _ hm => pubAll_pub hm
  have hk2 := hk'.reB (f := seeC false ks (pubAll σ.h.lists)) fun x u hr => seeC_rep (h := { σ.h with lists := pubAll σ.h.lists }) hk' hp hr
  refine hw g0 a w ⟨pubG g σ.h, hg, ⟨s.defers, s.size, hk2, ⟨s.wf.pub.ov, s.wf.pub.nd⟩, fun t ht => ?_⟩⟩
  have h1 := (s.env t ht).ext he
  have ht : t < σ.n := ht
  simp only [St.get, ht, if_true] at h1 ⊢
  have hf : fnd (σ.env.map fun x => (x.1, seePV false ks (pubAll σ.h.lists) x.2)) t = (fnd σ.env t).map (seePV false ks (pubAll σ.h.lists)) := by
    generalize σ.env = l
    induction l with
    | nil => rfl
    | cons x r ih =>
      obtain ⟨k, x⟩ := x
      simp only [List.map_cons, fnd]
      split
      · rfl
      · exact ih
  rw [hf]
  cases hx : fnd σ.env t with
  | none => trivial
  | some pv =>
    rw [hx] at h1
    have h2 := seePV_rep (all := false) (ks := ks) (h := { σ.h with lists := pubAll σ.h.lists }) hk' hp h1
    have all : ∀ {y : PV} {u : Value}, RepPV (pubG g σ.h) { σ.h with lists := pubAll σ.h.lists } y u → RepPV (pubG g σ.h) ⟨reB (seeC false ks (pubAll σ.h.lists)) σ.h.boxes, pubAll σ.h.lists⟩ y u := by
      intro y u hr
      cases y with
      | s y =>
        cases y with
        | c y => exact repC_reB (h := { σ.h with lists := pubAll σ.h.lists }) hr
        | a ys => obtain ⟨cs, e, h3⟩ := hr; exact ⟨cs, e, h3.mono fun _ _ => repC_reB (h := { σ.h with lists := pubAll σ.h.lists })⟩
      | t ys =>
        obtain ⟨cs, e, h3⟩ := hr
        refine ⟨cs, e, h3.mono fun y u hr => ?_⟩
        cases y with
        | c y => exact repC_reB (h := { σ.h with lists := pubAll σ.h.lists }) hr
        | a ys => obtain ⟨cs, e, h3⟩ := hr; exact ⟨cs, e, h3.mono fun _ _ => repC_reB (h := { σ.h with lists := pubAll σ.h.lists })⟩
    exact all h2
section
variable {all : Bool} {ks : List Nat} {ls : List (Nat × LO)}
theorem seePV_s {x : V1} : seePV all ks ls (.s x) = .s (seeV1 all ks ls x) := rfl
theorem seePV_t {xs : List V1} : seePV all ks ls (.t xs) = .t (xs.map (seeV1 all ks ls)) := rfl
theorem seeV1_c {x : C} : seeV1 all ks ls (.c x) = .c (seeC all ks ls x) := rfl
theorem seeV1_a {xs : List C} : seeV1 all ks ls (.a xs) = .a (xs.map (seeC all ks ls)) := rfl
theorem seeC_v {x : Value} : seeC all ks ls (.v x) = .v x := rfl
theorem seeC_l {sz : Nat} {xs : List Value} : seeC all ks ls (.l sz xs) = .l sz xs := rfl
theorem seeC_p {id off : Nat} : seeC all ks ls (.p id off) = .p id off := rfl
theorem seeC_any : seeC all ks ls .any = .any := rfl
theorem seeC_o {id : Nat} : seeC all ks ls (.o id) = if (all || memN ks id) = true then seeO (fnd ls id) (.o id) else .o id := rfl
theorem seeO_s {e sz : Nat} {xs : List Value} {pub : Bool} {x : C} : seeO (some ⟨e, sz, xs, pub, true⟩) x = .l sz xs := rfl
theorem seeO_n {x : C} : seeO none x = x := rfl
theorem reB_nil {f : C → C} : reB f [] = [] := rfl
theorem reB_cons {f : C → C} {id : Nat} {cs : List C} {r : List (Nat × List C)} : reB f ((id, cs) :: r) = (id, cs.map f) :: reB f r := rfl
end
theorem seeC_sb {all : Bool} {ks : List Nat} {ls : List (Nat × LO)} {id n cap : Nat} : seeC all ks ls (.sb id n cap) = .sb id n cap := rfl
theorem seeC_mk {all : Bool} {ks : List Nat} {ls : List (Nat × LO)} {R : Int → Int → Int → Prop} : seeC all ks ls (.mk R) = .mk R := rfl
attribute [go_sem] seeC_sb seeC_mk seePV_s seePV_t seeV1_c seeV1_a seeC_v seeC_l seeC_p seeC_any seeC_o seeO_s seeO_n reB_nil reB_cons Bool.true_or Bool.false_or
end Go.PL
namespace Go.PL
set_option linter.unusedSimpArgs false
set_option linter.unusedVariables false
def plainV1 : V1 → Bool
  | .c x => plainC x
  | .a xs => xs.all plainC
theorem plainCs_rep {g : Gh} {h h' : Hp} : ∀ {xs : List C} {us : List Value}, xs.all plainC = true → All2 (RepC g h) xs us → All2 (RepC g h') xs us
  | [], [], _, _ => trivial
  | x :: xs, u :: us, hp, hr => by
    simp only [List.all_cons, Bool.and_eq_true] at hp
    exact ⟨plainC_rep hp.1 hr.1, plainCs_rep hp.2 hr.2⟩
  | [], _ :: _, _, hr => hr.elim
  | _ :: _, [], _, hr => hr.elim
theorem plainV1_rep {g : Gh} {h h' : Hp} {x : V1} {u : Value} (hp : plainV1 x = true) (hr : RepV1 g h x u) : RepV1 g h' x u := by
  cases x with
  | c x => exact plainC_rep hp hr
  | a xs => obtain ⟨cs, e, h1⟩ := hr; exact ⟨cs, e, plainCs_rep hp h1⟩
theorem plainVs_rep {g : Gh} {h h' : Hp} : ∀ {xs : List V1} {us : List Value}, xs.all plainV1 = true → All2 (RepV1 g h) xs us → All2 (RepV1 g h') xs us
  | [], [], _, _ => trivial
  | x :: xs, u :: us, hp, hr => by
    simp only [List.all_cons, Bool.and_eq_true] at hp
    exact ⟨plainV1_rep hp.1 hr.1, plainVs_rep hp.2 hr.2⟩
  | [], _ :: _, _, hr => hr.elim
  | _ :: _, [], _, hr => hr.elim
/-- a contract holds beside an own list that the call is not shown -/
theorem pc_beside {P : Program} {f : FuncId} {vs : List V1} {r : PV} (hc : PC P f [] vs r ⟨[], []⟩) (hp : vs.all plainV1 = true) (id : Nat) (lo : LO) (hl : lo.live = true) : PI P f [(id, lo)] vs r ⟨[], [(id, lo)]⟩ := by
  refine ⟨⟨hc.ok.1, fun g cargs hk wf ha => ?_⟩⟩
  have hk0 : HeapOk g ⟨[], []⟩ g ⟨[], []⟩ :=
    ⟨rfl, rfl, rfl, Nat.le_refl _, fun _ _ _ _ _ => rfl, fun _ _ h => ⟨h, rfl⟩, fun _ _ _ _ h => h, hk.vin, fun _ h => by simp at h, fun _ h => by simp at h, fun _ _ h => by simp at h, fun _ _ h => by simp at h, fun _ _ _ _ h => by simp at h, fun _ _ _ _ h => by simp at h, fun _ _ _ _ h => by simp at h, hk.tabN, hk.maps, fun _ _ _ h => h, fun _ _ h => h⟩
  have hc2 := hc.ok.2 g cargs hk0 ⟨fun _ _ h => by simp at h, trivial⟩ (plainVs_rep hp ha)
  refine hc2.mono fun e w' hx => ?_
  obtain ⟨g', v, rfl, rfl, h1, h2, h3⟩ := hx
  have hm : (id, lo) ∈ ([(id, lo)] : List (Nat × LO)) := by simp
  let g2 : Gh := { g' with ov := fun i => if i = id then g.ov id else g'.ov i }
  have eov : g2.ov id = g.ov id := by simp [g2]
  have hL := hk.lists id lo hm hl
  have hsame : ∀ k, k < g.w.heap.size → (∀ G, ¬ g.M k G) → g'.w.heap[k]? = g.w.heap[k]? := fun k hk2 hnm => h1.frame k hk2 (fun _ h => by simp at h) (fun _ h => by simp at h) hnm
  have one : ∀ i x, (i, x) ∈ ([(id, lo)] : List (Nat × LO)) → i = id ∧ x = lo := fun i x h => by simpa using h
  have hL2 : ListOk (Mine g ⟨[], [id]⟩) g2 id lo := hL.keep (g' := g2) eov (fun b hb => hsame b (hL.lt hb).2 (hk.listNoMap hm hl hb)) fun b hb o => ⟨fun hv => h1.old b o (hL.lt hb).2 (fun _ h => by simp at h) hv, fun hv => (h1.vis b o hv).1⟩
  refine ⟨g2, v, rfl, rfl, ⟨h1.os, h1.tape, h1.output, h1.size, fun k hk2 _ _ hnm => hsame k hk2 hnm, h1.vis, fun b o hb _ hv => h1.old b o hb (fun _ h => by simp at h) hv, h1.vin, fun _ h => by simp at h, fun i hi => ?_, fun _ _ h => by simp at h, fun i x hx _ => ?_, fun _ _ _ _ h => by simp at h, fun i x i' x' hx hx' _ _ hne => ?_, fun _ _ _ _ _ h => by simp at h, hk.tab, h1.maps, h1.mold, h1.mkept⟩, ⟨fun i x hx => ?_, ⟨rfl, trivial⟩⟩, ?_⟩
  · have : i = id := by simpa using hi
    subst this
    exact ⟨⟨lo, hm⟩, eov⟩
  · obtain ⟨rfl, rfl⟩ := one i x hx
    exact hL2
  · exact absurd ((one i x hx).1.trans (one i' x' hx').1.symm) hne
  · obtain ⟨rfl, rfl⟩ := one i x hx
    rw [eov]; exact wf.ov _ _ hm
  · have he : Ext g' ⟨[], []⟩ g2 ⟨[], [(id, lo)]⟩ := ⟨fun _ _ h => ⟨h, rfl⟩, fun _ _ h => by simp at h, fun _ _ h => by simp at h, fun _ _ h => h⟩
    exact h3.ext he
/-- at a call that is handed own lists and whose result shows pieces of lists -/
theorem callIV {P : Program} {σ : St} {dst : Option Nat} {f : FuncId} {args : List PV} {K : St → Prop} {vs : List V1} {r : PV} {ins ls : List (Nat × LO)} (hc : PI P f ins vs r ⟨[], ls⟩) (hin : insOk σ.h ins) (hv : viewArgs σ.h (ins.map Prod.fst) vs args = some vs)
    (hok : vs.all (okV1 [] (ins.map Prod.fst)) = true) (hf : freshL σ.h (ins.map Prod.fst) ls = true)
    (hK : K ({ σ with h := { boxes := σ.h.boxes, lists := ls ++ pubAll (dropK (ins.map Prod.fst) σ.h.lists) } }.put dst r)) : CallR P σ dst f args K := by
  unfold CallR
  exact .inr ⟨false, [], ins, vs, r, ⟨[], ls⟩, hc.ok, fun _ _ h => (by simp at h), (insOk_mem hin).1, (insOk_mem hin).2, hv, hok, fun id lo hm => freshL_mem hf id lo hm, fun _ _ h => (by simp at h),
    fun h => (by cases h), by simpa [mergeH, dropK_nil, restL] using hK⟩
end Go.PL
namespace Go.PL
open Go.RowKit
set_option linter.unusedSimpArgs false
/-- the string of these bytes -/
def sB (l : List UInt8) : ByteArray := ⟨l.toArray⟩
abbrev vS (l : List UInt8) : PV := .s (.c (.v (.string (sB l))))
abbrev sV (l : List UInt8) : Value := .string (sB l)
theorem sB_data (l : List UInt8) : (sB l).data.toList = l := by simp [sB]
theorem sB_of (s : ByteArray) : s = sB s.data.toList := by cases s; simp [sB]
theorem sB_inj {a b : List UInt8} (h : sB a = sB b) : a = b := by rw [← sB_data a, h, sB_data]
theorem sB_size (l : List UInt8) : (sB l).size = l.length := by simp [sB, ByteArray.size]
theorem sB_lit (l : List UInt8) : (⟨l.toArray⟩ : ByteArray) = sB l := rfl
theorem sB_ext {s t : ByteArray} (h : s.data.toList = t.data.toList) : s = t := by rw [sB_of s, sB_of t, h]
theorem sB_add (a b : List UInt8) : sB a ++ sB b = sB (a ++ b) := sB_ext (by rw [sB_data, ByteArray.toList_data_append]; simp [sB_data])
theorem sB_cut (l : List UInt8) (a b : Nat) : (sB l).extract a b = sB ((l.drop a).take (b - a)) := sB_ext (by
  rw [sB_data, Lib.extract_data, sB_data])
theorem sB_at (l : List UInt8) (i : Nat) : (sB l)[i]? = l[i]? := by
  by_cases h : i < l.length
  · rw [List.getElem?_eq_getElem h, getElem?_pos (sB l) i (by rw [sB_size]; exact h)]
    rfl
  · rw [List.getElem?_eq_none (by omega), getElem?_neg (sB l) i (by rw [sB_size]; exact h)]
theorem sB_toList (l : List UInt8) : (sB l).toList = l := by rw [ByteArray.toList_eq]; simp [sB]
theorem strOf_go (ns : List Int) : ∀ r : List UInt8, ns.foldl (fun r n => r.push (UInt8.ofNat n.toNat)) (sB r) = sB (r ++ ns.map fun n => UInt8.ofNat n.toNat) := by
  induction ns with
  | nil => intro r; simp
  | cons n ns ih =>
    intro r
    have e : (sB r).push (UInt8.ofNat n.toNat) = sB (r ++ [UInt8.ofNat n.toNat]) := by
      unfold sB ByteArray.push
      simp
    rw [List.foldl_cons, e, ih]
    simp
theorem strOf_sB (ns : List Int) : strOf ns = sB (ns.map fun n => UInt8.ofNat n.toNat) := by
  have := strOf_go ns []
  rw [List.nil_append] at this
  exact this
theorem eq_sB {a b : List UInt8} : (a == b) = decide (a = b) := by rw [Bool.eq_iff_iff]; simp
/-! ### functions of the library, by contracts over worlds -/
theorem below_gh {g0 : Gh} {pk : Pk} {g : Gh} {h : Hp} (hk : HeapOk g0 pk g h) (wf : WfG g h) {w' : World} (hb : Below g.w.heap.size g.w w') : HeapOk g0 pk { g with w := w' } h ∧ WfG { g with w := w' } h ∧ Ext g h { g with w := w' } h := by
  have hs := hk.step w' g.V hb.os hb.tape hb.output hb.size (fun k hlt => hb.block k hlt) (fun _ _ h => h) (fun _ _ _ h => h) (fun b o hv => Nat.lt_of_lt_of_le (hk.vin b o hv) hb.size)
  exact ⟨hs.1, wf.ext hs.2, hs.2⟩
/-- what a contract over worlds says of a function that writes nothing old and hands back an exact value -/
theorem pc_lib {P : Program} {f : FuncId} {vs : List V1} {r : PV} (hf : Callable P f)
    (hc : ∀ g (cargs : Array Value), HeapOk g ⟨[], []⟩ g ⟨[], []⟩ → All2 (RepV1 g ⟨[], []⟩) vs cargs.toList → Calls P f cargs g.w fun e w' => (∃ v, e = .returned v ∧ ∀ g' h', RepPV g' h' r v) ∧ Below g.w.heap.size g.w w') : PC P f [] vs r ⟨[], []⟩ := by
  refine ⟨⟨hf, fun g cargs hk wf ha => ?_⟩⟩
  refine (hc g cargs hk ha).mono fun e w' hx => ?_
  obtain ⟨⟨v, rfl, hv⟩, hb⟩ := hx
  obtain ⟨h1, h2, _⟩ := below_gh hk wf hb
  exact ⟨_, v, rfl, rfl, h1, h2, hv _ _⟩
/-- the same where a new list is handed back -/
theorem pc_libL {P : Program} {f : FuncId} {vs : List V1} {xs : List Value} {e : TypeId} (d : Nat) (hf : Callable P f) (hx : ∀ x ∈ xs, x.cells.size = 1) (ho : ∀ x ∈ xs, x.oneCell' = true) (hl : xs.length ≤ maxLen) (hfl : flat xs = xs)
    (hc : ∀ g (cargs : Array Value), HeapOk g ⟨[], []⟩ g ⟨[], []⟩ → All2 (RepV1 g ⟨[], []⟩) vs cargs.toList → Calls P f cargs g.w fun ed w' => ed = .returned (.slice (some ⟨g.w.heap.size, 0, none⟩) xs.length xs.length) ∧ w' = g.w.alloc (.cells xs.toArray e)) :
    PC P f [] vs (.s (.c (.o d))) ⟨[], [(d, ⟨e, 1, xs, false, true⟩)]⟩ := by
  refine ⟨⟨hf, fun g cargs hk wf ha => ?_⟩⟩
  refine (hc g cargs hk ha).mono fun ed w' hx' => ?_
  obtain ⟨rfl, rfl⟩ := hx'
  obtain ⟨g', h1, h2, h3, _, h5⟩ := newList hk wf (d := d) rfl (e := e) (sz := 1) (xs := xs) (cells := xs.toArray) xs.length (by rw [Nat.mul_one, hfl]; simp) (by simp) (Nat.le_refl _) hl hx (by rw [hfl]; exact ho) (by omega)
  exact ⟨g', _, rfl, h1, h2, h3, h5⟩
theorem HeapOk.table {g0 : Gh} {pk : Pk} {g : Gh} {h : Hp} (hk : HeapOk g0 pk g h) : ∃ rows, TabP rows ∧ ∀ x ∈ rows, (∃ ty fz, g.w.heap[x.1]? = some (.cells x.2.toArray ty fz)) := by
  obtain ⟨rows, h1, h2⟩ := hk.tabAt
  exact ⟨rows, h1, fun x hx => (h2 x hx).1.blk⟩
theorem bytesL_1 {n : Int} : bytesL [.int .u8 n] = some [n] := rfl
theorem bytesL_ns {ns : List Int} : bytesL (ns.map (.int .u8)) = some ns := by
  induction ns with
  | nil => rfl
  | cons n ns ih =>
    have : bytesL (Value.int .u8 n :: ns.map (.int .u8)) = (bytesL (ns.map (.int .u8))).map (n :: ·) := by
      simp only [bytesL, List.mapM_cons]
      cases List.mapM (fun x : Value => match x with | .int .u8 n => some n | _ => none) (ns.map (.int .u8)) <;> rfl
    rw [List.map_cons, this, ih]; rfl
attribute [go_sem] bytesL_1 bytesL_ns sB_lit sB_add sB_cut sB_at sB_toList sB_size strOf_sB eq_sB
end Go.PL
