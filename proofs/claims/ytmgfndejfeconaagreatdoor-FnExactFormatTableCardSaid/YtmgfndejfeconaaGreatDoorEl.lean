/-
  Numbers that wrap around: regions whose operations on numbers are the model's own. Own lists that are published at an end.
  An own list of the caller that a callee is not shown stays as it is.
  Strings as lists of bytes.
-/
import Derived.Test.YtmgfndejfeconaaGreatDoorEf
import Derived.Lib.Strings
namespace Go.PL
open Go.RowKit
set_option linter.unusedSimpArgs false
set_option linter.unusedVariables false
def addW (k : IntKind) (a b : Int) : Int := k.wrap (a + b)
def mulW (k : IntKind) (a b : Int) : Int := k.wrap (a * b)
def andW (k : IntKind) (a b : Int) : Int := k.wrap (BitVec.ofInt k.bits a &&& BitVec.ofInt k.bits b).toNat
def xorW (k : IntKind) (a b : Int) : Int := k.wrap (BitVec.ofInt k.bits a ^^^ BitVec.ofInt k.bits b).toNat
/-- what the model makes of two numbers, whatever they are -/
def wrapI (op : BinOp) (k : IntKind) (a b : Int) : Option Value :=
  match op with
  | .add => some (.int k (addW k a b))
  | .mul => some (.int k (mulW k a b))
  | .and => some (.int k (andW k a b))
  | .xor => some (.int k (xorW k a b))
  | .shr => if 0 ≤ b ∧ b ≤ k.bits then some (.int k (a / 2 ^ b.toNat)) else none
  | _ => none
def binW (op : BinOp) (K : Value → Prop) : PV → PV → Prop
  | .s (.c (.v (.int k a))), .s (.c (.v (.int k' b))) => (op = .shr ∨ k = k') ∧ optK (wrapI op k a b) K
  | _, _ => False
def opW (P : Program) (op : Op) (dst : Option Nat) (σ : St) (K : St → Prop) : Prop :=
  match op with
  | .binOp o t x y _ => binW o (fun v => K (σ.put dst (vV v))) (σ.ev x) (σ.ev y)
  | op => opK P op dst σ K
def opsW (P : Program) : List Oper → St → (St → Prop) → Prop
  | [], σ, K => K σ
  | o :: r, σ, K => o.guard = none ∧ opW P o.op o.dst σ fun σ' => opsW P r σ' K
def opDW (P : Program) (h : Hp) (ρ : Operand → PV) (op : Op) (K : PV → Prop) : Prop :=
  match op with
  | .binOp o t x y _ => binW o (fun v => K (vV v)) (ρ x) (ρ y)
  | op => opD P h ρ op K
def opsDW (P : Program) : List Oper → St → (St → Prop) → Prop
  | [], σ, K => K σ
  | o :: r, σ, K => o.guard = none ∧ opDW P σ.h σ.ev o.op fun pv => opsDW P r (σ.put o.dst pv) K
section
variable {P : Program} {pk : Pk} {Q : Exit → St → Prop} {σ : St}
end
/-! ### evaluation -/
section
variable {P : Program} {d : Option Nat} {σ : St} {K : St → Prop} {op : Op} {t t' : TypeId} {pos : String} {af : Array Edge} {l : List Oper} {pk : Pk} {Q : Exit → St → Prop}
def restW (P : Program) (l : List Oper) (K : St → Prop) (σ : St) : Prop := opsW P l σ K
def restDW (P : Program) (l : List Oper) (K : St → Prop) (σ : St) : Prop := opsDW P l σ K
def oneW (P : Program) (op : Op) (d : Option Nat) (σ : St) (l : List Oper) (K : St → Prop) : Prop := opW P op d σ (restW P l K)
def oneDW (P : Program) (op : Op) (d : Option Nat) (σ : St) (l : List Oper) (K : St → Prop) : Prop := opDW P σ.h σ.ev op (putP (restDW P l K) σ d)
theorem restW_nil : restW P [] K σ = K σ := rfl
theorem restDW_nil : restDW P [] K σ = K σ := rfl
theorem restW_cons : restW P (⟨d, op, t, pos, af, none⟩ :: l) K σ = oneW P op d σ l K := by simp only [restW, opsW, oneW, true_and]; rfl
theorem restDW_cons : restDW P (⟨d, op, t, pos, af, none⟩ :: l) K σ = oneDW P op d σ l K := by simp only [restDW, opsDW, oneDW, true_and]; rfl
theorem oneW_bin {o : BinOp} {x y : Operand} : oneW P (.binOp o t x y t') d σ l K = binW o (putV (restW P l K) σ d) (σ.ev x) (σ.ev y) := rfl
theorem oneDW_bin {o : BinOp} {x y : Operand} : oneDW P (.binOp o t x y t') d σ l K = binW o (ofV (putP (restDW P l K) σ d)) (σ.ev x) (σ.ev y) := rfl
theorem oneW_move {x : Operand} : oneW P (.move x) d σ l K = opK P (.move x) d σ (restW P l K) := rfl
theorem oneW_assign {x : Operand} : oneW P (.assign x) d σ l K = opK P (.assign x) d σ (restW P l K) := rfl
theorem oneW_load {x : Operand} : oneW P (.load t x) d σ l K = opK P (.load t x) d σ (restW P l K) := rfl
theorem oneW_store {x y : Operand} : oneW P (.store t x y) d σ l K = opK P (.store t x y) d σ (restW P l K) := rfl
theorem oneW_fieldAddr {x : Operand} {i : Nat} : oneW P (.fieldAddr t x i) d σ l K = opK P (.fieldAddr t x i) d σ (restW P l K) := rfl
theorem oneW_nil {x : Operand} : oneW P (.nilCheck x) d σ l K = opK P (.nilCheck x) d σ (restW P l K) := rfl
theorem oneDW_move {x : Operand} : oneDW P (.move x) d σ l K = opD P σ.h σ.ev (.move x) (putP (restDW P l K) σ d) := rfl
theorem oneDW_assign {x : Operand} : oneDW P (.assign x) d σ l K = opD P σ.h σ.ev (.assign x) (putP (restDW P l K) σ d) := rfl
theorem oneDW_load {x : Operand} : oneDW P (.load t x) d σ l K = opD P σ.h σ.ev (.load t x) (putP (restDW P l K) σ d) := rfl
theorem oneDW_fieldAddr {x : Operand} {i : Nat} : oneDW P (.fieldAddr t x i) d σ l K = opD P σ.h σ.ev (.fieldAddr t x i) (putP (restDW P l K) σ d) := rfl
theorem oneDW_nil {x : Operand} : oneDW P (.nilCheck x) d σ l K = opD P σ.h σ.ev (.nilCheck x) (putP (restDW P l K) σ d) := rfl
theorem binW_add {k : IntKind} {a b : Int} {K : Value → Prop} : binW .add K (.s (.c (.v (.int k a)))) (.s (.c (.v (.int k b)))) = K (.int k (addW k a b)) := by simp [binW, wrapI]
theorem binW_mul {k : IntKind} {a b : Int} {K : Value → Prop} : binW .mul K (.s (.c (.v (.int k a)))) (.s (.c (.v (.int k b)))) = K (.int k (mulW k a b)) := by simp [binW, wrapI]
theorem binW_and {k : IntKind} {a b : Int} {K : Value → Prop} : binW .and K (.s (.c (.v (.int k a)))) (.s (.c (.v (.int k b)))) = K (.int k (andW k a b)) := by simp [binW, wrapI]
theorem binW_xor {k : IntKind} {a b : Int} {K : Value → Prop} : binW .xor K (.s (.c (.v (.int k a)))) (.s (.c (.v (.int k b)))) = K (.int k (xorW k a b)) := by simp [binW, wrapI]
theorem binW_shr {k k' : IntKind} {a b : Int} {K : Value → Prop} : binW .shr K (.s (.c (.v (.int k a)))) (.s (.c (.v (.int k' b)))) = ((0 ≤ b ∧ b ≤ k.bits) ∧ K (.int k (a / 2 ^ b.toNat))) := by
  simp only [binW, wrapI, true_or, true_and]
  by_cases h : 0 ≤ b ∧ b ≤ (k.bits : Int) <;> simp [h]
theorem thenE_n {f : St → Prop} : thenE f Q .normal σ = f σ := rfl
end
attribute [go_sem] restW_nil restDW_nil restW_cons restDW_cons oneW_bin oneDW_bin oneW_move oneW_assign oneW_load oneW_store oneW_fieldAddr oneW_nil oneDW_move oneDW_assign oneDW_load oneDW_fieldAddr oneDW_nil binW_add binW_mul binW_and binW_xor binW_shr thenE_n
attribute [irreducible] restW restDW oneW oneDW
/-! ### publishing at an end -/
/-- own lists (all, or those of these numbers) shown as readable lists -/
def seeO : Option LO → C → C
  | some lo, x => if lo.live = true then .l lo.sz lo.xs else x
  | none, x => x
def seeC (all : Bool) (ks : List Nat) (ls : List (Nat × LO)) : C → C
  | .o id => if (all || memN ks id) = true then seeO (fnd ls id) (.o id) else .o id
  | x => x
def seeV1 (all : Bool) (ks : List Nat) (ls : List (Nat × LO)) : V1 → V1
  | .c x => .c (seeC all ks ls x)
  | .a xs => .a (xs.map (seeC all ks ls))
def seePV (all : Bool) (ks : List Nat) (ls : List (Nat × LO)) : PV → PV
  | .s x => .s (seeV1 all ks ls x)
  | .t xs => .t (xs.map (seeV1 all ks ls))
section
variable {g0 : Gh} {pk : Pk} {g : Gh} {h : Hp}
theorem all2_map {α β : Type} {R S : α → β → Prop} {f : α → α} (h : ∀ x y, R x y → S (f x) y) : ∀ {l : List α} {m : List β}, All2 R l m → All2 S (l.map f) m
  | [], [], _ => trivial
  | _ :: _, _ :: _, ⟨a, b⟩ => ⟨h _ _ a, all2_map h b⟩
  | [], _ :: _, h => h.elim
  | _ :: _, [], h => h.elim
/-- the boxes' cells seen anew -/
def reB (f : C → C) (l : List (Nat × List C)) : List (Nat × List C) := l.map fun x => (x.1, x.2.map f)
theorem mem_reB {f : C → C} {l : List (Nat × List C)} {id : Nat} {cs : List C} (h : (id, cs) ∈ reB f l) : ∃ cs0, (id, cs0) ∈ l ∧ cs = cs0.map f := by
  obtain ⟨⟨i, c⟩, hm, e⟩ := List.mem_map.1 h
  obtain ⟨rfl, rfl⟩ := Prod.mk.inj e
  exact ⟨c, hm, rfl⟩
theorem mem_reB' {f : C → C} {l : List (Nat × List C)} {id : Nat} {cs : List C} (h : (id, cs) ∈ l) : (id, cs.map f) ∈ reB f l := List.mem_map.2 ⟨(id, cs), h, rfl⟩
theorem repC_reB {f : C → C} {x : C} {u : Value} (hr : RepC g h x u) : RepC g { h with boxes := reB f h.boxes } x u := by
  cases x with
  | p id off => obtain ⟨⟨cs, hm⟩, e⟩ := hr; exact ⟨⟨_, mem_reB' hm⟩, e⟩
  | _ => exact hr
theorem HeapOk.reB {f : C → C} (hk : HeapOk g0 pk g h) (hf : ∀ x u, RepC g h x u → RepC g h (f x) u) : HeapOk g0 pk g { h with boxes := PL.reB f h.boxes } := by
  refine ⟨hk.os, hk.tape, hk.output, hk.size, hk.frame, hk.vis, hk.old, hk.vin, fun id hid => ?_, hk.lsin, fun id cs hm => ?_, hk.lists, fun id cs id' cs' hm hm' hne => ?_, hk.sepL, fun id lo id' cs' hm hm' hl => ?_, hk.tab⟩
  · obtain ⟨cs, hm⟩ := hk.pkin id hid
    exact ⟨_, mem_reB' hm⟩
  · obtain ⟨cs0, h0, rfl⟩ := mem_reB hm
    have hb := hk.boxes id cs0 h0
    obtain ⟨arr, ty, h1, h2, h3⟩ := hb.cells
    exact ⟨hb.own, hb.hid, arr, ty, h1, all2_map (fun x u hr => repC_reB (hf x u hr)) h2, h3⟩
  · obtain ⟨cs0, h0, rfl⟩ := mem_reB hm
    obtain ⟨cs1, h1, rfl⟩ := mem_reB hm'
    exact hk.sepB id cs0 id' cs1 h0 h1 hne
  · obtain ⟨cs1, h1, rfl⟩ := mem_reB hm'
    exact hk.sepX id lo id' cs1 hm h1 hl
end
section
variable {all : Bool} {ks : List Nat} {ls : List (Nat × LO)}
theorem seePV_s {x : V1} : seePV all ks ls (.s x) = .s (seeV1 all ks ls x) := rfl
theorem seePV_t {xs : List V1} : seePV all ks ls (.t xs) = .t (xs.map (seeV1 all ks ls)) := rfl
theorem seeV1_c {x : C} : seeV1 all ks ls (.c x) = .c (seeC all ks ls x) := rfl
theorem seeV1_a {xs : List C} : seeV1 all ks ls (.a xs) = .a (xs.map (seeC all ks ls)) := rfl
theorem seeC_v {x : Value} : seeC all ks ls (.v x) = .v x := rfl
theorem seeC_l {sz : Nat} {xs : List Value} : seeC all ks ls (.l sz xs) = .l sz xs := rfl
theorem seeC_p {id off : Nat} : seeC all ks ls (.p id off) = .p id off := rfl
theorem seeC_any : seeC all ks ls .any = .any := rfl
theorem seeC_o {id : Nat} : seeC all ks ls (.o id) = if (all || memN ks id) = true then seeO (fnd ls id) (.o id) else .o id := rfl
theorem seeO_s {e sz : Nat} {xs : List Value} {pub : Bool} {x : C} : seeO (some ⟨e, sz, xs, pub, true⟩) x = .l sz xs := rfl
theorem seeO_n {x : C} : seeO none x = x := rfl
theorem reB_nil {f : C → C} : reB f [] = [] := rfl
theorem reB_cons {f : C → C} {id : Nat} {cs : List C} {r : List (Nat × List C)} : reB f ((id, cs) :: r) = (id, cs.map f) :: reB f r := rfl
end
attribute [go_sem] seePV_s seePV_t seeV1_c seeV1_a seeC_v seeC_l seeC_p seeC_any seeC_o seeO_s seeO_n reB_nil reB_cons Bool.true_or Bool.false_or
end Go.PL
namespace Go.PL
set_option linter.unusedSimpArgs false
set_option linter.unusedVariables false
def plainV1 : V1 → Bool
  | .c x => plainC x
  | .a xs => xs.all plainC
end Go.PL
namespace Go.PL
open Go.RowKit
set_option linter.unusedSimpArgs false
/-- the string of these bytes -/
def sB (l : List UInt8) : ByteArray := ⟨l.toArray⟩
abbrev vS (l : List UInt8) : PV := .s (.c (.v (.string (sB l))))
abbrev sV (l : List UInt8) : Value := .string (sB l)
theorem sB_data (l : List UInt8) : (sB l).data.toList = l := by simp [sB]
theorem sB_of (s : ByteArray) : s = sB s.data.toList := by cases s; simp [sB]
theorem sB_size (l : List UInt8) : (sB l).size = l.length := by simp [sB, ByteArray.size]
theorem sB_lit (l : List UInt8) : (⟨l.toArray⟩ : ByteArray) = sB l := rfl
theorem sB_ext {s t : ByteArray} (h : s.data.toList = t.data.toList) : s = t := by rw [sB_of s, sB_of t, h]
theorem sB_add (a b : List UInt8) : sB a ++ sB b = sB (a ++ b) := sB_ext (by rw [sB_data, ByteArray.toList_data_append]; simp [sB_data])
theorem sB_cut (l : List UInt8) (a b : Nat) : (sB l).extract a b = sB ((l.drop a).take (b - a)) := sB_ext (by
  rw [sB_data, Lib.extract_data, sB_data])
theorem sB_at (l : List UInt8) (i : Nat) : (sB l)[i]? = l[i]? := by
  by_cases h : i < l.length
  · rw [List.getElem?_eq_getElem h, getElem?_pos (sB l) i (by rw [sB_size]; exact h)]
    rfl
  · rw [List.getElem?_eq_none (by omega), getElem?_neg (sB l) i (by rw [sB_size]; exact h)]
theorem sB_toList (l : List UInt8) : (sB l).toList = l := by rw [ByteArray.toList_eq]; simp [sB]
theorem strOf_go (ns : List Int) : ∀ r : List UInt8, ns.foldl (fun r n => r.push (UInt8.ofNat n.toNat)) (sB r) = sB (r ++ ns.map fun n => UInt8.ofNat n.toNat) := by
  induction ns with
  | nil => intro r; simp
  | cons n ns ih =>
    intro r
    have e : (sB r).push (UInt8.ofNat n.toNat) = sB (r ++ [UInt8.ofNat n.toNat]) := by
      unfold sB ByteArray.push
      simp
    rw [List.foldl_cons, e, ih]
    simp
theorem strOf_sB (ns : List Int) : strOf ns = sB (ns.map fun n => UInt8.ofNat n.toNat) := by
  have := strOf_go ns []
  rw [List.nil_append] at this
  exact this
theorem eq_sB {a b : List UInt8} : (a == b) = decide (a = b) := by rw [Bool.eq_iff_iff]; simp
/-! ### functions of the library, by contracts over worlds -/
theorem below_gh {g0 : Gh} {pk : Pk} {g : Gh} {h : Hp} (hk : HeapOk g0 pk g h) (wf : WfG g h) {w' : World} (hb : Below g.w.heap.size g.w w') : HeapOk g0 pk { g with w := w' } h ∧ WfG { g with w := w' } h ∧ Ext g h { g with w := w' } h := by
  have hs := hk.step w' g.V hb.os hb.tape hb.output hb.size (fun k hlt => hb.block k hlt) (fun _ _ h => h) (fun _ _ _ h => h) (fun b o hv => Nat.lt_of_lt_of_le (hk.vin b o hv) hb.size)
  exact ⟨hs.1, wf.ext hs.2, hs.2⟩
/-- what a contract over worlds says of a function that writes nothing old and hands back an exact value -/
theorem pc_lib {P : Program} {f : FuncId} {vs : List V1} {r : PV} (hf : Callable P f)
    (hc : ∀ g (cargs : Array Value), HeapOk g ⟨[], []⟩ g ⟨[], []⟩ → All2 (RepV1 g ⟨[], []⟩) vs cargs.toList → Calls P f cargs g.w fun e w' => (∃ v, e = .returned v ∧ ∀ g' h', RepPV g' h' r v) ∧ Below g.w.heap.size g.w w') : PC P f [] vs r ⟨[], []⟩ := by
  refine ⟨⟨hf, fun g cargs hk wf ha => ?_⟩⟩
  refine (hc g cargs hk ha).mono fun e w' hx => ?_
  obtain ⟨⟨v, rfl, hv⟩, hb⟩ := hx
  obtain ⟨h1, h2, _⟩ := below_gh hk wf hb
  exact ⟨_, v, rfl, rfl, h1, h2, hv _ _⟩
theorem HeapOk.table {g0 : Gh} {pk : Pk} {g : Gh} {h : Hp} (hk : HeapOk g0 pk g h) : ∃ rows, TabP rows ∧ ∀ x ∈ rows, (∃ ty fz, g.w.heap[x.1]? = some (.cells x.2.toArray ty fz)) := by
  obtain ⟨rows, h1, h2⟩ := hk.tabAt
  exact ⟨rows, h1, fun x hx => (h2 x hx).1.blk⟩
theorem bytesL_1 {n : Int} : bytesL [.int .u8 n] = some [n] := rfl
theorem bytesL_ns {ns : List Int} : bytesL (ns.map (.int .u8)) = some ns := by
  induction ns with
  | nil => rfl
  | cons n ns ih =>
    have : bytesL (Value.int .u8 n :: ns.map (.int .u8)) = (bytesL (ns.map (.int .u8))).map (n :: ·) := by
      simp only [bytesL, List.mapM_cons]
      cases List.mapM (fun x : Value => match x with | .int .u8 n => some n | _ => none) (ns.map (.int .u8)) <;> rfl
    rw [List.map_cons, this, ih]; rfl
attribute [go_sem] bytesL_1 bytesL_ns sB_lit sB_add sB_cut sB_at sB_toList sB_size strOf_sB eq_sB
end Go.PL
