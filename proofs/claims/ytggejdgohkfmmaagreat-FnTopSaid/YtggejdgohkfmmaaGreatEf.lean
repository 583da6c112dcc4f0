/-
  How simp evaluates code on abstract values: continuations without binders (what comes later is data), the set of rules, the rules at calls, tests and loops.
-/
import Derived.Test.YtggejdgohkfmmaaGreatEh
namespace Go.PL
open Go.RowKit
set_option linter.unusedSimpArgs false
set_option linter.unusedVariables false

/-! ### continuations without binders -/
def putP (K : St → Prop) (σ : St) (d : Option Nat) (pv : PV) : Prop := K (σ.put d pv)
def putV (K : St → Prop) (σ : St) (d : Option Nat) (v : Value) : Prop := K (σ.put d (.s (.c (.v v))))
def putA (K : St → Prop) (σ : St) (d : Option Nat) (cs : List C) : Prop := K (σ.put d (.s (.a cs)))
def putH (K : St → Prop) (σ : St) (d : Option Nat) (pv : PV) (h : Hp) : Prop := K ({ σ with h := h }.put d pv)
def putHP (K : St → Prop) (σ : St) (d : Option Nat) (h : Hp) (pv : PV) : Prop := K ({ σ with h := h }.put d pv)
def ofV (K : PV → Prop) (v : Value) : Prop := K (.s (.c (.v v)))
def ofC (K : PV → Prop) (c : C) : Prop := K (.s (.c c))
def ofV1 (K : PV → Prop) (x : V1) : Prop := K (.s x)
def ofA (K : PV → Prop) (cs : List C) : Prop := K (.s (.a cs))
theorem putP_eq {K : St → Prop} {σ : St} {d : Option Nat} {pv : PV} : putP K σ d pv = K (σ.put d pv) := rfl
theorem putV_eq {K : St → Prop} {σ : St} {d : Option Nat} {v : Value} : putV K σ d v = K (σ.put d (.s (.c (.v v)))) := rfl
theorem putA_eq {K : St → Prop} {σ : St} {d : Option Nat} {cs : List C} : putA K σ d cs = K (σ.put d (.s (.a cs))) := rfl
theorem putH_eq {K : St → Prop} {n : Nat} {env : List (Nat × PV)} {h0 : Hp} {d : Option Nat} {pv : PV} {h : Hp} : putH K ⟨n, env, h0⟩ d pv h = K (St.put ⟨n, env, h⟩ d pv) := rfl
theorem putHP_eq {K : St → Prop} {n : Nat} {env : List (Nat × PV)} {h0 : Hp} {d : Option Nat} {pv : PV} {h : Hp} : putHP K ⟨n, env, h0⟩ d h pv = K (St.put ⟨n, env, h⟩ d pv) := rfl
theorem ofV_eq {K : PV → Prop} {v : Value} : ofV K v = K (.s (.c (.v v))) := rfl
theorem ofC_eq {K : PV → Prop} {c : C} : ofC K c = K (.s (.c c)) := rfl
theorem ofV1_eq {K : PV → Prop} {x : V1} : ofV1 K x = K (.s x) := rfl
theorem ofA_eq {K : PV → Prop} {cs : List C} : ofA K cs = K (.s (.a cs)) := rfl

/-! ### code: a stack of what comes later -/
inductive Itm where
  | code (c : Code)
  | blk (id : Nat)
def KS (P : Program) (pk : Pk) (Q : Exit → St → Prop) : List Itm → Exit → St → Prop
  | [] => Q
  | .code c :: s => thenE (cK P pk c (KS P pk Q s)) (KS P pk Q s)
  | .blk id :: s => blockE id (KS P pk Q s)
def RunC (P : Program) (pk : Pk) (Q : Exit → St → Prop) (s : List Itm) (c : Code) (σ : St) : Prop := cK P pk c (KS P pk Q s) σ
def RunE (P : Program) (pk : Pk) (Q : Exit → St → Prop) (s : List Itm) (e : Exit) (σ : St) : Prop := KS P pk Q s e σ
def nrm (P : Program) (pk : Pk) (Q : Exit → St → Prop) (s : List Itm) (σ : St) : Prop := KS P pk Q s .normal σ
def opsC (P : Program) (ops : Array Oper) (l : List Oper) (K : St → Prop) (σ : St) : Prop := opsK P ops l σ K
def opsX (P : Program) (ops : Array Oper) (l : List Oper) (K : St → Prop) (σ : St) : Prop := opsD P ops l σ K
def ifR (P : Program) (pk : Pk) (Q : Exit → St → Prop) (s : List Itm) (a b : Code) (σ : St) (pv : PV) : Prop := condK pv (RunC P pk Q s a σ) (RunC P pk Q s b σ)
def grd (P : Program) (ops : Array Oper) (l : List Oper) (K : St → Prop) (σ : St) (op : Op) (d : Option Nat) (w : Bool) (pv : PV) : Prop := guardK pv w (opK P op d σ (opsC P ops l K)) (opsC P ops l K (σ.put d uV))
def grdX (P : Program) (ops : Array Oper) (l : List Oper) (K : St → Prop) (σ : St) (op : Op) (d : Option Nat) (w : Bool) (pv : PV) : Prop := guardK pv w (opD P σ.h σ.ev op (putP (opsX P ops l K) σ d)) (opsX P ops l K (σ.put d uV))
section
variable {P : Program} {pk : Pk} {Q : Exit → St → Prop} {s : List Itm} {σ : St}
theorem run_start {c : Code} (h : RunC P pk Q [] c σ) : cK P pk c Q σ := h
theorem RunC_seq {a b : Code} : RunC P pk Q s (.seq a b) σ = RunC P pk Q (.code b :: s) a σ := rfl
theorem RunC_cond {c : Operand} {a b : Code} : RunC P pk Q s (.cond c a b) σ = ifR P pk Q s a b σ (σ.ev c) := rfl
theorem RunC_block {id : Nat} {b : Code} : RunC P pk Q s (.block id b) σ = RunC P pk Q (.blk id :: s) b σ := rfl
theorem RunC_exit {id : Nat} : RunC P pk Q s (.exit id) σ = RunE P pk Q s (.exit id) σ := rfl
theorem RunC_ret : RunC P pk Q s .ret σ = RunE P pk Q s .ret σ := rfl
theorem RunC_skip : RunC P pk Q s .skip σ = RunE P pk Q s .normal σ := rfl
theorem RunC_region {id : Nat} {ops : Array Oper} : RunC P pk Q s (.region id ops false) σ = opsC P ops ops.toList (nrm P pk Q s) σ := rfl
theorem nrm_eq : nrm P pk Q s σ = RunE P pk Q s .normal σ := rfl
theorem RunE_nil {e : Exit} : RunE P pk Q [] e σ = Q e σ := rfl
theorem RunE_cn {c : Code} : RunE P pk Q (.code c :: s) .normal σ = RunC P pk Q s c σ := rfl
theorem RunE_cr {c : Code} : RunE P pk Q (.code c :: s) .ret σ = RunE P pk Q s .ret σ := rfl
theorem RunE_ce {c : Code} {id : Nat} : RunE P pk Q (.code c :: s) (.exit id) σ = RunE P pk Q s (.exit id) σ := rfl
theorem RunE_bn {i : Nat} : RunE P pk Q (.blk i :: s) .normal σ = RunE P pk Q s .normal σ := rfl
theorem RunE_br {i : Nat} : RunE P pk Q (.blk i :: s) .ret σ = RunE P pk Q s .ret σ := rfl
theorem RunE_be {i j : Nat} : RunE P pk Q (.blk i :: s) (.exit j) σ = if j = i then RunE P pk Q s .normal σ else RunE P pk Q s (.exit j) σ := rfl
theorem ifR_t {a b : Code} : ifR P pk Q s a b σ (.s (.c (.v (.bool true)))) = RunC P pk Q s a σ := by simp [ifR, condK]
theorem ifR_f {a b : Code} : ifR P pk Q s a b σ (.s (.c (.v (.bool false)))) = RunC P pk Q s b σ := by simp [ifR, condK]
/-- a test that is not decided: both ways, each by itself -/
theorem if_split {a b : Code} {t : Bool} (h1 : t = true → RunC P pk Q s a σ) (h2 : t = false → RunC P pk Q s b σ) : ifR P pk Q s a b σ (.s (.c (.v (.bool t)))) := ⟨h1, h2⟩
/-- a region that draws its order -/
theorem draw_step {id : Nat} {ops : Array Oper} (hm : P.follows .mixedOrders = true) (hok : drawOk ops = true) (h : opsX P ops ops.toList (nrm P pk Q s) σ) : RunC P pk Q s (.region id ops true) σ := cK_draw hm hok h
/-- a loop -/
theorem loop_step {c : Code} {X : Type} (mk : X → St) (I : X → Prop) (μ : X → Nat) (x0 : X) (hI : I x0) (hw : Weak pk σ (mk x0))
    (round : ∀ x, I x → RunC P pk (thenE (fun σ' => ∃ x', I x' ∧ μ x' < μ x ∧ Weak pk σ' (mk x')) (KS P pk Q s)) [] c (mk x)) : RunC P pk Q s (.loop c) σ := cK_loop mk I μ x0 hI hw round
theorem loopQ_n {f : St → Prop} : thenE f (KS P pk Q s) .normal σ = f σ := rfl
theorem loopQ_r {f : St → Prop} : thenE f (KS P pk Q s) .ret σ = RunE P pk Q s .ret σ := rfl
theorem loopQ_e {f : St → Prop} {id : Nat} : thenE f (KS P pk Q s) (.exit id) σ = RunE P pk Q s (.exit id) σ := rfl
end

/-! ### regions -/
section
variable {P : Program} {ops : Array Oper} {σ : St} {K : St → Prop} {d : Option Nat} {op : Op} {t : TypeId} {pos : String} {af : Array Edge} {l : List Oper} {j : Nat} {w : Bool}
theorem toList_lit {α : Type} (l : List α) : l.toArray.toList = l := rfl
/-- the guard's operation, read off the list -/
def gd : List Oper → Nat → Option Nat
  | [], _ => none
  | o :: r, j => if j = 0 then o.dst else gd r (j - 1)
theorem gd_eq : ∀ (l : List Oper) (j : Nat), (l[j]?).bind (·.dst) = gd l j
  | [], j => by simp [gd]
  | o :: r, 0 => by simp [gd]
  | o :: r, j + 1 => by simp [gd, gd_eq r j]
def gvO (σ : St) : Option Nat → PV
  | some d => σ.get d
  | none => .s (.c .any)
theorem gvO_s {d : Nat} : gvO σ (some d) = σ.get d := rfl
theorem gv_lit : gv l.toArray σ j = gvO σ (gd l j) := by
  unfold gv
  rw [List.getElem?_toArray, gd_eq]
  cases gd l j <;> rfl
theorem gd_nil : gd [] j = none := rfl
theorem gd_cons {g : Option (Nat × Bool)} : gd (⟨d, op, t, pos, af, g⟩ :: l) j = if j = 0 then d else gd l (j - 1) := rfl
theorem opsC_nil : opsC P ops [] K σ = K σ := rfl
theorem opsC_plain : opsC P ops (⟨d, op, t, pos, af, none⟩ :: l) K σ = opK P op d σ (opsC P ops l K) := rfl
theorem opsC_guard : opsC P ops (⟨d, op, t, pos, af, some (j, w)⟩ :: l) K σ = grd P ops l K σ op d w (gv ops σ j) := rfl
theorem opsX_nil : opsX P ops [] K σ = K σ := rfl
theorem opsX_plain : opsX P ops (⟨d, op, t, pos, af, none⟩ :: l) K σ = opD P σ.h σ.ev op (putP (opsX P ops l K) σ d) := rfl
theorem opsX_guard : opsX P ops (⟨d, op, t, pos, af, some (j, w)⟩ :: l) K σ = grdX P ops l K σ op d w (gv ops σ j) := rfl
theorem grd_tt : grd P ops l K σ op d true (.s (.c (.v (.bool true)))) = opK P op d σ (opsC P ops l K) := by simp [grd, guardK]
theorem grd_ff : grd P ops l K σ op d false (.s (.c (.v (.bool false)))) = opK P op d σ (opsC P ops l K) := by simp [grd, guardK]
theorem grd_tf : grd P ops l K σ op d true (.s (.c (.v (.bool false)))) = opsC P ops l K (σ.put d uV) := by simp [grd, guardK]
theorem grd_ft : grd P ops l K σ op d false (.s (.c (.v (.bool true)))) = opsC P ops l K (σ.put d uV) := by simp [grd, guardK]
theorem grd_u {vs : Array Value} : grd P ops l K σ op d w (.s (.c (.v (.tuple vs)))) = opsC P ops l K (σ.put d uV) := rfl
theorem grdX_tt : grdX P ops l K σ op d true (.s (.c (.v (.bool true)))) = opD P σ.h σ.ev op (putP (opsX P ops l K) σ d) := by simp [grdX, guardK]
theorem grdX_ff : grdX P ops l K σ op d false (.s (.c (.v (.bool false)))) = opD P σ.h σ.ev op (putP (opsX P ops l K) σ d) := by simp [grdX, guardK]
theorem grdX_tf : grdX P ops l K σ op d true (.s (.c (.v (.bool false)))) = opsX P ops l K (σ.put d uV) := by simp [grdX, guardK]
theorem grdX_ft : grdX P ops l K σ op d false (.s (.c (.v (.bool true)))) = opsX P ops l K (σ.put d uV) := by simp [grdX, guardK]
theorem grdX_u {vs : Array Value} : grdX P ops l K σ op d w (.s (.c (.v (.tuple vs)))) = opsX P ops l K (σ.put d uV) := rfl
theorem grd_split {t : Bool} (h1 : t = true → grd P ops l K σ op d w (.s (.c (.v (.bool true))))) (h2 : t = false → grd P ops l K σ op d w (.s (.c (.v (.bool false))))) : grd P ops l K σ op d w (.s (.c (.v (.bool t)))) := by
  cases t
  · exact h2 rfl
  · exact h1 rfl
theorem grdX_split {t : Bool} (h1 : t = true → grdX P ops l K σ op d w (.s (.c (.v (.bool true))))) (h2 : t = false → grdX P ops l K σ op d w (.s (.c (.v (.bool false))))) : grdX P ops l K σ op d w (.s (.c (.v (.bool t)))) := by
  cases t
  · exact h2 rfl
  · exact h1 rfl
end

/-! ### single operations: by values that are laid out -/
def pickR (K : PV → Prop) (a b : PV) (c : PV) : Prop := c1K c fun c => pickK c (K a) (K b)
def binR (P : Program) (op : BinOp) (t : TypeId) (K : Value → Prop) (x y : PV) : Prop := v1K x fun x => v1K y fun y => binV P op t x y K
def unR (op : UnOp) (K : PV → Prop) (x : PV) : Prop := c1K x fun x => unC op x K
def cvR (P : Program) (h : Hp) (s d : Option TypeDesc) (K : PV → Prop) (x : PV) : Prop := c1K x fun x => convD P h s d x K
def ldR (h : Hp) (K : PV → Prop) (a : PV) (n : Option (Option Nat)) : Prop := c1K a fun a => optK n fun n => loadP h n a K
def faR (K : PV → Prop) (x : PV) (fo : Option (Nat × Nat)) : Prop := c1K x fun x => optK fo fun fo => fieldP fo x K
def fvR (K : PV → Prop) (x : PV) (fp : Option (Nat × Option Nat)) : Prop := v1K x fun x => optK fp fun fp => fieldV fp x K
def ixR (h : Hp) (K : PV → Prop) (x i : PV) (es : Option (TypeId × Nat)) : Prop := c1K x fun x => c1K i fun i => optK es fun es => indexP h es.2 x i K
def isR (K : PV → Prop) (x i : PV) : Prop := c1K x fun x => c1K i fun i => indexS x i K
def exR (K : PV → Prop) (i : Nat) : PV → Prop
  | .t xs => optK xs[i]? fun x => K (.s x)
  | _ => False
def ncR (K : PV → Prop) (x : PV) : Prop := c1K x fun x => nilK x K
def buR (ρ : Operand → PV) (ps : List (Nat × Operand)) (K : List C → Prop) (zp : Option (List Value × List (Nat × Nat))) : Prop := optK zp fun zp => optK (fillA zp.2 (zp.1.map .v) (partsOf ρ ps)) K
def cellsPV : PV → Option (List C)
  | .s y => cells1 y
  | _ => none
def boxR (K : St → Prop) (σ : St) (d : Nat) (cs : Option (List C)) : Prop := optK cs fun cs => hasKey σ.h.boxes d = false ∧ K ({ σ with h := { σ.h with boxes := (d, cs) :: σ.h.boxes } }.put (some d) (.s (.c (.p d 0))))
def allocR (K : St → Prop) (σ : St) (d : Nat) (zs : Option (List Value)) : Prop := optK zs fun zs => (zs.all Value.oneCell' = true ∧ hasKey σ.h.boxes d = false) ∧ K ({ σ with h := { σ.h with boxes := (d, zs.map .v) :: σ.h.boxes } }.put (some d) (.s (.c (.p d 0))))
def storR (h : Hp) (K : Hp → Prop) (sz : Option Nat) (p : PV) (y : PV) : Prop := c1K p fun p => v1K y fun y => optK (cells1 y) fun cs => optK sz fun n => n = cs.length ∧ storeK h p y cs K
def appR (h : Hp) (t t' d : Nat) (K : Hp → Prop) (ei : Option (TypeId × Nat × Nat)) (s x : PV) : Prop := c1K s fun s => c1K x fun x => optK ei fun ei => optK (srcOf h ei.2.1 x) fun sy => (t' = t ∧ sy.1 = ei.2.1 ∧ hasKey h.lists d = false) ∧ appendK h ei d s sy.2 K
def mmR (hi : Bool) (K : PV → Prop) (x y : PV) : Prop := c1K x fun x => c1K y fun y => mmK hi x y K
def lenR (h : Hp) (td : Option TypeDesc) (K : PV → Prop) (x : PV) : Prop := c1K x fun x => lenK h td x K
def bsR (h : Hp) (n d : Nat) (K : Hp → Prop) (ei : Option (TypeId × Nat × Nat)) (sq : Bool) (xs : Option (List Value)) : Prop := optK ei fun ei => optK xs fun xs =>
    (sq = true ∧ xs.length = n ∧ (xs.all fun x => decide (x.cells.size = ei.2.1)) = true ∧ ((flat xs).all Value.oneCell') = true ∧ 0 < ei.2.1 ∧ n * ei.2.1 ≤ 16777216 ∧ hasKey h.lists d = false) ∧
    K { h with lists := (d, { e := ei.1, sz := ei.2.1, xs := xs, pub := false, live := true }) :: h.lists }
def blR (n : Nat) (K : PV → Prop) (ei : Option (TypeId × Nat × Nat)) (sq : Bool) (xs : Option (List Value)) : Prop := optK ei fun ei => optK xs fun xs =>
    (sq = true ∧ xs.length = n ∧ (xs.all fun x => decide (x.cells.size = ei.2.1)) = true ∧ ((flat xs).all Value.oneCell') = true ∧ 0 < ei.2.1 ∧ n * ei.2.1 ≤ 16777216) ∧ K (.s (.c (.l ei.2.1 xs)))
def slR (h : Hp) (es : Option (TypeId × Nat)) (td : Option TypeDesc) (d : Nat) (lo hi : Option PV) (K : Hp → PV → Prop) : PV → Prop
  | .s (.c (.o id)) => sliceO h es d id lo hi K
  | .s (.c x) => sliceD h es td x lo hi (K h)
  | _ => False
section
variable {P : Program} {d : Option Nat} {σ : St} {K : St → Prop}
theorem opK_move {x : Operand} : opK P (.move x) d σ K = K (σ.put d (σ.ev x)) := rfl
theorem opK_assign {x : Operand} : opK P (.assign x) d σ K = K (σ.put d (σ.ev x)) := rfl
theorem opK_pick {c a b : Operand} : opK P (.pick c a b) d σ K = pickR (putP K σ d) (σ.ev a) (σ.ev b) (σ.ev c) := rfl
theorem opK_binOp {op : BinOp} {t t' : TypeId} {x y : Operand} : opK P (.binOp op t x y t') d σ K = binR P op t (putV K σ d) (σ.ev x) (σ.ev y) := rfl
theorem opK_unOp {op : UnOp} {t : TypeId} {x : Operand} : opK P (.unOp op t x) d σ K = unR op (putP K σ d) (σ.ev x) := rfl
theorem opK_convert {s t : TypeId} {x : Operand} : opK P (.convert s t x) d σ K = cvR P σ.h (P.underlying s) (P.underlying t) (putP K σ d) (σ.ev x) := rfl
theorem opK_load {t : TypeId} {a : Operand} : opK P (.load t a) d σ K = ldR σ.h (putP K σ d) (σ.ev a) (aggN P t) := rfl
theorem opK_fieldAddr {t f : Nat} {x : Operand} : opK P (.fieldAddr t x f) d σ K = faR (putP K σ d) (σ.ev x) (fOff P t f) := rfl
theorem opK_field {t f : Nat} {x : Operand} : opK P (.field t x f) d σ K = fvR (putP K σ d) (σ.ev x) (fPart P t f) := rfl
theorem opK_indexAddr {t : Nat} {x i : Operand} : opK P (.indexAddr t x i) d σ K = ixR σ.h (putP K σ d) (σ.ev x) (σ.ev i) (eSz P t) := rfl
theorem opK_index {t : Nat} {x i : Operand} : opK P (.index t x i) d σ K = (P.underlying t = some .string ∧ isR (putP K σ d) (σ.ev x) (σ.ev i)) := rfl
theorem opK_extract {i : Nat} {x : Operand} : opK P (.extract x i) d σ K = exR (putP K σ d) i (σ.ev x) := by simp only [opK, opA, exR]; cases σ.ev x <;> rfl
theorem opK_nilCheck {x : Operand} : opK P (.nilCheck x) d σ K = ncR (putP K σ d) (σ.ev x) := rfl
theorem opK_build {t : Nat} {ps : Array (Nat × Operand)} : opK P (.build t ps) d σ K = buR σ.ev ps.toList (putA K σ d) (structP P t) := rfl
theorem opK_box {t : Nat} {x : Operand} {d : Nat} : opK P (.box t x) (some d) σ K = boxR K σ d (cellsPV (σ.ev x)) := by simp only [opK, boxR, cellsPV]; cases σ.ev x <;> rfl
theorem opK_alloc {t : Nat} {d : Nat} : opK P (.alloc t) (some d) σ K = allocR K σ d (zeroCs P t) := rfl
theorem opK_store {t : Nat} {a x : Operand} : opK P (.store t a x) d σ K = storR σ.h (putH K σ d uV) (szOf P t) (σ.ev a) (σ.ev x) := rfl
theorem opK_buildSlice {t n : Nat} {ps : Array (Nat × Operand)} {d : Nat} : opK P (.buildSlice t n ps) (some d) σ K = bsR σ.h n d (putH K σ (some d) (.s (.c (.o d)))) (eInf P t) (seqParts 0 ps.toList) (partsV σ.ev ps.toList) := rfl
theorem opK_slice {t : Nat} {x : Operand} {lo hi : Option Operand} {d : Nat} : opK P (.slice t x lo hi none) (some d) σ K = slR σ.h (eSz P t) (P.underlying t) d (lo.map σ.ev) (hi.map σ.ev) (putHP K σ (some d)) (σ.ev x) := by
  simp only [opK, slR, opA, Option.isNone_none, true_and, optK_some]
  cases σ.ev x with
  | s y => cases y with
    | c z => cases z <;> rfl
    | a _ => rfl
  | t _ => rfl
def CallR (P : Program) (σ : St) (dst : Option Nat) (f : FuncId) (args : List PV) (K : St → Prop) : Prop := CallK P σ dst f args K
def CallD (P : Program) (h : Hp) (f : FuncId) (args : List PV) (K : PV → Prop) : Prop := CallA P h f args K
def putO (K : St → Prop) (σ : St) (d : Nat) (h : Hp) : Prop := K ({ σ with h := h }.put (some d) (.s (.c (.o d))))
theorem putO_eq {K : St → Prop} {n : Nat} {env : List (Nat × PV)} {h0 : Hp} {d : Nat} {h : Hp} : putO K ⟨n, env, h0⟩ d h = K (St.put ⟨n, env, h⟩ (some d) (.s (.c (.o d)))) := rfl
def msR (P : Program) (h : Hp) (t d : Nat) (K : Hp → Prop) (l c : PV) : Prop := c1K l fun l => c1K c fun c => match l, c with
  | .v l, .v c => msK P h t d l c K
  | _, _ => False
theorem opK_make {P : Program} {σ : St} {K : St → Prop} {d : Nat} {t : TypeId} {l c : Operand} : opK P (.makeSlice t l c) (some d) σ K = msR P σ.h t d (putO K σ d) (σ.ev l) (σ.ev c) := by
  simp only [opK, msR, optK]; rfl
def msZ (P : Program) (h : Hp) (d : Nat) (l c : Int) (K : Hp → Prop) (ei : Option (TypeId × Nat × Nat)) : Prop := optK ei fun ei => optK (zeroV P ei.1) fun z =>
    (0 ≤ l ∧ l ≤ c ∧ (ei.2.2 : Int) * c ≤ 281474976710656 ∧ c ≤ 9223372036854775807 ∧ 0 < ei.2.1 ∧ (z.cells.toList.all Value.oneCell') = true ∧ hasKey h.lists d = false) ∧
    K { h with lists := (d, { e := ei.1, sz := ei.2.1, xs := List.replicate l.toNat z, pub := false, live := true }) :: h.lists }
theorem msR_s {P : Program} {h : Hp} {t d : Nat} {K : Hp → Prop} {k1 k2 : IntKind} {l c : Int} : msR P h t d K (.s (.c (.v (.int k1 l)))) (.s (.c (.v (.int k2 c)))) = msZ P h d l c K (eInf P t) := rfl
def msY (h : Hp) (d : Nat) (l c : Int) (e sz b : Nat) (K : Hp → Prop) (z : Option Value) : Prop := optK z fun z =>
    (0 ≤ l ∧ l ≤ c ∧ (b : Int) * c ≤ 281474976710656 ∧ c ≤ 9223372036854775807 ∧ 0 < sz ∧ (z.cells.toList.all Value.oneCell') = true ∧ hasKey h.lists d = false) ∧
    K { h with lists := (d, { e := e, sz := sz, xs := List.replicate l.toNat z, pub := false, live := true }) :: h.lists }
theorem msZ_s {P : Program} {h : Hp} {d : Nat} {l c : Int} {e sz b : Nat} {K : Hp → Prop} : msZ P h d l c K (some (e, sz, b)) = msY h d l c e sz b K (zeroV P e) := rfl
theorem msY_s {h : Hp} {d : Nat} {l c : Int} {e sz b : Nat} {K : Hp → Prop} {z : Value} : msY h d l c e sz b K (some z) = ((0 ≤ l ∧ l ≤ c ∧ (b : Int) * c ≤ 281474976710656 ∧ c ≤ 9223372036854775807 ∧ 0 < sz ∧ (z.cells.toList.all Value.oneCell') = true ∧ hasKey h.lists d = false) ∧
    K { h with lists := (d, { e := e, sz := sz, xs := List.replicate l.toNat z, pub := false, live := true }) :: h.lists }) := rfl
theorem opK_fn {f : FuncId} {args : Array Operand} {tys : Array TypeId} : opK P (.call ⟨.value (.func f), args, tys⟩) d σ K = CallR P σ d f (args.toList.map σ.ev) K := rfl
theorem opK_append {s x : Operand} {t t' d : Nat} : opK P (.call ⟨.builtin .append, [s, x].toArray, [t, t'].toArray⟩) (some d) σ K = appR σ.h t t' d (putH K σ (some d) (.s (.c (.o d)))) (eInf P t) (σ.ev s) (σ.ev x) := rfl
theorem opK_min {x y : Operand} {tys : Array TypeId} : opK P (.call ⟨.builtin .min, [x, y].toArray, tys⟩) d σ K = mmR false (putP K σ d) (σ.ev x) (σ.ev y) := rfl
theorem opK_max {x y : Operand} {tys : Array TypeId} : opK P (.call ⟨.builtin .max, [x, y].toArray, tys⟩) d σ K = mmR true (putP K σ d) (σ.ev x) (σ.ev y) := rfl
theorem opK_len {x : Operand} {t : Nat} : opK P (.call ⟨.builtin .len, [x].toArray, [t].toArray⟩) d σ K = lenR σ.h (P.underlying t) (putP K σ d) (σ.ev x) := rfl
end
section
variable {P : Program} {h : Hp} {ρ : Operand → PV} {K : PV → Prop}
theorem opD_move {x : Operand} : opD P h ρ (.move x) K = K (ρ x) := rfl
theorem opD_assign {x : Operand} : opD P h ρ (.assign x) K = K (ρ x) := rfl
theorem opD_pick {c a b : Operand} : opD P h ρ (.pick c a b) K = pickR K (ρ a) (ρ b) (ρ c) := rfl
theorem opD_binOp {op : BinOp} {t t' : TypeId} {x y : Operand} : opD P h ρ (.binOp op t x y t') K = binR P op t (ofV K) (ρ x) (ρ y) := rfl
theorem opD_unOp {op : UnOp} {t : TypeId} {x : Operand} : opD P h ρ (.unOp op t x) K = unR op K (ρ x) := rfl
theorem opD_convert {s t : TypeId} {x : Operand} : opD P h ρ (.convert s t x) K = cvR P h (P.underlying s) (P.underlying t) K (ρ x) := rfl
theorem opD_load {t : TypeId} {a : Operand} : opD P h ρ (.load t a) K = ldR h K (ρ a) (aggN P t) := rfl
theorem opD_fieldAddr {t f : Nat} {x : Operand} : opD P h ρ (.fieldAddr t x f) K = faR K (ρ x) (fOff P t f) := rfl
theorem opD_field {t f : Nat} {x : Operand} : opD P h ρ (.field t x f) K = fvR K (ρ x) (fPart P t f) := rfl
theorem opD_indexAddr {t : Nat} {x i : Operand} : opD P h ρ (.indexAddr t x i) K = ixR h K (ρ x) (ρ i) (eSz P t) := rfl
theorem opD_index {t : Nat} {x i : Operand} : opD P h ρ (.index t x i) K = (P.underlying t = some .string ∧ isR K (ρ x) (ρ i)) := rfl
theorem opD_extract {i : Nat} {x : Operand} : opD P h ρ (.extract x i) K = exR K i (ρ x) := by simp only [opD, opA, exR]; cases ρ x <;> rfl
theorem opD_nilCheck {x : Operand} : opD P h ρ (.nilCheck x) K = ncR K (ρ x) := rfl
theorem opD_build {t : Nat} {ps : Array (Nat × Operand)} : opD P h ρ (.build t ps) K = buR ρ ps.toList (ofA K) (structP P t) := rfl
theorem opD_buildSlice {t n : Nat} {ps : Array (Nat × Operand)} : opD P h ρ (.buildSlice t n ps) K = blR n K (eInf P t) (seqParts 0 ps.toList) (partsV ρ ps.toList) := rfl
def sdR (h : Hp) (es : Option (TypeId × Nat)) (td : Option TypeDesc) (lo hi : Option PV) (K : PV → Prop) (x : PV) : Prop := c1K x fun x => sliceD h es td x lo hi K
theorem opD_slice {t : Nat} {x : Operand} {lo hi : Option Operand} : opD P h ρ (.slice t x lo hi none) K = sdR h (eSz P t) (P.underlying t) (lo.map ρ) (hi.map ρ) K (ρ x) := by simp [opD, opA, sdR]
theorem opD_fn {f : FuncId} {args : Array Operand} {tys : Array TypeId} : opD P h ρ (.call ⟨.value (.func f), args, tys⟩) K = CallD P h f (args.toList.map ρ) K := rfl
theorem opD_min {x y : Operand} {tys : Array TypeId} : opD P h ρ (.call ⟨.builtin .min, [x, y].toArray, tys⟩) K = mmR false K (ρ x) (ρ y) := rfl
theorem opD_max {x y : Operand} {tys : Array TypeId} : opD P h ρ (.call ⟨.builtin .max, [x, y].toArray, tys⟩) K = mmR true K (ρ x) (ρ y) := rfl
theorem opD_len {x : Operand} {t : Nat} : opD P h ρ (.call ⟨.builtin .len, [x].toArray, [t].toArray⟩) K = lenR h (P.underlying t) K (ρ x) := rfl
end
section
variable {P : Program} {h : Hp} {K : PV → Prop} {a b c x y i : PV}
theorem pickR_t : pickR K a b (.s (.c (.v (.bool true)))) = K a := by simp [pickR, c1K, pickK]
theorem pickR_f : pickR K a b (.s (.c (.v (.bool false)))) = K b := by simp [pickR, c1K, pickK]
theorem pick_split {t : Bool} (h1 : t = true → K a) (h2 : t = false → K b) : pickR K a b (.s (.c (.v (.bool t)))) := ⟨h1, h2⟩
/-- a truth value picked out of two: no need to part -/
theorem pickR_and {t u : Bool} : pickR K (.s (.c (.v (.bool u)))) (.s (.c (.v (.bool false)))) (.s (.c (.v (.bool t)))) = K (.s (.c (.v (.bool (t && u))))) := by cases t <;> simp [pickR, c1K, pickK]
theorem pickR_or {t u : Bool} : pickR K (.s (.c (.v (.bool true)))) (.s (.c (.v (.bool u)))) (.s (.c (.v (.bool t)))) = K (.s (.c (.v (.bool (t || u))))) := by cases t <;> simp [pickR, c1K, pickK]
end
section
variable {P : Program} {t : TypeId} {k k' : IntKind} {a b : Int} {K : Value → Prop}
theorem bin_add : binR P .add t K (.s (.c (.v (.int k a)))) (.s (.c (.v (.int k b)))) = (inK k (a + b) ∧ K (.int k (a + b))) := by simp [binR, v1K, binV, binC, binI, isShift]
theorem bin_sub : binR P .sub t K (.s (.c (.v (.int k a)))) (.s (.c (.v (.int k b)))) = (inK k (a - b) ∧ K (.int k (a - b))) := by simp [binR, v1K, binV, binC, binI, isShift]
theorem bin_mul : binR P .mul t K (.s (.c (.v (.int k a)))) (.s (.c (.v (.int k b)))) = (inK k (a * b) ∧ K (.int k (a * b))) := by simp [binR, v1K, binV, binC, binI, isShift]
theorem bin_quo : binR P .quo t K (.s (.c (.v (.int k a)))) (.s (.c (.v (.int k b)))) = ((0 ≤ a ∧ 0 < b ∧ a ≤ k.max) ∧ K (.int k (a / b))) := by simp [binR, v1K, binV, binC, binI, isShift]
theorem bin_rem : binR P .rem t K (.s (.c (.v (.int k a)))) (.s (.c (.v (.int k b)))) = ((0 ≤ a ∧ 0 < b) ∧ K (.int k (a % b))) := by simp [binR, v1K, binV, binC, binI, isShift]
theorem bin_and : binR P .and t K (.s (.c (.v (.int k a)))) (.s (.c (.v (.int k b)))) = ((0 ≤ a ∧ 0 ≤ b ∧ a ≤ k.max ∧ b ≤ k.max) ∧ K (.int k ((a.toNat &&& b.toNat : Nat) : Int))) := by simp [binR, v1K, binV, binC, binI, isShift]
theorem bin_or : binR P .or t K (.s (.c (.v (.int k a)))) (.s (.c (.v (.int k b)))) = ((0 ≤ a ∧ 0 ≤ b ∧ inK k ((a.toNat ||| b.toNat : Nat) : Int) ∧ a ≤ k.max ∧ b ≤ k.max) ∧ K (.int k ((a.toNat ||| b.toNat : Nat) : Int))) := by simp [binR, v1K, binV, binC, binI, isShift]
theorem bin_xor : binR P .xor t K (.s (.c (.v (.int k a)))) (.s (.c (.v (.int k b)))) = ((0 ≤ a ∧ 0 ≤ b ∧ inK k ((a.toNat ^^^ b.toNat : Nat) : Int) ∧ a ≤ k.max ∧ b ≤ k.max) ∧ K (.int k ((a.toNat ^^^ b.toNat : Nat) : Int))) := by simp [binR, v1K, binV, binC, binI, isShift]
theorem bin_andNot : binR P .andNot t K (.s (.c (.v (.int k a)))) (.s (.c (.v (.int k b)))) = ((0 ≤ a ∧ 0 ≤ b ∧ a ≤ k.max ∧ b ≤ k.max) ∧ K (.int k ((ndiff a.toNat b.toNat : Nat) : Int))) := by simp [binR, v1K, binV, binC, binI, isShift]
theorem bin_eql : binR P .eql t K (.s (.c (.v (.int k a)))) (.s (.c (.v (.int k b)))) = K (.bool (decide (a = b))) := by simp [binR, v1K, binV, binC, binI, isShift]
theorem bin_neq : binR P .neq t K (.s (.c (.v (.int k a)))) (.s (.c (.v (.int k b)))) = K (.bool (!decide (a = b))) := by simp [binR, v1K, binV, binC, binI, isShift]
theorem bin_lss : binR P .lss t K (.s (.c (.v (.int k a)))) (.s (.c (.v (.int k b)))) = K (.bool (decide (a < b))) := by simp [binR, v1K, binV, binC, binI, isShift]
theorem bin_leq : binR P .leq t K (.s (.c (.v (.int k a)))) (.s (.c (.v (.int k b)))) = K (.bool (decide (a ≤ b))) := by simp [binR, v1K, binV, binC, binI, isShift]
theorem bin_gtr : binR P .gtr t K (.s (.c (.v (.int k a)))) (.s (.c (.v (.int k b)))) = K (.bool (decide (b < a))) := by simp [binR, v1K, binV, binC, binI, isShift]
theorem bin_geq : binR P .geq t K (.s (.c (.v (.int k a)))) (.s (.c (.v (.int k b)))) = K (.bool (decide (b ≤ a))) := by simp [binR, v1K, binV, binC, binI, isShift]
theorem bin_shl : binR P .shl t K (.s (.c (.v (.int k a)))) (.s (.c (.v (.int k' b)))) = ((0 ≤ b ∧ b < 64 ∧ b ≤ k.bits ∧ inK k (a * 2 ^ b.toNat)) ∧ K (.int k (a * 2 ^ b.toNat))) := by simp [binR, v1K, binV, binC, shI, isShift]
theorem bin_shr : binR P .shr t K (.s (.c (.v (.int k a)))) (.s (.c (.v (.int k' b)))) = ((0 ≤ b ∧ b ≤ k.bits) ∧ K (.int k (a / 2 ^ b.toNat))) := by simp [binR, v1K, binV, binC, shI, isShift]
theorem bin_beql {a b : Bool} : binR P .eql t K (.s (.c (.v (.bool a)))) (.s (.c (.v (.bool b)))) = (P.underlying t = some .bool ∧ K (.bool (a == b))) := rfl
theorem bin_bneq {a b : Bool} : binR P .neq t K (.s (.c (.v (.bool a)))) (.s (.c (.v (.bool b)))) = (P.underlying t = some .bool ∧ K (.bool (!(a == b)))) := rfl
theorem bin_seql {a b : ByteArray} : binR P .eql t K (.s (.c (.v (.string a)))) (.s (.c (.v (.string b)))) = K (.bool (a.toList == b.toList)) := rfl
theorem bin_sneq {a b : ByteArray} : binR P .neq t K (.s (.c (.v (.string a)))) (.s (.c (.v (.string b)))) = K (.bool (!(a.toList == b.toList))) := rfl
theorem bin_sadd {a b : ByteArray} : binR P .add t K (.s (.c (.v (.string a)))) (.s (.c (.v (.string b)))) = (a.size + b.size ≤ 9223372036854775807 ∧ K (.string (a ++ b))) := rfl
theorem bin_agg {op : BinOp} {x y : List C} : binR P op t K (.s (.a x)) (.s (.a y)) = PureB P op t (.a x) (.a y) K := rfl
end
section
variable {P : Program} {h : Hp} {K : PV → Prop}
theorem unR_b {b : Bool} : unR .not K (.s (.c (.v (.bool b)))) = K (.s (.c (.v (.bool (!b))))) := by simp [unR, c1K, unC]
theorem unR_i {k : IntKind} {n : Int} : unR .neg K (.s (.c (.v (.int k n)))) = (inK k (-n) ∧ K (.s (.c (.v (.int k (-n)))))) := by simp [unR, c1K, unC]
theorem cvR_i {d : TypeDesc} {k k' : IntKind} {n : Int} : cvR P h (some d) (some (.int k)) K (.s (.c (.v (.int k' n)))) = (inK k n ∧ K (.s (.c (.v (.int k n))))) := by cases d <;> rfl
theorem cvR_s {d : TypeDesc} {k' : IntKind} {n : Int} : cvR P h (some d) (some .string) K (.s (.c (.v (.int k' n)))) = K (.s (.c (.v (.string (Utf8.encode n))))) := by cases d <;> rfl
theorem cvR_l {e sz : Nat} {xs : List Value} : cvR P h (some (.slice e)) (some .string) K (.s (.c (.l sz xs))) = (P.underlying e = some (.int .u8) ∧ optK (bytesL xs) fun ns => K (.s (.c (.v (.string (strOf ns)))))) := rfl
def cvO (K : PV → Prop) : Option LO → Prop
  | some lo => lo.live = true ∧ optK (bytesL lo.xs) fun ns => K (.s (.c (.v (.string (strOf ns)))))
  | none => False
theorem cvR_o {e id : Nat} : cvR P h (some (.slice e)) (some .string) K (.s (.c (.o id))) = (P.underlying e = some (.int .u8) ∧ cvO K (fnd h.lists id)) := by
  simp only [cvR, c1K, convD, cvO]; cases fnd h.lists id <;> rfl
def ldB (n : Option Nat) (off : Nat) (K : PV → Prop) : Option (List C) → Prop
  | some cs => loadC n cs off K
  | none => False
theorem ldB_s {n : Option Nat} {off : Nat} {cs : List C} : ldB n off K (some cs) = loadC n cs off K := rfl
theorem ldR_p {n : Option Nat} {id off : Nat} : ldR h K (.s (.c (.p id off))) (some n) = ldB n off K (fnd h.boxes id) := by simp only [ldR, c1K, optK_some, loadP, ldB]; cases fnd h.boxes id <;> rfl
theorem ldR_q {n : Option Nat} {cs : List Value} : ldR h K (.s (.c (.q cs))) (some n) = loadC n (cs.map .v) 0 K := rfl
def ldE (n : Option Nat) (off : Nat) (K : PV → Prop) : Option Value → Prop
  | some x => loadC n (x.cells.toList.map .v) off K
  | none => False
theorem ldE_s {n : Option Nat} {off : Nat} {x : Value} : ldE n off K (some x) = loadC n (x.cells.toList.map .v) off K := rfl
def ldL (n : Option Nat) (sz idx off : Nat) (K : PV → Prop) : Option LO → Prop
  | some lo => (lo.live = true ∧ lo.sz = sz) ∧ ldE n off K lo.xs[idx]?
  | none => False
theorem ldL_s {n : Option Nat} {sz idx off : Nat} {lo : LO} : ldL n sz idx off K (some lo) = ((lo.live = true ∧ lo.sz = sz) ∧ ldE n off K lo.xs[idx]?) := rfl
theorem ldR_e {n : Option Nat} {id sz idx off : Nat} : ldR h K (.s (.c (.e id sz idx off))) (some n) = ldL n sz idx off K (fnd h.lists id) := by
  simp only [ldR, c1K, optK_some, loadP, ldL, ldE]
  cases hh : fnd h.lists id with
  | none => rfl
  | some lo => simp only [optK_some]; cases lo.xs[idx]? <;> rfl
theorem loadC_none {cs : List C} {off : Nat} : loadC none cs off K = optK cs[off]? (ofC K) := rfl
theorem loadC_some {n : Nat} {cs : List C} {off : Nat} : loadC (some n) cs off K = (off + n ≤ cs.length ∧ K (.s (.a ((cs.drop off).take n)))) := rfl
theorem faR_p {a b id off : Nat} : faR K (.s (.c (.p id off))) (some (a, b)) = (b ≠ 0 ∧ K (.s (.c (.p id (off + a))))) := rfl
theorem faR_q {a b : Nat} {cs : List Value} : faR K (.s (.c (.q cs))) (some (a, b)) = (b ≠ 0 ∧ K (.s (.c (.q (cs.drop a))))) := rfl
theorem faR_e {a b id sz idx off : Nat} : faR K (.s (.c (.e id sz idx off))) (some (a, b)) = (b ≠ 0 ∧ K (.s (.c (.e id sz idx (off + a))))) := rfl
theorem fvR_a {a : Nat} {n : Option Nat} {cs : List C} : fvR K (.s (.a cs)) (some (a, n)) = loadC n cs a K := rfl
def ixO (K : PV → Prop) : Option Value → Prop
  | some x => K (.s (.c (.q x.cells.toList)))
  | none => False
theorem ixO_s {x : Value} : ixO K (some x) = K (.s (.c (.q x.cells.toList))) := rfl
theorem ixR_l {e es sz : Nat} {xs : List Value} {k : IntKind} {n : Int} : ixR h K (.s (.c (.l sz xs))) (.s (.c (.v (.int k n)))) (some (e, es)) = (sz = es ∧ 0 ≤ n ∧ ixO K xs[n.toNat]?) := by
  simp only [ixR, c1K, optK_some, indexP, ixO]
  cases xs[n.toNat]? <;> rfl
def ixL (es id : Nat) (n : Int) (K : PV → Prop) : Option LO → Prop
  | some lo => (lo.live = true ∧ lo.sz = es) ∧ 0 ≤ n ∧ n.toNat < lo.xs.length ∧ K (.s (.c (.e id es n.toNat 0)))
  | none => False
theorem ixL_s {es id : Nat} {n : Int} {lo : LO} : ixL es id n K (some lo) = ((lo.live = true ∧ lo.sz = es) ∧ 0 ≤ n ∧ n.toNat < lo.xs.length ∧ K (.s (.c (.e id es n.toNat 0)))) := rfl
theorem ixR_o {e es id : Nat} {k : IntKind} {n : Int} : ixR h K (.s (.c (.o id))) (.s (.c (.v (.int k n)))) (some (e, es)) = ixL es id n K (fnd h.lists id) := by
  simp only [ixR, c1K, optK_some, indexP, ixL]
  cases hh : fnd h.lists id with
  | none => rfl
  | some lo =>
    simp only [optK_some]
    congr 1
    congr 1
    by_cases hlt : n.toNat < lo.xs.length
    · simp [hlt]
    · simp [hlt, List.getElem?_eq_none (Nat.le_of_not_lt hlt)]
def isO (K : PV → Prop) : Option UInt8 → Prop
  | some b => K (.s (.c (.v (.int .u8 b.toNat))))
  | none => False
theorem isO_s {b : UInt8} : isO K (some b) = K (.s (.c (.v (.int .u8 b.toNat)))) := rfl
theorem isR_s {s : ByteArray} {k : IntKind} {n : Int} : isR K (.s (.c (.v (.string s)))) (.s (.c (.v (.int k n)))) = (0 ≤ n ∧ isO K s[n.toNat]?) := by
  simp only [isR, c1K, indexS, isO]
  cases s[n.toNat]? <;> rfl
theorem exR_t {xs : List V1} {i : Nat} : exR K i (.t xs) = optK xs[i]? (ofV1 K) := rfl
theorem ncR_p {id off : Nat} : ncR K (.s (.c (.p id off))) = K (.s (.c (.p id off))) := rfl
theorem ncR_q {cs : List Value} : ncR K (.s (.c (.q cs))) = K (.s (.c (.q cs))) := rfl
theorem buR_s {ρ : Operand → PV} {ps : List (Nat × Operand)} {K : List C → Prop} {z : List Value} {p : List (Nat × Nat)} : buR ρ ps K (some (z, p)) = optK (fillA p (z.map .v) (partsOf ρ ps)) K := rfl
theorem mmR_min {k : IntKind} {a b : Int} : mmR false K (.s (.c (.v (.int k a)))) (.s (.c (.v (.int k b)))) = K (.s (.c (.v (.int k (min a b))))) := by
  have e : (if b < a then b else a) = min a b := by omega
  simp [mmR, c1K, mmK, e]
theorem mmR_max {k : IntKind} {a b : Int} : mmR true K (.s (.c (.v (.int k a)))) (.s (.c (.v (.int k b)))) = K (.s (.c (.v (.int k (max a b))))) := by
  have e : (if a < b then b else a) = max a b := by omega
  simp [mmR, c1K, mmK, e]
theorem lenR_s {s : ByteArray} : lenR h (some .string) K (.s (.c (.v (.string s)))) = K (.s (.c (.v (.int .i64 s.size)))) := rfl
theorem lenR_l {e sz : Nat} {xs : List Value} : lenR h (some (.slice e)) K (.s (.c (.l sz xs))) = K (.s (.c (.v (.int .i64 xs.length)))) := rfl
theorem lenR_n {e : Nat} : lenR h (some (.slice e)) K (.s (.c (.v (.slice none 0 0)))) = K (.s (.c (.v (.int .i64 0)))) := rfl
def leO (K : PV → Prop) : Option LO → Prop
  | some lo => lo.live = true ∧ K (.s (.c (.v (.int .i64 lo.xs.length))))
  | none => False
theorem leO_s {lo : LO} : leO K (some lo) = (lo.live = true ∧ K (.s (.c (.v (.int .i64 lo.xs.length))))) := rfl
theorem lenR_o {e id : Nat} : lenR h (some (.slice e)) K (.s (.c (.o id))) = leO K (fnd h.lists id) := by
  simp only [lenR, c1K, lenK, lenC, leO]
  cases hh : fnd h.lists id with
  | none => rfl
  | some lo => by_cases hl : lo.live = true <;> simp [hl]
end
section
variable {h : Hp} {K : St → Prop} {KH : Hp → Prop} {n : Nat} {env : List (Nat × PV)} {bs : List (Nat × List C)} {ls : List (Nat × LO)} {d : Nat}
theorem cellsPV_s {y : V1} : cellsPV (.s y) = cells1 y := rfl
theorem boxR_s {cs : List C} : boxR K ⟨n, env, ⟨bs, ls⟩⟩ d (some cs) = (hasKey bs d = false ∧ K ⟨n, (d, .s (.c (.p d 0))) :: env, ⟨(d, cs) :: bs, ls⟩⟩) := rfl
theorem allocR_s {zs : List Value} : allocR K ⟨n, env, ⟨bs, ls⟩⟩ d (some zs) = ((zs.all Value.oneCell' = true ∧ hasKey bs d = false) ∧ K ⟨n, (d, .s (.c (.p d 0))) :: env, ⟨(d, zs.map .v) :: bs, ls⟩⟩) := rfl
def stB (off : Nat) (bs : List (Nat × List C)) (ls : List (Nat × LO)) (id : Nat) (cs : List C) (K : Hp → Prop) : Option (List C) → Prop
  | some old => off + cs.length ≤ old.length ∧ K ⟨upd bs id (setAll old off cs), ls⟩
  | none => False
theorem stB_s {off id : Nat} {cs old : List C} : stB off bs ls id cs KH (some old) = (off + cs.length ≤ old.length ∧ KH ⟨upd bs id (setAll old off cs), ls⟩) := rfl
def stC (bs : List (Nat × List C)) (ls : List (Nat × LO)) (K : Hp → Prop) (sz id off : Nat) : Option (List C) → Prop
  | some cs => sz = cs.length ∧ stB off bs ls id cs K (fnd bs id)
  | none => False
theorem stC_s {sz id off : Nat} {cs : List C} : stC bs ls KH sz id off (some cs) = (sz = cs.length ∧ stB off bs ls id cs KH (fnd bs id)) := rfl
theorem storR_p {sz id off : Nat} {y : V1} : storR ⟨bs, ls⟩ KH (some sz) (.s (.c (.p id off))) (.s y) = stC bs ls KH sz id off (cells1 y) := by
  simp only [storR, c1K, v1K, optK_some, storeK, stC]
  cases cells1 y with
  | none => rfl
  | some cs => simp only [optK_some, stB]; cases fnd bs id <;> rfl
/-- a store into an own list: a whole element -/
def stX (bs : List (Nat × List C)) (ls : List (Nat × LO)) (K : Hp → Prop) (n sz id idx off : Nat) (u : Option Value) : Option LO → Prop
  | some lo => (lo.live = true ∧ lo.pub = false ∧ lo.sz = sz ∧ idx < lo.xs.length) ∧ optK u fun u =>
      if off = 0 ∧ n = sz then K ⟨bs, upd ls id { lo with xs := lo.xs.set idx u }⟩
      else (u.oneCell' = true ∧ n = 1 ∧ off < sz ∧ 1 < sz) ∧ K ⟨bs, upd ls id { lo with xs := lo.xs.set idx (setCellV ((lo.xs[idx]?).getD undef) off u) }⟩
  | none => False
theorem stX_s {m sz id idx off : Nat} {u : Value} {lo : LO} : stX bs ls KH m sz id idx off (some u) (some lo) = ((lo.live = true ∧ lo.pub = false ∧ lo.sz = sz ∧ idx < lo.xs.length) ∧
      if off = 0 ∧ m = sz then KH ⟨bs, upd ls id { lo with xs := lo.xs.set idx u }⟩
      else (u.oneCell' = true ∧ m = 1 ∧ off < sz ∧ 1 < sz) ∧ KH ⟨bs, upd ls id { lo with xs := lo.xs.set idx (setCellV ((lo.xs[idx]?).getD undef) off u) }⟩) := rfl
theorem storR_e {m sz id idx off : Nat} {y : V1} : storR ⟨bs, ls⟩ KH (some m) (.s (.c (.e id sz idx off))) (.s y) = ((cells1 y).map List.length = some m ∧ stX bs ls KH m sz id idx off (exactV1 y) (fnd ls id)) := by
  simp only [storR, c1K, v1K, optK_some, storeK, stX]
  cases hc : cells1 y with
  | none => simp
  | some cs =>
    simp only [optK_some, Option.map_some, Option.some.injEq]
    by_cases hm : m = cs.length
    · subst hm
      simp only [true_and]
      cases hf : fnd ls id with
      | none => rfl
      | some lo =>
        simp only [optK_some]
        cases hx : exactV1 y with
        | none => simp
        | some u =>
          simp only [optK_some]
          by_cases hi : idx < lo.xs.length
          · simp [hi]
          · simp [hi, List.getElem?_eq_none (Nat.le_of_not_lt hi)]
    · have : ¬ cs.length = m := fun e => hm e.symm
      simp [hm, this]
def srC (h : Hp) (es : Nat) : PV → Option (Nat × List Value)
  | .s (.c x) => srcOf h es x
  | _ => none
theorem srC_l {es sz : Nat} {ys : List Value} : srC h es (.s (.c (.l sz ys))) = some (sz, ys) := rfl
theorem srC_n {es : Nat} : srC h es (.s (.c (.v (.slice none 0 0)))) = some (es, []) := rfl
theorem srC_o {es id : Nat} : srC h es (.s (.c (.o id))) = (fnd h.lists id).bind fun lo => if lo.live = true then some (lo.sz, lo.xs) else none := by simp only [srC, srcOf]; cases fnd h.lists id <;> rfl
def apD (bs : List (Nat × List C)) (ls : List (Nat × LO)) (ei : TypeId × Nat × Nat) (d id : Nat) (ys : List Value) (K : Hp → Prop) : Option LO → Prop
  | some lo => (lo.live = true ∧ lo.e = ei.1 ∧ lo.sz = ei.2.1 ∧ lo.xs.length + ys.length ≤ 9223372036854775807 ∧ (lo.xs.length + ys.length) * ei.2.2 ≤ 140737488355328) ∧
      K ⟨bs, (d, { lo with xs := lo.xs ++ ys }) :: upd ls id { lo with live := false }⟩
  | none => False
theorem apD_s {ei : TypeId × Nat × Nat} {id : Nat} {ys xs : List Value} {e sz : Nat} {pub live : Bool} : apD bs ls ei d id ys KH (some ⟨e, sz, xs, pub, live⟩) = ((live = true ∧ e = ei.1 ∧ sz = ei.2.1 ∧ xs.length + ys.length ≤ 9223372036854775807 ∧ (xs.length + ys.length) * ei.2.2 ≤ 140737488355328) ∧
      KH ⟨bs, (d, ⟨e, sz, xs ++ ys, pub, live⟩) :: upd ls id ⟨e, sz, xs, pub, false⟩⟩) := rfl
def apC (bs : List (Nat × List C)) (ls : List (Nat × LO)) (ei : TypeId × Nat × Nat) (d : Nat) (s : C) (K : Hp → Prop) : Option (Nat × List Value) → Prop
  | some (sz, ys) => (sz = ei.2.1 ∧ hasKey ls d = false) ∧ appendK ⟨bs, ls⟩ ei d s ys K
  | none => False
theorem appR_eq {t : Nat} {ei : TypeId × Nat × Nat} {s : C} {x : PV} : appR ⟨bs, ls⟩ t t d KH (some ei) (.s (.c s)) x = apC bs ls ei d s KH (srC ⟨bs, ls⟩ ei.2.1 x) := by
  simp only [appR, c1K, optK_some, apC, srC, true_and]
  cases x with
  | s y => cases y with
    | c z => simp only [c1K]; cases srcOf ⟨bs, ls⟩ ei.2.1 z <;> rfl
    | a _ => rfl
  | t _ => rfl
theorem apC_o {ei : TypeId × Nat × Nat} {id sz : Nat} {ys : List Value} : apC bs ls ei d (.o id) KH (some (sz, ys)) = ((sz = ei.2.1 ∧ hasKey ls d = false) ∧ apD bs ls ei d id ys KH (fnd ls id)) := by
  simp only [apC, appendK, apD]
  cases fnd ls id <;> rfl
theorem apC_n {ei : TypeId × Nat × Nat} {sz : Nat} {ys : List Value} : apC bs ls ei d (.v (.slice none 0 0)) KH (some (sz, ys)) = ((sz = ei.2.1 ∧ hasKey ls d = false) ∧ (0 < ei.2.1 ∧ ys.length ≤ 9223372036854775807 ∧ ys.length * ei.2.2 ≤ 140737488355328) ∧
      KH ⟨bs, (d, ⟨ei.1, ei.2.1, ys, false, true⟩) :: ls⟩) := rfl
theorem bsR_s {m : Nat} {ei : TypeId × Nat × Nat} {sq : Bool} {xs : List Value} : bsR ⟨bs, ls⟩ m d KH (some ei) sq (some xs) = ((sq = true ∧ xs.length = m ∧ (xs.all fun x => decide (x.cells.size = ei.2.1)) = true ∧ ((flat xs).all Value.oneCell') = true ∧ 0 < ei.2.1 ∧ m * ei.2.1 ≤ 16777216 ∧ hasKey ls d = false) ∧
    KH ⟨bs, (d, ⟨ei.1, ei.2.1, xs, false, true⟩) :: ls⟩) := rfl
theorem blR_s {m : Nat} {K : PV → Prop} {ei : TypeId × Nat × Nat} {sq : Bool} {xs : List Value} : blR m K (some ei) sq (some xs) = ((sq = true ∧ xs.length = m ∧ (xs.all fun x => decide (x.cells.size = ei.2.1)) = true ∧ ((flat xs).all Value.oneCell') = true ∧ 0 < ei.2.1 ∧ m * ei.2.1 ≤ 16777216) ∧ K (.s (.c (.l ei.2.1 xs)))) := rfl
def loV : Option PV → Option Int
  | none => some 0
  | some (.s (.c (.v (.int _ n)))) => some n
  | _ => none
def hiV (len : Nat) : Option PV → Option Int
  | none => some len
  | some (.s (.c (.v (.int _ n)))) => some n
  | _ => none
theorem loV_n : loV none = some 0 := rfl
theorem loV_s {k : IntKind} {n : Int} : loV (some (.s (.c (.v (.int k n))))) = some n := rfl
theorem hiV_n {len : Nat} : hiV len none = some (len : Int) := rfl
theorem hiV_s {len : Nat} {k : IntKind} {n : Int} : hiV len (some (.s (.c (.v (.int k n))))) = some n := rfl
/-- bounds a, b of a slice expression over something of this length -/
def bdR (len : Nat) (a b : Option Int) (K : Nat → Nat → Prop) : Prop := optK a fun a => optK b fun b => (0 ≤ a ∧ a ≤ b ∧ b ≤ len) ∧ K a.toNat b.toNat
theorem bdR_s {len : Nat} {a b : Int} {K : Nat → Nat → Prop} : bdR len (some a) (some b) K = ((0 ≤ a ∧ a ≤ b ∧ b ≤ len) ∧ K a.toNat b.toNat) := rfl
theorem bounds_eq {len : Nat} {lo hi : Option PV} {K : Nat → Nat → Prop} (h : bdR len (loV lo) (hiV len hi) K) : hiK len hi fun b => loK lo fun a => a ≤ b ∧ K a b := by
  unfold bdR at h
  obtain ⟨a, ha, h⟩ := optK_ex h
  obtain ⟨b, hb, ⟨h0, h1, h2⟩, h3⟩ := optK_ex h
  unfold hiV at hb
  unfold loV at ha
  split at hb <;> split at ha <;> simp at ha hb
  all_goals subst ha hb
  all_goals simp only [hiK, loK]
  · exact ⟨Nat.zero_le _, by simpa using h3⟩
  · exact ⟨h0, by omega, by simpa using h3⟩
  · exact ⟨by omega, h2, by omega, by simpa using h3⟩
  · exact ⟨by omega, h2, h0, by omega, h3⟩
end
section
variable {h : Hp} {es : Option (TypeId × Nat)} {td : Option TypeDesc} {d : Nat} {lo hi : Option PV} {K : Hp → PV → Prop} {KP : PV → Prop}
def sbS (s : ByteArray) (K : PV → Prop) (a b : Nat) : Prop := K (.s (.c (.v (.string (s.extract a b)))))
def sbL (sz : Nat) (xs : List Value) (K : PV → Prop) (a b : Nat) : Prop := K (.s (.c (.l sz ((xs.take b).drop a))))
theorem sbS_eq {s : ByteArray} {a b : Nat} : sbS s KP a b = KP (.s (.c (.v (.string (s.extract a b))))) := rfl
theorem sbL_eq {sz : Nat} {xs : List Value} {a b : Nat} : sbL sz xs KP a b = KP (.s (.c (.l sz ((xs.take b).drop a)))) := rfl
/-- the slice expressions, as steps -/
theorem sl_str {s : ByteArray} (h1 : bdR s.size (loV lo) (hiV s.size hi) (sbS s (K h))) : slR h es (some .string) d lo hi K (.s (.c (.v (.string s)))) := bounds_eq h1
theorem sl_list {e sz : Nat} {xs : List Value} (he : es.map (·.2) = some sz) (h1 : bdR xs.length (loV lo) (hiV xs.length hi) (sbL sz xs (K h))) : slR h es (some (.slice e)) d lo hi K (.s (.c (.l sz xs))) := ⟨he, bounds_eq h1⟩
theorem sd_str {s : ByteArray} (h1 : bdR s.size (loV lo) (hiV s.size hi) (sbS s KP)) : sdR h es (some .string) lo hi KP (.s (.c (.v (.string s)))) := bounds_eq h1
theorem sd_list {e sz : Nat} {xs : List Value} (he : es.map (·.2) = some sz) (h1 : bdR xs.length (loV lo) (hiV xs.length hi) (sbL sz xs KP)) : sdR h es (some (.slice e)) lo hi KP (.s (.c (.l sz xs))) := ⟨he, bounds_eq h1⟩
/-- the front of an own list that nobody else sees -/
theorem sl_own {id : Nat} {L : LO} (hL : fnd h.lists id = some L) (hl : L.live = true) (hp : L.pub = false) (he : es.map (·.2) = some L.sz) (hd : hasKey h.lists d = false) {b : Int} (hb : hiV L.xs.length hi = some b) (h0 : 0 ≤ b) (h1 : b ≤ L.xs.length)
    (hK : K { h with lists := (d, { L with xs := L.xs.take b.toNat }) :: upd h.lists id { L with live := false } } (.s (.c (.o d)))) : slR h es td d none hi K (.s (.c (.o id))) := by
  show sliceO h es d id none hi K
  unfold sliceO
  rw [hL]
  refine ⟨⟨hl, he⟩, ?_⟩
  have : bdR L.xs.length (loV none) (hiV L.xs.length hi) (fun a b => match L.pub, (none : Option PV) with
      | false, none => hasKey h.lists d = false ∧ K { h with lists := (d, { L with xs := L.xs.take b }) :: upd h.lists id { L with live := false } } (.s (.c (.o d)))
      | _, _ => K { h with lists := pubAll h.lists } (.s (.c (.l L.sz ((L.xs.take b).drop a))))) := by
    rw [hb, loV_n, bdR_s]
    refine ⟨⟨by omega, h0, h1⟩, ?_⟩
    rw [hp]
    have e : L = { L with pub := false } := by cases L; simp only at hp; subst hp; rfl
    exact ⟨hd, by rw [e] at hK ⊢; exact hK⟩
  exact bounds_eq this
/-- a piece of an own list: the lists are published -/
theorem sl_pub {id : Nat} {L : LO} {x : PV} (hL : fnd h.lists id = some L) (hl : L.live = true) (he : es.map (·.2) = some L.sz) (h1 : bdR L.xs.length (loV (some x)) (hiV L.xs.length hi) (sbL L.sz L.xs (K { h with lists := pubAll h.lists }))) :
    slR h es td d (some x) hi K (.s (.c (.o id))) := by
  show sliceO h es d id (some x) hi K
  unfold sliceO
  rw [hL]
  refine ⟨⟨hl, he⟩, bounds_eq ?_⟩
  cases L.pub <;> exact h1
end
theorem bindX_some {α β : Type} (x : α) (f : α → Option β) : (some x).bind f = f x := rfl
theorem partsV_nil {ρ : Operand → PV} : partsV ρ [] = some [] := rfl
theorem partsV_cons {ρ : Operand → PV} {i : Nat} {x : Operand} {r : List (Nat × Operand)} : partsV ρ ((i, x) :: r) = (exactPV (ρ x)).bind fun u => (partsV ρ r).bind fun us => some (u :: us) := by
  simp only [partsV]; cases exactPV (ρ x) <;> cases partsV ρ r <;> rfl
theorem exactPV_s {y : V1} : exactPV (.s y) = exactV1 y := rfl
theorem exactV1_c {x : C} : exactV1 (.c x) = exactC x := rfl
theorem exactV1_a {xs : List C} : exactV1 (.a xs) = (exactCs xs).bind fun us => some (.agg us.toArray) := by simp only [exactV1]; cases exactCs xs <;> rfl
theorem exactC_v {x : Value} : exactC (.v x) = some x := rfl
theorem exactCs_nil : exactCs [] = some [] := rfl
theorem exactCs_cons {x : C} {xs : List C} : exactCs (x :: xs) = (exactC x).bind fun u => (exactCs xs).bind fun us => some (u :: us) := by
  simp only [exactCs]; cases exactC x <;> cases exactCs xs <;> rfl
theorem seqParts_nil {k : Nat} : seqParts k [] = true := rfl
theorem seqParts_cons {k i : Nat} {x : Operand} {r : List (Nat × Operand)} : seqParts k ((i, x) :: r) = if i = k then seqParts (k + 1) r else false := rfl
theorem cells1_c {x : C} : cells1 (.c x) = if isCell x = true then some [x] else none := rfl
theorem cells1_a {xs : List C} : cells1 (.a xs) = if xs.all isCell = true then some xs else none := rfl
theorem isCell_v {u : Value} : isCell (.v u) = u.oneCell' := rfl
theorem isCell_l {sz : Nat} {xs : List Value} : isCell (.l sz xs) = true := rfl
theorem isCell_o {id : Nat} : isCell (.o id) = true := rfl
theorem isCell_p {id off : Nat} : isCell (.p id off) = true := rfl
theorem one_int {k : IntKind} {n : Int} : (Value.int k n).oneCell' = true := rfl
theorem one_bool {b : Bool} : (Value.bool b).oneCell' = true := rfl
theorem one_str {b : ByteArray} : (Value.string b).oneCell' = true := rfl
theorem one_slice {a : Option Addr} {l c : Nat} : (Value.slice a l c).oneCell' = true := rfl
theorem cells_int {k : IntKind} {n : Int} : (Value.int k n).cells = #[.int k n] := rfl
theorem cells_bool {b : Bool} : (Value.bool b).cells = #[.bool b] := rfl
theorem cells_str {b : ByteArray} : (Value.string b).cells = #[.string b] := rfl
theorem cells_agg {cs : Array Value} : (Value.agg cs).cells = cs := rfl
theorem flat_nil : flat [] = [] := rfl
theorem flat_cons {x : Value} {xs : List Value} : flat (x :: xs) = x.cells.toList ++ flat xs := by simp [flat]
theorem partsOf_nil {ρ : Operand → PV} : partsOf ρ [] = [] := rfl
theorem partsOf_cons {ρ : Operand → PV} {i : Nat} {x : Operand} {r : List (Nat × Operand)} : partsOf ρ ((i, x) :: r) = (i, cellsPV (ρ x)) :: partsOf ρ r := by
  simp only [partsOf, cellsPV]; cases ρ x <;> rfl
theorem fillA_nil {pl : List (Nat × Nat)} {cs : List C} : fillA pl cs [] = some cs := rfl
theorem fillA_cons {pl : List (Nat × Nat)} {cs vs : List C} {i : Nat} {r : List (Nat × Option (List C))} : fillA pl cs ((i, some vs) :: r) = (pl[i]?).bind fun p => if vs.length = p.2 ∧ p.1 + vs.length ≤ cs.length then fillA pl (setAll cs p.1 vs) r else none := by
  simp only [fillA]; cases pl[i]? <;> rfl
theorem setAll_nil {cs : List C} {o : Nat} : setAll cs o [] = cs := rfl
theorem setAll_cons {cs vs : List C} {o : Nat} {v : C} : setAll cs o (v :: vs) = setAll (cs.set o v) (o + 1) vs := rfl

theorem max_i64 : IntKind.i64.max = 9223372036854775807 := by simp [IntKind.max, IntKind.signed, IntKind.bits]
theorem max_u64 : IntKind.u64.max = 18446744073709551615 := by simp [IntKind.max, IntKind.signed, IntKind.bits]
theorem bits_i64 : IntKind.i64.bits = 64 := rfl
theorem bits_u64 : IntKind.u64.bits = 64 := rfl
theorem setCellV_agg {arr : Array Value} {off : Nat} {u : Value} : setCellV (.agg arr) off u = .agg (arr.setIfInBounds off u) := rfl
theorem retOf_1 {x : V1} : retOf [x] = .s x := rfl
theorem retOf_2 {x y : V1} {r : List V1} : retOf (x :: y :: r) = .t (x :: y :: r) := rfl
theorem put_some {σ : St} {d : Nat} {pv : PV} : σ.put (some d) pv = { σ with env := (d, pv) :: σ.env } := rfl
theorem put_none {σ : St} {pv : PV} : σ.put none pv = σ := rfl
theorem ev_tmp {σ : St} {t : Nat} : σ.ev (.tmp t) = σ.get t := rfl
theorem ev_const {σ : St} {v : Value} : σ.ev (.const v) = constPV v := rfl
theorem ev_func {σ : St} {f : FuncId} : σ.ev (.func f) = vV (.func (.func f) #[] #[]) := rfl
theorem get_eq {σ : St} {t : Nat} : σ.get t = if t < σ.n then (fnd σ.env t).getD (.s (.c .any)) else .s (.c .any) := rfl
theorem const_int {k : IntKind} {n : Int} : constPV (.int k n) = .s (.c (.v (.int k n))) := rfl
theorem const_bool {b : Bool} : constPV (.bool b) = .s (.c (.v (.bool b))) := rfl
theorem const_str {b : ByteArray} : constPV (.string b) = .s (.c (.v (.string b))) := rfl
theorem const_nil {a : Option Addr} {l c : Nat} : constPV (.slice a l c) = .s (.c (.v (.slice a l c))) := rfl
theorem const_agg {cs : Array Value} : constPV (.agg cs) = .s (.a (cs.toList.map .v)) := rfl
theorem const_tup {cs : Array Value} : constPV (.tuple cs) = .s (.c (.v (.tuple cs))) := rfl
theorem uV_eq : uV = .s (.c (.v (.tuple #[]))) := rfl
theorem fnd_nil {α : Type} {t : Nat} : fnd ([] : List (Nat × α)) t = none := rfl
theorem fnd_cons {α : Type} {k t : Nat} {x : α} {r : List (Nat × α)} : fnd ((k, x) :: r) t = if k = t then some x else fnd r t := rfl
theorem upd_nil {α : Type} {t : Nat} {y : α} : upd ([] : List (Nat × α)) t y = [] := rfl
theorem upd_cons {α : Type} {k t : Nat} {x y : α} {r : List (Nat × α)} : upd ((k, x) :: r) t y = if k = t then (k, y) :: upd r t y else (k, x) :: upd r t y := rfl
theorem hasKey_nil {α : Type} {t : Nat} : hasKey ([] : List (Nat × α)) t = false := rfl
theorem hasKey_cons {α : Type} {k t : Nat} {x : α} {r : List (Nat × α)} : hasKey ((k, x) :: r) t = if k = t then true else hasKey r t := rfl
theorem envOf_nil {k : Nat} : envOf k [] = [] := rfl
theorem envOf_cons {k : Nat} {x : V1} {xs : List V1} : envOf k (x :: xs) = (k, .s x) :: envOf (k + 1) xs := rfl
theorem pubAll_nil : pubAll [] = [] := rfl
theorem pubAll_cons {k : Nat} {lo : LO} {r : List (Nat × LO)} : pubAll ((k, lo) :: r) = (k, { lo with pub := true }) :: pubAll r := rfl

/-! ### results -/
section
variable {P : Program} {σ : St} {K : List V1 → Prop}
def consK (K : List V1 → Prop) (x : V1) (xs : List V1) : Prop := K (x :: xs)
def rsK (P : Program) (σ : St) (r : List ResultVar) (K : List V1 → Prop) (pv : PV) : Prop := v1K pv fun x => resK P σ r (consK K x)
theorem rsK_s {r : List ResultVar} {x : V1} : rsK P σ r K (.s x) = resK P σ r (consK K x) := rfl
theorem consK_eq {x : V1} {xs : List V1} : consK K x xs = K (x :: xs) := rfl
theorem resK_nil : resK P σ [] K = K [] := rfl
theorem resK_tmp {t : Nat} {r : List ResultVar} : resK P σ (.tmp t :: r) K = rsK P σ r K (σ.get t) := rfl
theorem resK_cell {a t : Nat} {r : List ResultVar} : resK P σ (.cell a t :: r) K = ldR σ.h (rsK P σ r K) (σ.get a) (aggN P t) := rfl
def finK (pk : Pk) (h h' : Hp) (r : PV) (xs : List V1) : Prop := Fin pk h (retOf xs) h' r
theorem finK_eq {pk : Pk} {h h' : Hp} {r : PV} {xs : List V1} : finK pk h h' r xs = Fin pk h (retOf xs) h' r := rfl
theorem retE_r {pk : Pk} {rs : List ResultVar} {h' : Hp} {r : PV} : retE P pk rs h' r .ret σ = resK P σ rs (finK pk σ.h h' r) := rfl
theorem retE_n {pk : Pk} {rs : List ResultVar} {h' : Hp} {r : PV} : retE P pk rs h' r .normal σ = resK P σ rs (finK pk σ.h h' r) := rfl
end

attribute [go_sem] Nat.reduceLT Nat.reduceLeDiff Nat.reduceEqDiff Nat.reduceAdd Nat.reduceSub Nat.reduceMul Int.reduceEq Int.reduceLT Int.reduceLE Int.reduceNeg Int.reduceAdd Int.reduceSub Int.reduceMul Int.reduceToNat reduceIte reduceCtorEq
attribute [go_sem] List.map_cons List.map_nil
attribute [go_sem] putP_eq putV_eq putA_eq putH_eq putHP_eq ofV_eq ofC_eq ofV1_eq ofA_eq RunC_seq RunC_cond RunC_block RunC_exit RunC_ret RunC_skip RunC_region nrm_eq RunE_nil RunE_cn RunE_cr RunE_ce RunE_bn RunE_br RunE_be ifR_t ifR_f loopQ_n loopQ_r loopQ_e
attribute [go_sem] toList_lit gvO_s gv_lit gd_nil gd_cons opsC_nil opsC_plain opsC_guard opsX_nil opsX_plain opsX_guard grd_tt grd_ff grd_tf grd_ft grd_u grdX_tt grdX_ff grdX_tf grdX_ft grdX_u
attribute [go_sem] opK_move opK_assign opK_pick opK_binOp opK_unOp opK_convert opK_load opK_fieldAddr opK_field opK_indexAddr opK_index opK_extract opK_nilCheck opK_build opK_box opK_alloc opK_store opK_buildSlice opK_slice opK_fn opK_append opK_len opK_min opK_max
attribute [go_sem] opD_move opD_assign opD_pick opD_binOp opD_unOp opD_convert opD_load opD_fieldAddr opD_field opD_indexAddr opD_index opD_extract opD_nilCheck opD_build opD_buildSlice opD_slice opD_fn opD_len opD_min opD_max
attribute [go_sem] pickR_t pickR_f pickR_and pickR_or bin_add bin_sub bin_mul bin_quo bin_rem bin_and bin_or bin_xor bin_andNot bin_eql bin_neq bin_lss bin_leq bin_gtr bin_geq bin_shl bin_shr bin_beql bin_bneq bin_seql bin_sneq bin_sadd bin_agg max_i64 max_u64 bits_i64 bits_u64
attribute [go_sem] unR_b unR_i cvR_i cvR_s cvR_l cvO cvR_o ldB_s ldR_p ldR_q ldE_s ldL_s ldR_e loadC_none loadC_some faR_p faR_q faR_e fvR_a ixO_s ixR_l ixL_s ixR_o isO_s isR_s exR_t ncR_p ncR_q buR_s mmR_min mmR_max lenR_s lenR_l lenR_n leO_s lenR_o
attribute [go_sem] optK_some optK_none cellsPV_s boxR_s allocR_s stB_s stC_s storR_p stX_s storR_e srC_l srC_n srC_o apD_s appR_eq apC_o apC_n bsR_s blR_s loV_n loV_s hiV_n hiV_s bdR_s sbS_eq sbL_eq
attribute [go_sem] bindX_some partsV_nil partsV_cons exactPV_s exactV1_c exactV1_a exactC_v exactCs_nil exactCs_cons seqParts_nil seqParts_cons cells1_c cells1_a isCell_v isCell_l isCell_o isCell_p one_int one_bool one_str one_slice cells_int cells_bool cells_str cells_agg flat_nil flat_cons partsOf_nil partsOf_cons fillA_nil fillA_cons setAll_nil setAll_cons setCellV_agg
attribute [go_sem] rsK_s consK_eq resK_nil resK_tmp resK_cell finK_eq retE_r retE_n retOf_1 retOf_2 put_some put_none ev_tmp ev_const ev_func get_eq const_int const_bool const_str const_nil const_agg const_tup uV_eq fnd_nil fnd_cons upd_nil upd_cons hasKey_nil hasKey_cons envOf_nil envOf_cons pubAll_nil pubAll_cons inK_i64 inK_u64 inK_u8 inK_i32
attribute [go_sem] List.getElem?_cons_zero List.getElem?_cons_succ List.getElem?_nil List.set_cons_zero List.set_cons_succ List.drop_succ_cons List.drop_zero List.take_succ_cons List.take_zero List.length_cons List.length_nil List.map_cons List.map_nil List.all_cons List.all_nil
attribute [go_sem] List.append_nil List.nil_append List.cons_append Option.getD_some Option.map_some Option.map_none Bool.and_true Bool.true_and Bool.not_true Bool.not_false and_true true_and and_self if_true if_false ite_true ite_false decide_true decide_false
attribute [go_sem] Int.toNat_natCast ne_eq not_false_eq_true

/-- a contract, closed: it is not unfolded when two of them are compared -/
structure PC (P : Program) (f : FuncId) (bxs : List (Nat × List C)) (args : List V1) (r : PV) (h' : Hp) : Prop where
  ok : PCalls P f bxs [] args r h'
/-- the same, with own lists that the caller hands in -/
structure PI (P : Program) (f : FuncId) (ins : List (Nat × LO)) (args : List V1) (r : PV) (h' : Hp) : Prop where
  ok : PCalls P f [] ins args r h'
theorem pc_of {P : Program} {f : FuncId} {fn : Func} {c : Code} {bxs : List (Nat × List C)} {args : List V1} {r : PV} {h' : Hp} (hf : P.funcs[f]? = some fn) (hb : fn.body = some c)
    (hname : (fn.name == "runtime.NumGoroutine") = false) (n : Nat) (hn : fn.ntmps = n) (hargs : args.length ≤ n)
    (h : RunC P ⟨bxs.map Prod.fst, []⟩ (retE P ⟨bxs.map Prod.fst, []⟩ fn.results.toList h' r) [] c { n := n, env := envOf 0 args, h := ⟨bxs, []⟩ }) : PC P f bxs args r h' := ⟨pcalls_of hf hb hname n hn hargs (run_start h)⟩
theorem pi_of {P : Program} {f : FuncId} {fn : Func} {c : Code} {ins : List (Nat × LO)} {args : List V1} {r : PV} {h' : Hp} (hf : P.funcs[f]? = some fn) (hb : fn.body = some c)
    (hname : (fn.name == "runtime.NumGoroutine") = false) (n : Nat) (hn : fn.ntmps = n) (hargs : args.length ≤ n)
    (h : RunC P ⟨[], ins.map Prod.fst⟩ (retE P ⟨[], ins.map Prod.fst⟩ fn.results.toList h' r) [] c { n := n, env := envOf 0 args, h := ⟨[], ins⟩ }) : PI P f ins args r h' := ⟨pcalls_of hf hb hname n hn hargs (run_start h)⟩

/-- at a call that hands back numbers, truth values, strings -/
theorem callS {P : Program} {σ : St} {dst : Option Nat} {f : FuncId} {args : List PV} {K : St → Prop} {vs : List V1} {r : PV} {h' : Hp} (hc : PC P f [] vs r h') (hv : viewArgs σ.h [] vs args = some vs) (hok : vs.all (okV1 [] []) = true) (hs : scalPV r = true)
    (hK : K (σ.put dst r)) : CallR P σ dst f args K := .inl ⟨r, callOk_scal hc.ok hv hok hs, hK⟩
theorem callD {P : Program} {h : Hp} {f : FuncId} {args : List PV} {K : PV → Prop} {vs : List V1} {r : PV} {h' : Hp} (hc : PC P f [] vs r h') (hv : viewArgs h [] vs args = some vs) (hok : vs.all (okV1 [] []) = true) (hs : scalPV r = true)
    (hK : K r) : CallD P h f args K := ⟨r, callOk_scal hc.ok hv hok hs, hK⟩
/-- at a call that hands back own lists -/
def freshL (h : Hp) (ks : List Nat) : List (Nat × LO) → Bool
  | [] => true
  | (k, _) :: r => if memN ks k = true then freshL h ks r else if hasKey h.lists k = true then false else freshL h ks r
theorem freshL_mem {h : Hp} {ks : List Nat} : ∀ {l : List (Nat × LO)}, freshL h ks l = true → ∀ id lo, (id, lo) ∈ l → id ∈ ks ∨ hasKey h.lists id = false
  | [], _, _, _, hm => by simp at hm
  | (k, x) :: r, hf, id, lo, hm => by
    simp only [freshL] at hf
    split at hf
    · rename_i hin
      rcases List.mem_cons.1 hm with hm | hm
      · rw [(Prod.mk.inj hm).1]; exact .inl (memN_iff.1 hin)
      · exact freshL_mem hf id lo hm
    · split at hf
      · cases hf
      · rename_i hk
        rcases List.mem_cons.1 hm with hm | hm
        · rw [(Prod.mk.inj hm).1]; exact .inr (by simpa using hk)
        · exact freshL_mem hf id lo hm
theorem callL {P : Program} {σ : St} {dst : Option Nat} {f : FuncId} {args : List PV} {K : St → Prop} {vs : List V1} {r : PV} {ls : List (Nat × LO)} (hc : PC P f [] vs r ⟨[], ls⟩) (hv : viewArgs σ.h [] vs args = some vs) (hok : vs.all (okV1 [] []) = true) (hf : (freshL σ.h [] ls && nvPV r) = true)
    (hK : K ({ σ with h := { boxes := σ.h.boxes, lists := ls ++ σ.h.lists } }.put dst r)) : CallR P σ dst f args K :=
  .inr ⟨true, [], [], vs, r, ⟨[], ls⟩, hc.ok, fun _ _ h => (by simp at h), fun _ _ h => (by simp at h), trivial, hv, hok, fun id lo hm => freshL_mem (by simp only [Bool.and_eq_true] at hf; exact hf.1) id lo hm, fun _ _ h => (by simp at h),
    fun _ => ⟨by simp at hf; exact hf.2, fun _ _ h => by simp at h⟩, by simpa [mergeH, dropK_nil, restL] using hK⟩
/-- the same, the lists' numbers taken from the slot -/
theorem callL1 {P : Program} {σ : St} {n : Nat} {f : FuncId} {args : List PV} {K : St → Prop} {vs : List V1} {r : Nat → PV} {ls : Nat → List (Nat × LO)} (hc : ∀ d, PC P f [] vs (r d) ⟨[], ls d⟩) (hv : viewArgs σ.h [] vs args = some vs) (hok : vs.all (okV1 [] []) = true) (hf : (freshL σ.h [] (ls n) && nvPV (r n)) = true)
    (hK : K ({ σ with h := { boxes := σ.h.boxes, lists := ls n ++ σ.h.lists } }.put (some n) (r n))) : CallR P σ (some n) f args K := callL (hc n) hv hok hf hK
theorem callL2 {P : Program} {σ : St} {n : Nat} {f : FuncId} {args : List PV} {K : St → Prop} {vs : List V1} {r : Nat → Nat → PV} {ls : Nat → Nat → List (Nat × LO)} (hc : ∀ d e, d ≠ e → PC P f [] vs (r d e) ⟨[], ls d e⟩) (hv : viewArgs σ.h [] vs args = some vs) (hok : vs.all (okV1 [] []) = true) (hf : (freshL σ.h [] (ls n (n + 1000)) && nvPV (r n (n + 1000))) = true)
    (hK : K ({ σ with h := { boxes := σ.h.boxes, lists := ls n (n + 1000) ++ σ.h.lists } }.put (some n) (r n (n + 1000)))) : CallR P σ (some n) f args K := callL (hc n (n + 1000) (by omega)) hv hok hf hK
theorem callL3 {P : Program} {σ : St} {n : Nat} {f : FuncId} {args : List PV} {K : St → Prop} {vs : List V1} {r : Nat → Nat → Nat → PV} {ls : Nat → Nat → Nat → List (Nat × LO)} (hc : ∀ d e k, d ≠ e → d ≠ k → e ≠ k → PC P f [] vs (r d e k) ⟨[], ls d e k⟩) (hv : viewArgs σ.h [] vs args = some vs) (hok : vs.all (okV1 [] []) = true) (hf : (freshL σ.h [] (ls n (n + 1000) (n + 2000)) && nvPV (r n (n + 1000) (n + 2000))) = true)
    (hK : K ({ σ with h := { boxes := σ.h.boxes, lists := ls n (n + 1000) (n + 2000) ++ σ.h.lists } }.put (some n) (r n (n + 1000) (n + 2000)))) : CallR P σ (some n) f args K := callL (hc n (n + 1000) (n + 2000) (by omega) (by omega) (by omega)) hv hok hf hK
/-- the same where the result shows pieces of lists: the caller's lists are published -/
theorem callV {P : Program} {σ : St} {dst : Option Nat} {f : FuncId} {args : List PV} {K : St → Prop} {vs : List V1} {r : PV} {ls : List (Nat × LO)} (hc : PC P f [] vs r ⟨[], ls⟩) (hv : viewArgs σ.h [] vs args = some vs) (hok : vs.all (okV1 [] []) = true) (hf : freshL σ.h [] ls = true)
    (hK : K ({ σ with h := { boxes := σ.h.boxes, lists := ls ++ pubAll σ.h.lists } }.put dst r)) : CallR P σ dst f args K :=
  .inr ⟨false, [], [], vs, r, ⟨[], ls⟩, hc.ok, fun _ _ h => (by simp at h), fun _ _ h => (by simp at h), trivial, hv, hok, fun id lo hm => freshL_mem hf id lo hm, fun _ _ h => (by simp at h),
    fun h => (by cases h), by simpa [mergeH, dropK_nil, restL] using hK⟩
/-- own lists that are handed in -/
def insOk (h : Hp) : List (Nat × LO) → Prop
  | [] => True
  | (k, lo) :: r => (fnd h.lists k = some lo ∧ lo.live = true ∧ lo.pub = false) ∧ hasKey r k = false ∧ insOk h r
theorem insOk_mem {h : Hp} : ∀ {l : List (Nat × LO)}, insOk h l → (∀ id lo, (id, lo) ∈ l → (id, lo) ∈ h.lists ∧ lo.live = true ∧ lo.pub = false) ∧ noDup l
  | [], _ => ⟨fun _ _ h => (by simp at h), trivial⟩
  | (k, x) :: r, ⟨⟨h1, h2, h3⟩, h4, h5⟩ => by
    obtain ⟨h6, h7⟩ := insOk_mem h5
    refine ⟨fun id lo hm => ?_, h4, h7⟩
    rcases List.mem_cons.1 hm with hm | hm
    · obtain ⟨rfl, rfl⟩ := Prod.mk.inj hm
      exact ⟨fnd_mem h1, h2, h3⟩
    · exact h6 id lo hm
theorem dropK_nl {α : Type} {ks : List Nat} : dropK ks ([] : List (Nat × α)) = [] := rfl
theorem dropK_cs {α : Type} {ks : List Nat} {k : Nat} {x : α} {r : List (Nat × α)} : dropK ks ((k, x) :: r) = if memN ks k = true then dropK ks r else (k, x) :: dropK ks r := by
  simp only [dropK]
  by_cases h : k ∈ ks
  · rw [if_pos h, if_pos (memN_iff.2 h)]
  · rw [if_neg h, if_neg (by rw [memN_not.2 h]; simp)]
theorem memN_nl {t : Nat} : memN [] t = false := rfl
theorem memN_cs {k t : Nat} {r : List Nat} : memN (k :: r) t = if k = t then true else memN r t := rfl
/-- at a call that is handed own lists -/
theorem callI {P : Program} {σ : St} {dst : Option Nat} {f : FuncId} {args : List PV} {K : St → Prop} {vs : List V1} {r : PV} {ins ls : List (Nat × LO)} (hc : PI P f ins vs r ⟨[], ls⟩) (hin : insOk σ.h ins) (hv : viewArgs σ.h (ins.map Prod.fst) vs args = some vs)
    (hok : vs.all (okV1 [] (ins.map Prod.fst)) = true) (hf : (freshL σ.h (ins.map Prod.fst) ls && nvPV r) = true)
    (hK : K ({ σ with h := { boxes := σ.h.boxes, lists := ls ++ dropK (ins.map Prod.fst) σ.h.lists } }.put dst r)) : CallR P σ dst f args K :=
  .inr ⟨true, [], ins, vs, r, ⟨[], ls⟩, hc.ok, fun _ _ h => (by simp at h), (insOk_mem hin).1, (insOk_mem hin).2, hv, hok, fun id lo hm => freshL_mem (by simp only [Bool.and_eq_true] at hf; exact hf.1) id lo hm, fun _ _ h => (by simp at h),
    fun _ => ⟨by simp only [Bool.and_eq_true] at hf; exact hf.2, fun _ _ h => by simp at h⟩, by simpa [mergeH, dropK_nil, restL] using hK⟩
/-- at a call that is handed a pointer to a box; what it hands back shows no pieces -/
theorem callC {P : Program} {σ : St} {dst : Option Nat} {f : FuncId} {args : List PV} {K : St → Prop} {vs : List V1} {r : PV} {id : Nat} {cs cs' : List C} {ls : List (Nat × LO)} (hc : PC P f [(id, cs)] vs r ⟨[(id, cs')], ls⟩) (hb : fnd σ.h.boxes id = some cs) (hp : cs.all plainC = true)
    (hv : viewArgs σ.h [] vs args = some vs) (hok : vs.all (okV1 [id] []) = true) (hf : freshL σ.h [] ls = true)
    (hK : K ({ σ with h := { boxes := (id, cs') :: dropK [id] σ.h.boxes, lists := ls ++ pubAll σ.h.lists } }.put dst r)) : CallR P σ dst f args K :=
  .inr ⟨false, [(id, cs)], [], vs, r, ⟨[(id, cs')], ls⟩, hc.ok, fun i c h => (by simp at h; obtain ⟨rfl, rfl⟩ := h; exact ⟨fnd_mem hb, hp⟩), fun _ _ h => (by simp at h), trivial, hv, hok, fun i lo hm => freshL_mem hf i lo hm,
    fun i c h => (by simp at h; left; simp [h.1]), fun h => (by cases h), by
      rw [show mergeH false σ.h ([(id, cs)].map Prod.fst) (([] : List (Nat × LO)).map Prod.fst) ⟨[(id, cs')], ls⟩ = ⟨(id, cs') :: dropK [id] σ.h.boxes, ls ++ pubAll σ.h.lists⟩ from by
        simp only [mergeH, restL, List.map_nil, dropK_nil, Bool.false_eq_true, if_false]; rfl]
      exact hK⟩
/-- at a call that hands back a pointer to a new box -/
theorem callN {P : Program} {σ : St} {dst : Option Nat} {f : FuncId} {args : List PV} {K : St → Prop} {vs : List V1} {d : Nat} {cs : List C} {ls : List (Nat × LO)} (hc : PC P f [] vs (.s (.c (.p d 0))) ⟨[(d, cs)], ls⟩)
    (hv : viewArgs σ.h [] vs args = some vs) (hok : vs.all (okV1 [] []) = true) (hf : freshL σ.h [] ls = true) (hb : hasKey σ.h.boxes d = false)
    (hK : K ({ σ with h := { boxes := (d, cs) :: σ.h.boxes, lists := ls ++ pubAll σ.h.lists } }.put dst (.s (.c (.p d 0))))) : CallR P σ dst f args K :=
  .inr ⟨false, [], [], vs, _, ⟨[(d, cs)], ls⟩, hc.ok, fun _ _ h => (by simp at h), fun _ _ h => (by simp at h), trivial, hv, hok, fun i lo hm => freshL_mem hf i lo hm,
    fun i c h => .inr (by simp at h; rw [h.1]; exact hb), fun h => (by cases h), by simpa [mergeH, dropK_nil, restL] using hK⟩
theorem fin_one {h : Hp} {x : V1} {r : PV} (he : .s x = r) (hs : scalPV r = true) : Fin ⟨[], []⟩ h (.s x) ⟨[], []⟩ r := fin_scal hs he
/-- decide a test and go on -/
theorem and_imp_of {t : Bool} {A B : Prop} (h1 : t = true → A) (h2 : t = false → B) : (t = true → A) ∧ (t = false → B) := ⟨h1, h2⟩

theorem if_splitP {P : Program} {pk : Pk} {Q : Exit → St → Prop} {s : List Itm} {σ : St} {a b : Code} {p : Prop} [Decidable p] (h1 : p → RunC P pk Q s a σ) (h2 : ¬ p → RunC P pk Q s b σ) : ifR P pk Q s a b σ (.s (.c (.v (.bool (decide p))))) :=
  if_split (fun h => h1 (of_decide_eq_true h)) (fun h => h2 (of_decide_eq_false h))
theorem if_splitN {P : Program} {pk : Pk} {Q : Exit → St → Prop} {s : List Itm} {σ : St} {a b : Code} {t : Bool} (h1 : t = false → RunC P pk Q s a σ) (h2 : t = true → RunC P pk Q s b σ) : ifR P pk Q s a b σ (.s (.c (.v (.bool (!t))))) :=
  if_split (fun h => h1 (by simpa using h)) (fun h => h2 (by simpa using h))
section
variable {P : Program} {ops : Array Oper} {σ : St} {K : St → Prop} {d : Option Nat} {op : Op} {l : List Oper} {w : Bool}
theorem grd_splitP {p : Prop} [Decidable p] (h1 : p → grd P ops l K σ op d w (.s (.c (.v (.bool true))))) (h2 : ¬ p → grd P ops l K σ op d w (.s (.c (.v (.bool false))))) : grd P ops l K σ op d w (.s (.c (.v (.bool (decide p))))) :=
  grd_split (fun h => h1 (of_decide_eq_true h)) (fun h => h2 (of_decide_eq_false h))
theorem grd_splitN {t : Bool} (h1 : t = false → grd P ops l K σ op d w (.s (.c (.v (.bool true))))) (h2 : t = true → grd P ops l K σ op d w (.s (.c (.v (.bool false))))) : grd P ops l K σ op d w (.s (.c (.v (.bool (!t))))) := by
  cases t
  · exact h1 rfl
  · exact h2 rfl
theorem grdX_splitP {p : Prop} [Decidable p] (h1 : p → grdX P ops l K σ op d w (.s (.c (.v (.bool true))))) (h2 : ¬ p → grdX P ops l K σ op d w (.s (.c (.v (.bool false))))) : grdX P ops l K σ op d w (.s (.c (.v (.bool (decide p))))) :=
  grdX_split (fun h => h1 (of_decide_eq_true h)) (fun h => h2 (of_decide_eq_false h))
theorem grdX_splitN {t : Bool} (h1 : t = false → grdX P ops l K σ op d w (.s (.c (.v (.bool true))))) (h2 : t = true → grdX P ops l K σ op d w (.s (.c (.v (.bool false))))) : grdX P ops l K σ op d w (.s (.c (.v (.bool (!t))))) := by
  cases t
  · exact h1 rfl
  · exact h2 rfl
end
theorem vB_eq {b : Bool} : vB b = .s (.c (.v (.bool b))) := rfl
theorem vV_eq {v : Value} : vV v = .s (.c (.v v)) := rfl
abbrev vN (n : Int) : PV := .s (.c (.v (.int .i64 n)))
abbrev vL (sz : Nat) (xs : List Value) : PV := .s (.c (.l sz xs))
abbrev vO (id : Nat) : PV := .s (.c (.o id))
attribute [go_sem] List.length_map List.length_replicate Int.natCast_nonneg
attribute [go_sem] opK_make putO_eq msR_s msZ_s msY_s vB_eq vV_eq bne_self_eq_false beq_self_eq_true Bool.not_not eq_self
attribute [go_sem] dropK_nl dropK_cs memN_nl memN_cs

/-! ### regions that draw their order and change memory -/
section
variable {P : Program} {ops : Array Oper} {b : Bool} {σ : St} {K : St → Prop} {d : Option Nat} {op : Op} {t : TypeId} {pos : String} {af : Array Edge} {l : List Oper} {j : Nat} {w : Bool} {acc : List (St × Op × PV)} {hs : List Hp}
/-- what is still to be done of the region -/
def regY (P : Program) (ops : Array Oper) (b : Bool) (l : List Oper) (acc : List (St × Op × PV)) (hs : List Hp) (K : St → Prop) (σ : St) : Prop := opsY P ops b l acc hs K σ
def notY (P : Program) (ops : Array Oper) (b : Bool) (l : List Oper) (acc : List (St × Op × PV)) (hs : List Hp) (K : St → Prop) (σ : St) (op : Op) (d : Option Nat) (pv : PV) : Prop := regY P ops b l ((σ, op, pv) :: acc) hs K (σ.put d pv)
def runY (P : Program) (ops : Array Oper) (b : Bool) (l : List Oper) (acc : List (St × Op × PV)) (hs : List Hp) (K : St → Prop) (σ : St) (op : Op) (d : Option Nat) : Prop :=
  if isEff op = true then opK P op d σ (regY P ops b l acc (σ.h :: hs) K)
  else if isSens op = true then opD P σ.h σ.ev op (notY P ops b l acc hs K σ op d)
  else opD P σ.h σ.ev op (putP (regY P ops b l acc hs K) σ d)
def grdY (P : Program) (ops : Array Oper) (b : Bool) (l : List Oper) (acc : List (St × Op × PV)) (hs : List Hp) (K : St → Prop) (σ : St) (op : Op) (d : Option Nat) (w : Bool) (pv : PV) : Prop :=
  guardK pv w (runY P ops b l acc hs K σ op d) (regY P ops b l acc hs K (σ.put d uV))
def eqP (pv : PV) (u : PV) : Prop := u = pv
theorem eqP_same {pv : PV} : eqP pv pv = True := eq_true rfl
theorem eqP_eq {pv u : PV} : eqP pv u = (u = pv) := rfl
def oblY (P : Program) (hs : List Hp) (acc : List (St × Op × PV)) : Prop := oblP P hs acc
def oblB (P : Program) (σ : St) (op : Op) (pv : PV) (hs : List Hp) : Prop := oblA P σ op pv hs
theorem draw_stepY {pk : Pk} {Q : Exit → St → Prop} {s : List Itm} {id : Nat} (hm : P.follows .mixedOrders = true) (hok : drawOkY false ops = true) (h : regY P ops false ops.toList [] [] (nrm P pk Q s) σ) : RunC P pk Q s (.region id ops true) σ := cK_drawY false hm hok h
theorem draw_stepO {pk : Pk} {Q : Exit → St → Prop} {s : List Itm} {id : Nat} (hm : P.follows .mixedOrders = true) (hok : drawOkY true ops = true) (h : regY P ops true ops.toList [] [] (nrm P pk Q s) σ) : RunC P pk Q s (.region id ops true) σ := cK_drawY true hm hok h
theorem regY_plain : regY P ops b (⟨d, op, t, pos, af, none⟩ :: l) acc hs K σ = runY P ops b l acc hs K σ op d := rfl
theorem regY_guard : regY P ops b (⟨d, op, t, pos, af, some (j, w)⟩ :: l) acc hs K σ = grdY P ops b l acc hs K σ op d w (gv ops σ j) := rfl
theorem regY_nilT : regY P ops true [] acc hs K σ = K σ := by simp [regY, opsY, finY]
theorem regY_nilF {n : Nat} {env : List (Nat × PV)} {h : Hp} : regY P ops false [] acc hs K ⟨n, env, h⟩ = (oblY P (h :: hs) acc ∧ K ⟨n, env, h⟩) := by simp [regY, opsY, finY, oblY]
theorem notY_eq {pv : PV} : notY P ops b l acc hs K σ op d pv = regY P ops b l ((σ, op, pv) :: acc) hs K (σ.put d pv) := rfl
theorem oblY_nil : oblY P hs [] = True := rfl
theorem oblY_cons {pv : PV} : oblY P hs ((σ, op, pv) :: acc) = (oblB P σ op pv hs ∧ oblY P hs acc) := rfl
theorem oblB_nil {pv : PV} : oblB P σ op pv [] = True := rfl
def oblC (P : Program) (h : Hp) (σ : St) (op : Op) (pv : PV) (b : Bool) : Prop := if b = true then opD P h σ.ev op (eqP pv) else True
theorem oblB_cons {pv : PV} {h : Hp} : oblB P σ op pv (h :: hs) = (oblC P h σ op pv (opKey h σ.ev op) ∧ oblB P σ op pv hs) := rfl
theorem oblC_t {pv : PV} {h : Hp} : oblC P h σ op pv true = opD P h σ.ev op (eqP pv) := by simp [oblC]
theorem oblC_f {pv : PV} {h : Hp} : oblC P h σ op pv false = True := by simp [oblC]
section
variable {h : Hp} {ρ : Operand → PV}
theorem opKey_load {t1 : Nat} {x : Operand} : opKey h ρ (.load t1 x) = keyPV h (ρ x) := rfl
theorem opKey_indexAddr {t1 : Nat} {x y : Operand} : opKey h ρ (.indexAddr t1 x y) = keyPV h (ρ x) := rfl
theorem opKey_call {c : Callee} {x : Operand} {tys : Array TypeId} : opKey h ρ (.call ⟨c, [x].toArray, tys⟩) = keyPV h (ρ x) := by simp [opKey]
theorem opKey_un {o : UnOp} {t1 : Nat} {x : Operand} : opKey h ρ (.unOp o t1 x) = true := rfl
theorem opKey_conv {t1 t2 : Nat} {x : Operand} : opKey h ρ (.convert t1 t2 x) = true := rfl
theorem opKey_index {t1 : Nat} {x y : Operand} : opKey h ρ (.index t1 x y) = true := rfl
theorem opKey_nil {x : Operand} : opKey h ρ (.nilCheck x) = true := rfl
theorem opKey_build {t1 : Nat} {ps : Array (Nat × Operand)} : opKey h ρ (.build t1 ps) = true := rfl
theorem opKey_bs {t1 n : Nat} {ps : Array (Nat × Operand)} : opKey h ρ (.buildSlice t1 n ps) = true := rfl
theorem keyPV_s {x : V1} : keyPV h (.s x) = keyV1 h x := rfl
theorem keyV1_c {x : C} : keyV1 h (.c x) = keyC h x := rfl
theorem keyV1_a {xs : List C} : keyV1 h (.a xs) = xs.all (keyC h) := rfl
theorem keyC_v {x : Value} : keyC h (.v x) = true := rfl
theorem keyC_l {sz : Nat} {xs : List Value} : keyC h (.l sz xs) = true := rfl
theorem keyC_q {xs : List Value} : keyC h (.q xs) = true := rfl
theorem keyC_o {id : Nat} : keyC h (.o id) = hasKey h.lists id := rfl
theorem keyC_p {id off : Nat} : keyC h (.p id off) = hasKey h.boxes id := rfl
theorem keyC_e {id sz idx off : Nat} : keyC h (.e id sz idx off) = hasKey h.lists id := rfl
end
attribute [go_sem] oblC_t oblC_f opKey_load opKey_indexAddr opKey_call opKey_un opKey_conv opKey_index opKey_nil opKey_build opKey_bs keyPV_s keyV1_c keyV1_a keyC_v keyC_l keyC_q keyC_o keyC_p keyC_e
attribute [irreducible] oblC
theorem grdY_tt : grdY P ops b l acc hs K σ op d true (.s (.c (.v (.bool true)))) = runY P ops b l acc hs K σ op d := by simp [grdY, guardK]
theorem grdY_ff : grdY P ops b l acc hs K σ op d false (.s (.c (.v (.bool false)))) = runY P ops b l acc hs K σ op d := by simp [grdY, guardK]
theorem grdY_tf : grdY P ops b l acc hs K σ op d true (.s (.c (.v (.bool false)))) = regY P ops b l acc hs K (σ.put d uV) := by simp [grdY, guardK]
theorem grdY_ft : grdY P ops b l acc hs K σ op d false (.s (.c (.v (.bool true)))) = regY P ops b l acc hs K (σ.put d uV) := by simp [grdY, guardK]
theorem grdY_u {vs : Array Value} : grdY P ops b l acc hs K σ op d w (.s (.c (.v (.tuple vs)))) = regY P ops b l acc hs K (σ.put d uV) := rfl
theorem grdY_split {t : Bool} (h1 : t = true → grdY P ops b l acc hs K σ op d w (.s (.c (.v (.bool true))))) (h2 : t = false → grdY P ops b l acc hs K σ op d w (.s (.c (.v (.bool false))))) : grdY P ops b l acc hs K σ op d w (.s (.c (.v (.bool t)))) := by
  cases t
  · exact h2 rfl
  · exact h1 rfl
theorem grdY_splitP {p : Prop} [Decidable p] (h1 : p → grdY P ops b l acc hs K σ op d w (.s (.c (.v (.bool true))))) (h2 : ¬ p → grdY P ops b l acc hs K σ op d w (.s (.c (.v (.bool false))))) : grdY P ops b l acc hs K σ op d w (.s (.c (.v (.bool (decide p))))) :=
  grdY_split (fun h => h1 (of_decide_eq_true h)) (fun h => h2 (of_decide_eq_false h))
theorem grdY_splitN {t : Bool} (h1 : t = false → grdY P ops b l acc hs K σ op d w (.s (.c (.v (.bool true))))) (h2 : t = true → grdY P ops b l acc hs K σ op d w (.s (.c (.v (.bool false))))) : grdY P ops b l acc hs K σ op d w (.s (.c (.v (.bool (!t))))) := by
  cases t
  · exact h1 rfl
  · exact h2 rfl
theorem ru_load {t' : TypeId} {x : Operand} : runY P ops b l acc hs K σ (.load t' x) d = opD P σ.h σ.ev (.load t' x) (notY P ops b l acc hs K σ (.load t' x) d) := rfl
theorem ru_move {x : Operand} : runY P ops b l acc hs K σ (.move x) d = opD P σ.h σ.ev (.move x) (putP (regY P ops b l acc hs K) σ d) := rfl
theorem ru_assign {x : Operand} : runY P ops b l acc hs K σ (.assign x) d = opD P σ.h σ.ev (.assign x) (putP (regY P ops b l acc hs K) σ d) := rfl
theorem ru_pick {x y z : Operand} : runY P ops b l acc hs K σ (.pick x y z) d = opD P σ.h σ.ev (.pick x y z) (putP (regY P ops b l acc hs K) σ d) := rfl
theorem ru_bin {o : BinOp} {t1 t2 : TypeId} {x y : Operand} : runY P ops b l acc hs K σ (.binOp o t1 x y t2) d = opD P σ.h σ.ev (.binOp o t1 x y t2) (putP (regY P ops b l acc hs K) σ d) := rfl
theorem ru_extract {i : Nat} {x : Operand} : runY P ops b l acc hs K σ (.extract x i) d = opD P σ.h σ.ev (.extract x i) (putP (regY P ops b l acc hs K) σ d) := rfl
theorem ru_field {t' i : Nat} {x : Operand} : runY P ops b l acc hs K σ (.field t' x i) d = opD P σ.h σ.ev (.field t' x i) (putP (regY P ops b l acc hs K) σ d) := rfl
theorem ru_fieldAddr {t' i : Nat} {x : Operand} : runY P ops b l acc hs K σ (.fieldAddr t' x i) d = opD P σ.h σ.ev (.fieldAddr t' x i) (putP (regY P ops b l acc hs K) σ d) := rfl
theorem ru_un {o : UnOp} {t' : Nat} {x : Operand} : runY P ops b l acc hs K σ (.unOp o t' x) d = opD P σ.h σ.ev (.unOp o t' x) (notY P ops b l acc hs K σ (.unOp o t' x) d) := rfl
theorem ru_conv {t1 t2 : Nat} {x : Operand} : runY P ops b l acc hs K σ (.convert t1 t2 x) d = opD P σ.h σ.ev (.convert t1 t2 x) (notY P ops b l acc hs K σ (.convert t1 t2 x) d) := rfl
theorem ru_indexAddr {t1 : Nat} {x y : Operand} : runY P ops b l acc hs K σ (.indexAddr t1 x y) d = opD P σ.h σ.ev (.indexAddr t1 x y) (notY P ops b l acc hs K σ (.indexAddr t1 x y) d) := rfl
theorem ru_index {t1 : Nat} {x y : Operand} : runY P ops b l acc hs K σ (.index t1 x y) d = opD P σ.h σ.ev (.index t1 x y) (notY P ops b l acc hs K σ (.index t1 x y) d) := rfl
theorem ru_nilCheck {x : Operand} : runY P ops b l acc hs K σ (.nilCheck x) d = opD P σ.h σ.ev (.nilCheck x) (notY P ops b l acc hs K σ (.nilCheck x) d) := rfl
theorem ru_build {t1 : Nat} {ps : Array (Nat × Operand)} : runY P ops b l acc hs K σ (.build t1 ps) d = opD P σ.h σ.ev (.build t1 ps) (notY P ops b l acc hs K σ (.build t1 ps) d) := rfl
theorem ru_buildSlice {t1 n : Nat} {ps : Array (Nat × Operand)} : runY P ops b l acc hs K σ (.buildSlice t1 (n + 1) ps) d = opD P σ.h σ.ev (.buildSlice t1 (n + 1) ps) (notY P ops b l acc hs K σ (.buildSlice t1 (n + 1) ps) d) := rfl
theorem ru_slice {t1 : Nat} {x : Operand} {lo hi mx : Option Operand} : runY P ops b l acc hs K σ (.slice t1 x lo hi mx) d = opD P σ.h σ.ev (.slice t1 x lo hi mx) (putP (regY P ops b l acc hs K) σ d) := rfl
theorem ru_bs0 {t1 : Nat} {ps : Array (Nat × Operand)} : runY P ops b l acc hs K σ (.buildSlice t1 0 ps) d = opK P (.buildSlice t1 0 ps) d σ (regY P ops b l acc (σ.h :: hs) K) := rfl
theorem ru_min {as : Array Operand} {tys : Array TypeId} : runY P ops b l acc hs K σ (.call ⟨.builtin .min, as, tys⟩) d = opD P σ.h σ.ev (.call ⟨.builtin .min, as, tys⟩) (notY P ops b l acc hs K σ (.call ⟨.builtin .min, as, tys⟩) d) := rfl
theorem ru_max {as : Array Operand} {tys : Array TypeId} : runY P ops b l acc hs K σ (.call ⟨.builtin .max, as, tys⟩) d = opD P σ.h σ.ev (.call ⟨.builtin .max, as, tys⟩) (notY P ops b l acc hs K σ (.call ⟨.builtin .max, as, tys⟩) d) := rfl
theorem ru_len {x : Operand} {t1 : Nat} : runY P ops b l acc hs K σ (.call ⟨.builtin .len, [x].toArray, [t1].toArray⟩) d = opD P σ.h σ.ev (.call ⟨.builtin .len, [x].toArray, [t1].toArray⟩) (notY P ops b l acc hs K σ (.call ⟨.builtin .len, [x].toArray, [t1].toArray⟩) d) := rfl
theorem ru_fn {f : FuncId} {args : Array Operand} {tys : Array TypeId} : runY P ops b l acc hs K σ (.call ⟨.value (.func f), args, tys⟩) d = CallR P σ d f (args.toList.map σ.ev) (regY P ops b l acc (σ.h :: hs) K) := rfl
theorem ru_append {as : Array Operand} {tys : Array TypeId} : runY P ops b l acc hs K σ (.call ⟨.builtin .append, as, tys⟩) d = opK P (.call ⟨.builtin .append, as, tys⟩) d σ (regY P ops b l acc (σ.h :: hs) K) := rfl
theorem ru_store {t1 : Nat} {x y : Operand} : runY P ops b l acc hs K σ (.store t1 x y) d = opK P (.store t1 x y) d σ (regY P ops b l acc (σ.h :: hs) K) := rfl
theorem ru_alloc {t1 : Nat} : runY P ops b l acc hs K σ (.alloc t1) d = opK P (.alloc t1) d σ (regY P ops b l acc (σ.h :: hs) K) := rfl
theorem ru_box {t1 : Nat} {x : Operand} : runY P ops b l acc hs K σ (.box t1 x) d = opK P (.box t1 x) d σ (regY P ops b l acc (σ.h :: hs) K) := rfl
theorem ru_make {t1 : Nat} {x y : Operand} : runY P ops b l acc hs K σ (.makeSlice t1 x y) d = opK P (.makeSlice t1 x y) d σ (regY P ops b l acc (σ.h :: hs) K) := rfl
end
attribute [go_sem] regY_plain regY_guard regY_nilT regY_nilF notY_eq oblY_nil oblY_cons oblB_nil oblB_cons eqP_same eqP_eq grdY_tt grdY_ff grdY_tf grdY_ft grdY_u ru_load ru_move ru_assign ru_pick ru_bin ru_extract ru_field ru_fieldAddr ru_un ru_conv ru_indexAddr ru_index ru_nilCheck ru_build ru_buildSlice ru_bs0 ru_min ru_max ru_slice ru_len ru_fn ru_append ru_store ru_alloc ru_box ru_make
attribute [irreducible] regY runY grdY oblY oblB
attribute [irreducible] RunC RunE nrm opsC opsX ifR grd grdX CallR CallD
end Go.PL
