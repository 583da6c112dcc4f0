/-
  One operation of a region that is carried out in the order of the text; a whole such region.
-/
import Derived.Test.YtncdcgaaeclhiaaEb
namespace Go.PL
open Go.RowKit
set_option linter.unusedSimpArgs false
set_option linter.unusedVariables false

def CallK (P : Program) (σ : St) (dst : Option Nat) (f : FuncId) (args : List PV) (K : St → Prop) : Prop :=
  (∃ r, CallOk P σ.h f args r ∧ K (σ.put dst r)) ∨
  (∃ tmp bxs ins vs r h', PCalls P f bxs ins vs r h' ∧ (∀ id cs, (id, cs) ∈ bxs → (id, cs) ∈ σ.h.boxes ∧ cs.all plainC = true) ∧
    (∀ id lo, (id, lo) ∈ ins → (id, lo) ∈ σ.h.lists ∧ lo.live = true ∧ lo.pub = false) ∧ noDup ins ∧
    viewArgs σ.h (ins.map Prod.fst) vs args = some vs ∧ vs.all (okV1 (bxs.map Prod.fst) (ins.map Prod.fst)) = true ∧
    (∀ id lo, (id, lo) ∈ h'.lists → id ∈ ins.map Prod.fst ∨ hasKey σ.h.lists id = false) ∧ (∀ id cs, (id, cs) ∈ h'.boxes → id ∈ bxs.map Prod.fst ∨ hasKey σ.h.boxes id = false) ∧
    (tmp = true → nvPV r = true ∧ ∀ id cs, (id, cs) ∈ h'.boxes → cs.all nvC = true) ∧
    K ({ σ with h := mergeH tmp σ.h (bxs.map Prod.fst) (ins.map Prod.fst) h' }.put dst r))

def callOp (P : Program) (dst : Option Nat) (c : Call) (σ : St) (K : St → Prop) : Prop :=
  match c.callee with
  | .builtin .append => match c.args.toList, c.argTypes.toList with
    | [s, x], [t, t'] => c1K (σ.ev s) fun s => c1K (σ.ev x) fun x => optK (eInf P t) fun ei => optK dst fun d => optK (srcOf σ.h ei.2.1 x) fun sy =>
        (t' = t ∧ sy.1 = ei.2.1 ∧ hasKey σ.h.lists d = false) ∧ appendK σ.h ei d s sy.2 fun h' => K ({ σ with h := h' }.put (some d) (.s (.c (.o d))))
    | _, _ => False
  | .value (.func f) => CallK P σ dst f (c.args.toList.map σ.ev) K
  | _ => callA P σ.h σ.ev c fun pv => K (σ.put dst pv)

def opK (P : Program) (op : Op) (dst : Option Nat) (σ : St) (K : St → Prop) : Prop :=
  match op with
  | .box _ x => v1K (σ.ev x) fun y => optK (cells1 y) fun cs => optK dst fun d => hasKey σ.h.boxes d = false ∧ K ({ σ with h := { σ.h with boxes := (d, cs) :: σ.h.boxes } }.put (some d) (.s (.c (.p d 0))))
  | .alloc t => optK (zeroCs P t) fun zs => optK dst fun d => (zs.all Value.oneCell' = true ∧ hasKey σ.h.boxes d = false) ∧ K ({ σ with h := { σ.h with boxes := (d, zs.map .v) :: σ.h.boxes } }.put (some d) (.s (.c (.p d 0))))
  | .store t a x => c1K (σ.ev a) fun p => v1K (σ.ev x) fun y => optK (cells1 y) fun cs => optK (szOf P t) fun n => n = cs.length ∧ storeK σ.h p y cs fun h' => K ({ σ with h := h' }.put dst uV)
  | .buildSlice t n parts => optK dst fun d => bsK P σ.h σ.ev t n d parts.toList fun h' => K ({ σ with h := h' }.put (some d) (.s (.c (.o d))))
  | .slice t x lo hi mx => match σ.ev x with
    | .s (.c (.o id)) => mx.isNone = true ∧ optK dst fun d => sliceO σ.h (eSz P t) d id (lo.map σ.ev) (hi.map σ.ev) fun h' pv => K ({ σ with h := h' }.put (some d) pv)
    | _ => opA P σ.h σ.ev (.slice t x lo hi mx) fun pv => K (σ.put dst pv)
  | .call c => callOp P dst c σ K
  | .makeSlice t l c => c1K (σ.ev l) fun l => c1K (σ.ev c) fun c => match l, c with
    | .v l, .v c => optK dst fun d => msK P σ.h t d l c fun h' => K ({ σ with h := h' }.put (some d) (.s (.c (.o d))))
    | _, _ => False
  | op => opA P σ.h σ.ev op fun pv => K (σ.put dst pv)

theorem St.ev_func (σ : St) (f : FuncId) : σ.ev (.func f) = vV (.func (.func f) #[] #[]) := rfl

theorem opA_wp {P : Program} {σ : St} {o : Oper} {K : St → Prop} (hc : opA P σ.h σ.ev o.op fun pv => K (σ.put o.dst pv)) {g0 : Gh} {pk : Pk} {g : Gh} {a : Act} (s : SimG g0 pk g σ a) (Q : Exit → Act → World → Prop) :
    o.wp P a g.w (fun a' w' => ∃ σ', K σ' ∧ Sim g0 pk σ' a' w') Q := by
  obtain ⟨pv, hK, hy⟩ := opA_sound (o := o) (fun f => rfl) hc
  refine hy g0 pk g a s.heap s.wf (fun x _ => s.ev x) _ Q fun g' v hk he hr => ?_
  exact ⟨_, hK, g', rfl, s.put hk (s.wf.ext he) he hr⟩

theorem opK_sound {P : Program} {σ : St} {o : Oper} {K : St → Prop} (hc : opK P o.op o.dst σ K) {g0 : Gh} {pk : Pk} {g : Gh} {a : Act} (s : SimG g0 pk g σ a) (Q : Exit → Act → World → Prop) :
    o.wp P a g.w (fun a' w' => ∃ σ', K σ' ∧ Sim g0 pk σ' a' w') Q := by
  obtain ⟨dst, op, type, pos, after, guard⟩ := o
  cases op
  case box t x =>
    simp only [opK] at hc
    obtain ⟨y, hy, hc⟩ := v1K_ex hc
    obtain ⟨cs, hcs, hc⟩ := optK_ex hc
    obtain ⟨d, hd, hdk, hK⟩ := optK_ex hc
    subst hd
    have hx := s.ev x
    rw [hy] at hx
    obtain ⟨h1, h2⟩ := cells1_rep s.wf.ov hcs hx
    obtain ⟨g', hw, hbx, hov, hk', he⟩ := s.heap.addBox hdk t h1 h2
    unfold Oper.wp
    have hr : (execOp a.eval ⟨some d, .box t x, type, pos, after, guard⟩).run P g.w = .ok (.value (.pointer (some ⟨g.w.heap.size, 0, none⟩))) g'.w := by
      rw [hw]
      simp [execOp, Instr.box, newVar, newRow]
    rw [hr]
    exact ⟨_, hK, g', rfl, s.put hk' ⟨fun id lo hm => by rw [hov]; exact s.wf.ov id lo hm, s.wf.nd⟩ he (pv := .s (.c (.p d 0))) ⟨⟨cs, by simp⟩, by rw [hbx]⟩⟩
  case alloc t =>
    simp only [opK] at hc
    obtain ⟨zs, hzs, hc⟩ := optK_ex hc
    obtain ⟨d, hd, ⟨hone, hdk⟩, hK⟩ := optK_ex hc
    subst hd
    unfold zeroCs at hzs
    split at hzs
    · rename_i i hi
      cases hz : i.zero with
      | none => simp [hz] at hzs
      | some z =>
        simp [hz] at hzs
        subst hzs
        obtain ⟨g', hw, hbx, hov, hk', he⟩ := s.heap.addBox hdk (cs := z.cells.toList.map .v) (arr := z.cells) t (All2.of_v _) (List.all_eq_true.1 hone)
        unfold Oper.wp
        have hr : (execOp a.eval ⟨some d, .alloc t, type, pos, after, guard⟩).run P g.w = .ok (.value (.pointer (some ⟨g.w.heap.size, 0, none⟩))) g'.w := by
          rw [hw]
          simp [execOp, Instr.alloc, newVar, newRow, zeroValue, typeInfo, hi, hz]
        rw [hr]
        exact ⟨_, hK, g', rfl, s.put hk' ⟨fun id lo hm => by rw [hov]; exact s.wf.ov id lo hm, s.wf.nd⟩ he (pv := .s (.c (.p d 0))) ⟨⟨z.cells.toList.map .v, by simp⟩, by rw [hbx]⟩⟩
    · cases hzs
  case store t ad x =>
    simp only [opK] at hc
    obtain ⟨p, hp, hc⟩ := c1K_ex hc
    obtain ⟨y, hy, hc⟩ := v1K_ex hc
    obtain ⟨cs, hcs, hc⟩ := optK_ex hc
    obtain ⟨n, hn, hlen, hc⟩ := optK_ex hc
    have h1 := s.ev ad
    have h2 := s.ev x
    rw [hp] at h1
    rw [hy] at h2
    obtain ⟨h', hK, hrun⟩ := storeK_sound hn hlen hcs hc
    obtain ⟨g', hr, hk', hwf, he⟩ := hrun g0 pk g _ _ s.heap s.wf h1 h2
    unfold Oper.wp
    have hr' : (execOp a.eval ⟨dst, .store t ad x, type, pos, after, guard⟩).run P g.w = .ok .skip g'.w := by simp [execOp, hr]
    rw [hr']
    exact ⟨_, hK, g', rfl, s.put hk' hwf he (pv := uV) rfl⟩
  case buildSlice t n parts =>
    simp only [opK] at hc
    obtain ⟨d, hd, hc2⟩ := optK_ex hc
    subst hd
    obtain ⟨h', hK, hrun⟩ := bsK_sound hc2
    obtain ⟨v, g', hr, hk', hwf, he, hrep⟩ := hrun g0 pk g a.eval s.heap s.wf (fun p _ => s.ev p.2)
    unfold Oper.wp
    have hr' : (execOp a.eval ⟨some d, .buildSlice t n parts, type, pos, after, guard⟩).run P g.w = .ok (.value v) g'.w := by simp [execOp, hr]
    rw [hr']
    exact ⟨_, hK, g', rfl, s.put hk' hwf he (pv := .s (.c (.o d))) hrep⟩
  case makeSlice t l c =>
    simp only [opK] at hc
    obtain ⟨cl, hl, hc⟩ := c1K_ex hc
    obtain ⟨cc, hcc, hc⟩ := c1K_ex hc
    split at hc
    · rename_i lv cv _
      obtain ⟨d, hd, hc2⟩ := optK_ex hc
      subst hd
      obtain ⟨h', hK, hrun⟩ := msK_sound hc2
      obtain ⟨v, g', hr, hk', hwf, he, hrep⟩ := hrun g0 pk g s.heap s.wf
      have h1 := s.ev l
      have h2 := s.ev c
      rw [hl] at h1
      rw [hcc] at h2
      have e1 : a.eval l = lv := h1
      have e2 : a.eval c = cv := h2
      unfold Oper.wp
      have hr' : (execOp a.eval ⟨some d, .makeSlice t l c, type, pos, after, guard⟩).run P g.w = .ok (.value v) g'.w := by simp [execOp, e1, e2, hr]
      rw [hr']
      exact ⟨_, hK, g', rfl, s.put hk' hwf he (pv := .s (.c (.o d))) hrep⟩
    · exact hc.elim
  case slice t x lo hi mx =>
    simp only [opK] at hc
    split at hc
    · rename_i id hx
      obtain ⟨hmx, hc⟩ := hc
      obtain ⟨d, hd, hc2⟩ := optK_ex hc
      subst hd
      have hmx' : mx = none := by simpa using hmx
      subst hmx'
      obtain ⟨h', pv, hK, hrun⟩ := sliceO_sound (P := P) hc2
      have h1 := s.ev x
      rw [hx] at h1
      obtain ⟨v, g', hr, hk', hwf, he, hrep⟩ := hrun g0 pk g _ (lo.map a.eval) (hi.map a.eval) s.heap s.wf h1
        (fun z hz => by
          cases lo with
          | none => simp at hz
          | some l => simp at hz; subst hz; exact ⟨_, rfl, s.ev l⟩)
        (fun hz => by cases lo <;> simp at hz ⊢)
        (fun z hz => by
          cases hi with
          | none => simp at hz
          | some l => simp at hz; subst hz; exact ⟨_, rfl, s.ev l⟩)
        (fun hz => by cases hi <;> simp at hz ⊢)
      unfold Oper.wp
      have hr' : (execOp a.eval ⟨some d, .slice t x lo hi none, type, pos, after, guard⟩).run P g.w = .ok (.value v) g'.w := by simp [execOp, hr]
      rw [hr']
      exact ⟨_, hK, g', rfl, s.put hk' hwf he hrep⟩
    · exact opA_wp (o := ⟨dst, .slice t x lo hi mx, type, pos, after, guard⟩) hc s Q
  case call c =>
    simp only [opK, callOp] at hc
    split at hc
    · rename_i hce
      split at hc
      · rename_i sx x t t' hargs htys
        obtain ⟨vs, hs, hc⟩ := c1K_ex hc
        obtain ⟨vx, hx, hc⟩ := c1K_ex hc
        obtain ⟨ei, hei, hc⟩ := optK_ex hc
        obtain ⟨d, hd, hc⟩ := optK_ex hc
        obtain ⟨sy, hsy, ⟨ht, hsz, hdk⟩, hc2⟩ := optK_ex hc
        subst hd
        subst ht
        obtain ⟨h', hK, hrun⟩ := appendK_sound (P := P) (ty := type) hei hdk (sz := sy.1) (ys := sy.2) (by rw [hsy]) hsz hc2
        have h1 := s.ev sx
        have h2 := s.ev x
        rw [hs] at h1
        rw [hx] at h2
        obtain ⟨v, g', hr, hk', hwf, he, hrep⟩ := hrun g0 pk g _ _ s.heap s.wf h1 h2
        have ha : c.args = #[sx, x] := by apply Array.ext'; simpa using hargs
        have hty : c.argTypes = #[t', t'] := by apply Array.ext'; simpa using htys
        unfold Oper.wp
        have hr' : (execOp a.eval ⟨some d, .call c, type, pos, after, guard⟩).run P g.w = .ok (.value v) g'.w := by simp [execOp, resolve, hce, invoke, builtin, ha, hty, hr]
        rw [hr']
        exact ⟨_, hK, g', rfl, s.put hk' hwf he (pv := .s (.c (.o d))) hrep⟩
      · exact hc.elim
    · rename_i f hce
      have hfv : a.eval (.func f) = .func (.func f) #[] #[] := rfl
      have hall : All2 (RepPV g σ.h) (c.args.toList.map σ.ev) (c.args.map a.eval).toList := by
        rw [Array.toList_map]
        exact all2_args _ fun x _ => s.ev x
      rcases hc with ⟨r, ⟨hf, hcall⟩, hK⟩ | ⟨tmp, bxs, ins, vs, r, h', hpc, hbx, hin, hnd, hv, hok, hfl, hfb, htm, hK⟩
      · unfold Oper.wp
        rw [call_exec hf a.eval _ c rfl hce hfv]
        refine (hcall g0 pk g (c.args.map a.eval) s.heap s.wf hall).mono fun e w' he => ?_
        obtain ⟨g', v, rfl, rfl, h1, h2, h3⟩ := he
        exact ⟨_, hK, g', rfl, s.put h1 (s.wf.ext h2) h2 h3⟩
      · unfold Oper.wp
        rw [call_exec hpc.1 a.eval _ c rfl hce hfv]
        refine (callG_ok tmp hpc hbx hin hnd hv hok hfl hfb htm s.heap s.wf hall).mono fun e w' he => ?_
        obtain ⟨g', v, rfl, rfl, h1, h2, h3, h4⟩ := he
        exact ⟨_, hK, g', rfl, s.put h1 h2 h3 h4⟩
    · exact opA_wp (o := ⟨dst, .call c, type, pos, after, guard⟩) hc s Q
  all_goals (refine opA_wp (K := K) (σ := σ) ?_ s Q; exact hc)

/-! ### a region in the order of the text -/
def gv (ops : Array Oper) (σ : St) (j : Nat) : PV :=
  match (ops[j]?).bind (·.dst) with
  | some d => σ.get d
  | none => .s (.c .any)
def guardK : PV → Bool → Prop → Prop → Prop
  | .s (.c (.v (.bool t))), want, A, B => (t = want → A) ∧ (t = !want → B)
  | .s (.c (.v (.tuple _))), _, _, B => B
  | _, _, _, _ => False
def opsK (P : Program) (ops : Array Oper) : List Oper → St → (St → Prop) → Prop
  | [], σ, K => K σ
  | o :: rest, σ, K => match o.guard with
    | none => opK P o.op o.dst σ fun σ' => opsK P ops rest σ' K
    | some (j, want) => guardK (gv ops σ j) want (opK P o.op o.dst σ fun σ' => opsK P ops rest σ' K) (opsK P ops rest (σ.put o.dst uV) K)

theorem gv_yield {g0 : Gh} {pk : Pk} {g : Gh} {σ : St} {a : Act} (s : SimG g0 pk g σ a) {ops : Array Oper} {j : Nat} :
    (∀ t, gv ops σ j = vB t → yielded ops a.tmps j = some t) ∧ (∀ vs, gv ops σ j = vV (.tuple vs) → yielded ops a.tmps j = none) := by
  unfold gv yielded
  cases hd : (ops[j]?).bind (·.dst) with
  | none => exact ⟨fun t h => by simp at h, fun vs h => by simp at h⟩
  | some d =>
    simp only [Option.bind_some]
    by_cases hlt : d < σ.n
    · have hlt' : d < a.tmps.size := by rw [s.size]; exact hlt
      have hr := s.env d hlt
      have he : a.tmps[d]? = some (a.tmps.getD d undef) := by simp [hlt', Array.getD]
      rw [he]
      refine ⟨fun t h => ?_, fun vs h => ?_⟩
      · rw [h] at hr
        simp only [RepPV, RepV1, RepC] at hr
        rw [hr]
      · rw [h] at hr
        simp only [RepPV, RepV1, RepC] at hr
        rw [hr]
    · have : σ.get d = .s (.c .any) := by simp [St.get, hlt]
      rw [this]
      exact ⟨fun t h => by simp at h, fun vs h => by simp at h⟩

theorem guardK_cases {pv : PV} {want : Bool} {A B : Prop} (h : guardK pv want A B) : (∃ t, pv = vB t ∧ ((t = want ∧ A) ∨ (t ≠ want ∧ B))) ∨ (∃ vs, pv = vV (.tuple vs) ∧ B) := by
  unfold guardK at h
  split at h
  · rename_i t
    refine .inl ⟨_, rfl, ?_⟩
    cases t <;> cases want <;> simp_all
  · exact .inr ⟨_, rfl, h⟩
  · exact h.elim

theorem opsK_sound {P : Program} {ops : Array Oper} {Q : Exit → Act → World → Prop} {g0 : Gh} {pk : Pk} : ∀ (l : List Oper) (σ : St) (K : St → Prop) (a : Act) (w : World), opsK P ops l σ K → Sim g0 pk σ a w →
    (∀ σ' a' w', K σ' → Sim g0 pk σ' a' w' → Q .normal a' w') → wpList P ops Q l a w
  | [], σ, K, a, w, h, s, hQ => hQ σ a w h s
  | o :: rest, σ, K, a, w, h, s, hQ => by
    obtain ⟨g, rfl, s⟩ := s
    unfold opsK at h
    unfold wpList
    cases hg : o.guard with
    | none =>
      simp only [hg] at h
      rw [if_pos (by simp [Region.wanted, hg])]
      left
      exact Oper.wp_mono (fun a' w' ⟨σ', h1, h2⟩ => opsK_sound rest σ' K a' w' h1 h2 hQ) (opK_sound h s Q)
    | some jw =>
      obtain ⟨j, want⟩ := jw
      simp only [hg] at h
      obtain ⟨hy1, hy2⟩ := gv_yield s (ops := ops) (j := j)
      rcases guardK_cases h with ⟨t, hgv, ⟨ht, h⟩ | ⟨ht, h⟩⟩ | ⟨vs, hgv, h⟩
      · have hy := hy1 t hgv
        rw [if_pos (by simp [Region.wanted, hg, hy, ht])]
        left
        exact Oper.wp_mono (fun a' w' ⟨σ', h1, h2⟩ => opsK_sound rest σ' K a' w' h1 h2 hQ) (opK_sound h s Q)
      · have hy := hy1 t hgv
        rw [if_neg (by simp [Region.wanted, hg, hy, ht])]
        exact opsK_sound rest _ K _ _ h ⟨g, rfl, s.put s.heap s.wf (Ext.refl _ _) (pv := uV) rfl⟩ hQ
      · have hy := hy2 vs hgv
        rw [if_neg (by simp [Region.wanted, hg, hy])]
        exact opsK_sound rest _ K _ _ h ⟨g, rfl, s.put s.heap s.wf (Ext.refl _ _) (pv := uV) rfl⟩ hQ

end Go.PL
