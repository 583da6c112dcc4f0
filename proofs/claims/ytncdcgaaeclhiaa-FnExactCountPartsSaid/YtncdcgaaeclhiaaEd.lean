/-
  Regions that draw their order: where every operation hands back a value and changes no box and no own list, the order of the text serves every order.
-/
import Derived.Test.YtncdcgaaeclhiaaEe
import Derived.Still
namespace Go.PL
open Go.RowKit
set_option linter.unusedSimpArgs false
set_option linter.unusedVariables false

def DYields (P : Program) (h : Hp) (ρ : Operand → PV) (o : Oper) (pv : PV) : Prop :=
  ∀ g0 pk g (a : Act), HeapOk g0 pk g h → WfG g h → (∀ x ∈ o.op.operands, RepPV g h (ρ x) (a.eval x)) →
    ∀ (next : Act → World → Prop) (Q : Exit → Act → World → Prop),
      (∀ g' v, HeapOk g0 pk g' h → Ext g h g' h → RepPV g' h pv v → next (a.put o.dst v) g'.w) → o.wp P a g.w next Q

def bsL (P : Program) (ρ : Operand → PV) (t n : Nat) (parts : List (Nat × Operand)) (K : PV → Prop) : Prop :=
  optK (eInf P t) fun ei => optK (partsV ρ parts) fun xs =>
    (seqParts 0 parts = true ∧ xs.length = n ∧ (xs.all fun x => decide (x.cells.size = ei.2.1)) = true ∧ ((flat xs).all Value.oneCell') = true ∧ 0 < ei.2.1 ∧ n * ei.2.1 ≤ 16777216) ∧ K (.s (.c (.l ei.2.1 xs)))
def opD (P : Program) (h : Hp) (ρ : Operand → PV) (op : Op) (K : PV → Prop) : Prop :=
  match op with
  | .buildSlice t n parts => bsL P ρ t n parts.toList K
  | op => opA P h ρ op K

theorem opD_sound {P : Program} {h : Hp} {ρ : Operand → PV} {o : Oper} {K : PV → Prop} (hfu : ∀ f, ρ (.func f) = vV (.func (.func f) #[] #[])) (hc : opD P h ρ o.op K) : ∃ pv, K pv ∧ DYields P h ρ o pv := by
  by_cases hb : ∃ t n parts, o.op = .buildSlice t n parts
  · obtain ⟨t, n, parts, ho⟩ := hb
    rw [ho] at hc
    obtain ⟨ei, hei, hc⟩ := optK_ex hc
    obtain ⟨xs, hxs, ⟨hseq, hlen, hall, hone, hpos, hle⟩, hK⟩ := optK_ex hc
    refine ⟨_, hK, fun g0 pk g a hk hwf hρ next Q hn => ?_⟩
    have hsz : ∀ x ∈ xs, x.cells.size = ei.2.1 := by simpa using hall
    have hone' : ∀ c ∈ flat xs, c.oneCell' = true := by simpa using hone
    subst hlen
    have hρ' : ∀ p ∈ parts.toList, RepPV g h (ρ p.2) (a.eval p.2) := fun p hp => hρ p.2 (by rw [ho]; simp only [Op.operands]; simp; exact ⟨p.1, by simpa using hp⟩)
    obtain ⟨hrun, hmax⟩ := bs_run hei hxs hseq hsz hpos hle a.eval hρ'
    let V' : Nat → Nat → Prop := fun b j => g.V b j ∨ (b = g.w.heap.size ∧ j < (flat xs).length)
    have hst := hk.step (g.w.alloc (.cells (flat xs).toArray ei.1)) V' rfl rfl rfl (by simp) (fun k hlt => heap_alloc_old g.w _ hlt) (fun _ _ h => .inl h)
      (fun b j hb hv => by rcases hv with h1 | ⟨h1, _⟩; exact h1; omega) (fun b j hv => by rcases hv with h1 | ⟨h1, _⟩; have := hk.vin b j h1; simp; omega; simp; omega)
    have hx := hn { g with w := g.w.alloc (.cells (flat xs).toArray ei.1), V := V' } (.slice (some ⟨g.w.heap.size, 0, none⟩) xs.length xs.length) hst.1 hst.2
      ⟨some ⟨g.w.heap.size, 0, none⟩, xs.length, rfl, Nat.le_refl _, hmax, ⟨hpos, hone'⟩, hsz, fun h => (by cases h), fun ad had => (by
        cases had
        exact ⟨rfl, fun j hj => ⟨by simp [World.cell?_alloc_new, hj], .inr ⟨rfl, by simpa using hj⟩⟩⟩)⟩
    unfold Oper.wp
    have hr : (execOp a.eval o).run P g.w = .ok (.value (.slice (some ⟨g.w.heap.size, 0, none⟩) xs.length xs.length)) (g.w.alloc (.cells (flat xs).toArray ei.1)) := by simp [execOp, ho, hrun]
    rw [hr]
    exact hx
  · have hc' : opA P h ρ o.op K := by
      cases ho : o.op <;> rw [ho] at hc <;> first | exact hc | exact absurd ⟨_, _, _, ho⟩ hb
    obtain ⟨pv, hK, hy⟩ := opA_sound hfu hc'
    exact ⟨pv, hK, hy⟩

def opsD (P : Program) (ops : Array Oper) : List Oper → St → (St → Prop) → Prop
  | [], σ, K => K σ
  | o :: rest, σ, K => match o.guard with
    | none => opD P σ.h σ.ev o.op fun pv => opsD P ops rest (σ.put o.dst pv) K
    | some (j, want) => guardK (gv ops σ j) want (opD P σ.h σ.ev o.op fun pv => opsD P ops rest (σ.put o.dst pv) K) (opsD P ops rest (σ.put o.dst uV) K)

/-- what the order of the text does: one operation -/
def StepAt (P : Program) (ops : Array Oper) (σ : St) (o : Oper) (v : PV) : Prop :=
  match o.guard with
  | none => DYields P σ.h σ.ev o v
  | some (j, want) => (∃ t, gv ops σ j = vB t ∧ ((t = want ∧ DYields P σ.h σ.ev o v) ∨ (t ≠ want ∧ v = uV))) ∨ (∃ vs, gv ops σ j = vV (.tuple vs) ∧ v = uV)
def puts (σ : St) : List Oper → List PV → St
  | o :: l, v :: vs => puts (σ.put o.dst v) l vs
  | _, _ => σ
def StepsOk (P : Program) (ops : Array Oper) : St → List Oper → List PV → Prop
  | σ, o :: l, v :: vs => StepAt P ops σ o v ∧ StepsOk P ops (σ.put o.dst v) l vs
  | _, [], [] => True
  | _, _, _ => False
theorem put_h (σ : St) (d : Option Nat) (v : PV) : (σ.put d v).h = σ.h := by cases d <;> rfl
theorem put_n (σ : St) (d : Option Nat) (v : PV) : (σ.put d v).n = σ.n := by cases d <;> rfl
theorem opsD_ex {P : Program} {ops : Array Oper} {K : St → Prop} : ∀ (l : List Oper) (σ : St), opsD P ops l σ K → ∃ vs, StepsOk P ops σ l vs ∧ K (puts σ l vs)
  | [], σ, h => ⟨[], trivial, h⟩
  | o :: l, σ, h => by
    unfold opsD at h
    cases hg : o.guard with
    | none =>
      simp only [hg] at h
      obtain ⟨pv, h1, h2⟩ := opD_sound (fun f => rfl) h
      obtain ⟨vs, h3, h4⟩ := opsD_ex l _ h1
      exact ⟨pv :: vs, ⟨by simp only [StepAt, hg]; exact h2, h3⟩, h4⟩
    | some jw =>
      obtain ⟨j, want⟩ := jw
      simp only [hg] at h
      rcases guardK_cases h with ⟨t, hgv, ⟨ht, h⟩ | ⟨ht, h⟩⟩ | ⟨vs, hgv, h⟩
      · obtain ⟨pv, h1, h2⟩ := opD_sound (fun f => rfl) h
        obtain ⟨vs, h3, h4⟩ := opsD_ex l _ h1
        exact ⟨pv :: vs, ⟨by simp only [StepAt, hg]; exact .inl ⟨t, hgv, .inl ⟨ht, h2⟩⟩, h3⟩, h4⟩
      · obtain ⟨vs, h3, h4⟩ := opsD_ex l _ h
        exact ⟨uV :: vs, ⟨by simp only [StepAt, hg]; exact .inl ⟨t, hgv, .inr ⟨ht, trivial⟩⟩, h3⟩, h4⟩
      · obtain ⟨us, h3, h4⟩ := opsD_ex l _ h
        exact ⟨uV :: us, ⟨by simp only [StepAt, hg]; exact .inr ⟨vs, hgv, trivial⟩, h3⟩, h4⟩

/-- the state in the order of the text ahead of operation number i -/
def stAt (σ : St) (l : List Oper) (vs : List PV) (i : Nat) : St := puts σ (l.take i) (vs.take i)
theorem puts_h (σ : St) : ∀ (l : List Oper) (vs : List PV), (puts σ l vs).h = σ.h ∧ (puts σ l vs).n = σ.n := by
  intro l
  induction l generalizing σ with
  | nil => intro vs; cases vs <;> exact ⟨rfl, rfl⟩
  | cons o l ih =>
    intro vs
    cases vs with
    | nil => exact ⟨rfl, rfl⟩
    | cons v vs => simp only [puts]; rw [(ih _ vs).1, (ih _ vs).2, put_h, put_n]; exact ⟨rfl, rfl⟩
theorem steps_at {P : Program} {ops : Array Oper} : ∀ {l : List Oper} {vs : List PV} {σ : St}, StepsOk P ops σ l vs → l.length = vs.length ∧ ∀ i o, l[i]? = some o → ∃ v, vs[i]? = some v ∧ StepAt P ops (stAt σ l vs i) o v
  | [], [], σ, _ => ⟨rfl, fun i o h => by simp at h⟩
  | o :: l, v :: vs, σ, ⟨h1, h2⟩ => by
    obtain ⟨h3, h4⟩ := steps_at h2
    refine ⟨by simp [h3], fun i o' ho => ?_⟩
    cases i with
    | zero => simp at ho; subst ho; exact ⟨v, by simp, h1⟩
    | succ i =>
      obtain ⟨u, h5, h6⟩ := h4 i o' (by simpa using ho)
      exact ⟨u, by simpa using h5, by simpa [stAt, puts] using h6⟩
  | [], _ :: _, _, h => h.elim
  | _ :: _, [], _, h => h.elim
/-- a slot in the order of the text -/
theorem get_puts {t : Nat} : ∀ {l : List Oper} {vs : List PV} {σ : St}, l.length = vs.length → (∀ (i j : Nat) (oi oj : Oper), l[i]? = some oi → l[j]? = some oj → oi.dst = some t → oj.dst = some t → i = j) →
    (∀ (j : Nat) (oj : Oper) (v : PV), l[j]? = some oj → vs[j]? = some v → oj.dst = some t → t < σ.n → (puts σ l vs).get t = v) ∧ ((∀ (j : Nat) (oj : Oper), l[j]? = some oj → oj.dst ≠ some t) → (puts σ l vs).get t = σ.get t)
  | [], [], σ, _, _ => ⟨fun j oj v h => by simp at h, fun _ => rfl⟩
  | o :: l, v :: vs, σ, hl, hu => by
    have hl' : l.length = vs.length := by simpa using hl
    have hu' : ∀ (i j : Nat) (oi oj : Oper), l[i]? = some oi → l[j]? = some oj → oi.dst = some t → oj.dst = some t → i = j := fun i j oi oj h1 h2 h3 h4 => by
      have := hu (i + 1) (j + 1) oi oj (by simpa using h1) (by simpa using h2) h3 h4
      omega
    obtain ⟨ih1, ih2⟩ := get_puts (σ := σ.put o.dst v) hl' hu'
    constructor
    · intro j oj u h1 h2 h3 h4
      simp only [puts]
      cases j with
      | zero =>
        simp at h1 h2
        subst h1 h2
        rw [ih2 fun j' oj' h5 h6 => by
          have := hu 0 (j' + 1) o oj' (by simp) (by simpa using h5) h3 h6
          omega]
        rw [h3]
        simp [St.put, St.get, h4, fnd]
      | succ j => exact ih1 j oj u (by simpa using h1) (by simpa using h2) h3 (by rw [put_n]; exact h4)
    · intro h
      simp only [puts]
      rw [ih2 fun j oj h1 => h (j + 1) oj (by simpa using h1)]
      have h0 := h 0 o (by simp)
      cases hd : o.dst with
      | none => rfl
      | some d =>
        have hne : ¬ d = t := fun e => h0 (by rw [hd, e])
        simp [St.put, St.get, fnd, hne]
  | [], _ :: _, _, h, _ => by simp at h
  | _ :: _, [], _, h, _ => by simp at h

/-! ### the check of a region -/
def afterOn (o : Oper) (i : Nat) : Bool := o.after.toList.any fun e => Region.binds .any e && e.on == i
def drawOk (ops : Array Oper) : Bool :=
  (List.range ops.size).all fun i => match ops[i]? with
    | none => true
    | some o => (o.after.all fun e => !Region.binds .any e || decide (e.on < i)) &&
      (List.range ops.size).all fun j => match ops[j]? with
        | none => true
        | some oj => match oj.dst with
          | none => true
          | some t => (if i = j then !(o.looksAt ops).contains t else o.dst != some t) &&
            (!(o.looksAt ops).contains t || (decide (j < i) && afterOn o j) || (decide (i < j) && afterOn oj i))

theorem drawOk_spec {ops : Array Oper} (h : drawOk ops = true) :
    (∀ (i : Nat) (o : Oper), ops[i]? = some o → ∀ e ∈ o.after, Region.binds .any e = true → e.on < i) ∧
    (∀ (i j : Nat) (oi oj : Oper) (t : Nat), ops[i]? = some oi → ops[j]? = some oj → oi.dst = some t → oj.dst = some t → i = j) ∧
    (∀ (i : Nat) (o : Oper) (t : Nat), ops[i]? = some o → t ∈ o.looksAt ops → ∀ (j : Nat) (oj : Oper), ops[j]? = some oj → oj.dst = some t → j ≠ i ∧ ((j < i ∧ afterOn o j = true) ∨ (i < j ∧ afterOn oj i = true))) := by
  have lt : ∀ (i : Nat) (o : Oper), ops[i]? = some o → i ∈ List.range ops.size := fun i o hi => List.mem_range.2 (Array.getElem?_eq_some_iff.1 hi).1
  have get : ∀ (i : Nat) (o : Oper), ops[i]? = some o → (∀ e ∈ o.after, Region.binds .any e = true → e.on < i) ∧ ∀ (j : Nat) (oj : Oper) (t : Nat), ops[j]? = some oj → oj.dst = some t →
      ((if i = j then !(o.looksAt ops).contains t else o.dst != some t) = true ∧ ((!(o.looksAt ops).contains t || (decide (j < i) && afterOn o j) || (decide (i < j) && afterOn oj i)) = true)) := by
    intro i o hi
    unfold drawOk at h
    have h1 := List.all_eq_true.1 h i (lt i o hi)
    simp only [hi, Bool.and_eq_true] at h1
    refine ⟨fun e he hb => ?_, fun j oj t hj hd => ?_⟩
    · have := Array.all_eq_true_iff_forall_mem.1 h1.1 e he
      simpa [hb] using this
    · have h2 := List.all_eq_true.1 h1.2 j (lt j oj hj)
      simp only [hj, hd, Bool.and_eq_true] at h2
      exact h2
  refine ⟨fun i o hi => (get i o hi).1, fun i j oi oj t hi hj hdi hdj => ?_, fun i o t hi ht j oj hj hd => ?_⟩
  · have h1 := ((get i oi hi).2 j oj t hj hdj).1
    by_cases hij : i = j
    · exact hij
    · simp [hij, hdi] at h1
  · obtain ⟨h1, h2⟩ := (get i o hi).2 j oj t hj hd
    have hc : (o.looksAt ops).contains t = true := by simpa using ht
    have hne : j ≠ i := fun e => by subst e; simp [hc] at h1; exact h1 ht
    refine ⟨hne, ?_⟩
    simp only [hc, Bool.not_true, Bool.false_or, Bool.or_eq_true, Bool.and_eq_true, decide_eq_true_eq] at h2
    exact h2

theorem cK_draw {P : Program} {pk : Pk} {id : Nat} {ops : Array Oper} {Q : Exit → St → Prop} {σ : St} (hm : P.follows .mixedOrders = true) (hok : drawOk ops = true)
    (h : opsD P ops ops.toList σ fun σ' => Q .normal σ') : CodeW P pk (.region id ops true) Q σ := by
  intro g0 a w s
  obtain ⟨vs, hst, hK⟩ := opsD_ex _ _ h
  obtain ⟨hlen, hat⟩ := steps_at hst
  obtain ⟨hA, hB, hC⟩ := drawOk_spec hok
  have hop : ∀ i : Nat, ops.toList[i]? = ops[i]? := fun i => by simp
  let envOf : Array Bool → Nat → PV := fun listed t => match (List.range ops.size).find? (fun j => listed.getD j false && ((ops[j]?).bind (·.dst)) == some t) with
    | some j => (vs[j]?).getD (.s (.c .any))
    | none => σ.get t
  have env1 : ∀ (listed : Array Bool) (t j : Nat) (oj : Oper) (v : PV), ops[j]? = some oj → oj.dst = some t → listed.getD j false = true → vs[j]? = some v → envOf listed t = v := by
    intro listed t j oj v hj hd hl hv
    have hjm : j ∈ List.range ops.size := List.mem_range.2 (Array.getElem?_eq_some_iff.1 hj).1
    simp only [envOf]
    cases hf : (List.range ops.size).find? (fun j => listed.getD j false && ((ops[j]?).bind (·.dst)) == some t) with
    | none =>
      have := List.find?_eq_none.1 hf j hjm
      simp [hl, hj, hd] at this
    | some k =>
      have hk := List.find?_some hf
      simp only [Bool.and_eq_true, beq_iff_eq] at hk
      cases hok' : ops[k]? with
      | none => simp [hok'] at hk
      | some ok =>
        simp [hok'] at hk
        have := hB k j ok oj t hok' hj hk.2 hd
        subst this
        simp [hv]
  have env0 : ∀ (listed : Array Bool) (t : Nat), (∀ (j : Nat) (oj : Oper), ops[j]? = some oj → oj.dst = some t → listed.getD j false = false) → envOf listed t = σ.get t := by
    intro listed t hn
    simp only [envOf]
    cases hf : (List.range ops.size).find? (fun j => listed.getD j false && ((ops[j]?).bind (·.dst)) == some t) with
    | none => rfl
    | some k =>
      have hk := List.find?_some hf
      simp only [Bool.and_eq_true, beq_iff_eq] at hk
      cases hok' : ops[k]? with
      | none => simp [hok'] at hk
      | some ok =>
        simp [hok'] at hk
        simp [show listed[k]?.getD false = false by simpa using hn k ok hok' hk.2] at hk
  -- the slots that an operation looks at hold what they hold in the order of the text
  have agree : ∀ (listed : Array Bool) (i : Nat) (o : Oper), ops[i]? = some o → listed.getD i false = false → (∀ e ∈ o.after, Region.binds .any e = true → listed.getD e.on false = true) →
      (∀ (j : Nat) (oj : Oper), ops[j]? = some oj → listed.getD j false = true → ∀ e ∈ oj.after, Region.binds .any e = true → listed.getD e.on false = true) →
      ∀ t ∈ o.looksAt ops, t < σ.n → envOf listed t = (stAt σ ops.toList vs i).get t := by
    intro listed i o hi hun haft hcl t ht htn
    have hu : ∀ (p q : Nat) (oi oj : Oper), (ops.toList.take i)[p]? = some oi → (ops.toList.take i)[q]? = some oj → oi.dst = some t → oj.dst = some t → p = q := fun p q oi oj h1 h2 h3 h4 => by
      rw [List.getElem?_take] at h1 h2
      split at h1
      · split at h2
        · exact hB p q oi oj t (by rw [← hop]; exact h1) (by rw [← hop]; exact h2) h3 h4
        · cases h2
      · cases h1
    obtain ⟨g1, g2⟩ := get_puts (σ := σ) (t := t) (l := ops.toList.take i) (vs := vs.take i) (by simp only [List.length_take, hlen]) hu
    by_cases hex : ∃ (j : Nat) (oj : Oper), ops[j]? = some oj ∧ oj.dst = some t
    · obtain ⟨j, oj, hj, hd⟩ := hex
      obtain ⟨hne, hcase⟩ := hC i o t hi ht j oj hj hd
      rcases hcase with ⟨hlt, haf⟩ | ⟨hlt, haf⟩
      · have hlj : listed.getD j false = true := by
          unfold afterOn at haf
          obtain ⟨e, he', hbe⟩ := List.any_eq_true.1 haf
          have he : e ∈ o.after := by simpa using he'
          simp only [Bool.and_eq_true, beq_iff_eq] at hbe
          rw [← hbe.2]
          exact haft e he hbe.1
        obtain ⟨v, hv, _⟩ := hat j oj (by rw [hop]; exact hj)
        rw [env1 listed t j oj v hj hd hlj hv]
        exact (g1 j oj v (by rw [List.getElem?_take, if_pos hlt, hop]; exact hj) (by rw [List.getElem?_take, if_pos hlt]; exact hv) hd htn).symm
      · rw [env0 listed t fun k ok hk' hdk => ?_]
        · refine (g2 fun k ok h1 h2 => ?_).symm
          rw [List.getElem?_take] at h1
          split at h1
          · have := hB k j ok oj t (by rw [← hop]; exact h1) hj h2 hd
            omega
          · cases h1
        · have := hB k j ok oj t hk' hj hdk hd
          subst this
          cases hl : listed.getD k false with
          | false => rfl
          | true =>
            unfold afterOn at haf
            obtain ⟨e, he', hbe⟩ := List.any_eq_true.1 haf
            have he : e ∈ oj.after := by simpa using he'
            simp only [Bool.and_eq_true, beq_iff_eq] at hbe
            have := hcl k oj hj hl e he hbe.1
            rw [hbe.2, hun] at this
            cases this
    · rw [env0 listed t fun k ok hk' hdk => absurd ⟨k, ok, hk', hdk⟩ hex]
      refine (g2 fun k ok h1 h2 => ?_).symm
      rw [List.getElem?_take] at h1
      split at h1
      · exact hex ⟨k, ok, by rw [← hop]; exact h1, h2⟩
      · cases h1
  -- at the end: the state of the text's order
  have fin : ∀ (listed : Array Bool) (a' : Act) (w' : World) (g' : Gh), g'.w = w' → (∀ j, j < ops.size → listed.getD j false = true) → a'.defers = [] → a'.tmps.size = σ.n → HeapOk g0 pk g' σ.h → WfG g' σ.h →
      (∀ t, t < σ.n → RepPV g' σ.h (envOf listed t) (a'.tmps.getD t undef)) → lift g0 pk Q .normal a' w' := by
    intro listed a' w' g' hw' hall hd hs hk hwf henv
    obtain ⟨p1, p2⟩ := puts_h σ ops.toList vs
    refine ⟨puts σ ops.toList vs, ⟨g', hw', hd, by rw [p2]; exact hs, by rw [p1]; exact hk, by rw [p1]; exact hwf, fun t ht => ?_⟩, hK⟩
    rw [p2] at ht
    rw [p1]
    have hget : (puts σ ops.toList vs).get t = envOf listed t := by
      obtain ⟨g1, g2⟩ := get_puts (σ := σ) (t := t) (l := ops.toList) (vs := vs) hlen (fun p q oi oj h1 h2 h3 h4 => hB p q oi oj t (by rw [← hop]; exact h1) (by rw [← hop]; exact h2) h3 h4)
      by_cases hex : ∃ (j : Nat) (oj : Oper), ops[j]? = some oj ∧ oj.dst = some t
      · obtain ⟨j, oj, hj, hdj⟩ := hex
        obtain ⟨v, hv, _⟩ := hat j oj (by rw [hop]; exact hj)
        rw [g1 j oj v (by rw [hop]; exact hj) hv hdj ht, env1 listed t j oj v hj hdj (hall j (Array.getElem?_eq_some_iff.1 hj).1) hv]
      · rw [g2 fun k ok h1 h2 => hex ⟨k, ok, by rw [← hop]; exact h1, h2⟩, env0 listed t fun k ok hk' hdk => absurd ⟨k, ok, hk', hdk⟩ hex]
    rw [hget]
    exact henv t ht
  have allListed : ∀ listed : Array Bool, Region.ready .any ops listed = [] → ∀ j, j < ops.size → listed.getD j true = true := by
    intro listed hr j
    induction j using Nat.strongRecOn with
    | _ j ih =>
      intro hj
      cases hl : listed.getD j true with
      | true => rfl
      | false =>
        have hmem : j ∈ Region.ready .any ops listed := mem_ready.2 ⟨hl, ops[j], Array.getElem?_eq_getElem hj, fun e he hb => by
          have hlt := hA j ops[j] (Array.getElem?_eq_getElem hj) e he hb
          have h1 := ih e.on hlt (by omega)
          rcases Nat.lt_or_ge e.on listed.size with h2 | h2
          · simpa [h2] using h1
          · exfalso
            have : listed.getD j true = true := by simp [Array.getElem?_eq_none (show listed.size ≤ j by omega)]
            rw [this] at hl
            cases hl⟩
        rw [hr] at hmem
        cases hmem
  have main : ∀ (fuel : Nat) (listed : Array Bool) (a' : Act) (g' : Gh), listed.size = ops.size → ((List.range ops.size).filter fun j => !listed.getD j true).length ≤ fuel →
      (∀ (j : Nat) (oj : Oper), ops[j]? = some oj → listed.getD j false = true → ∀ e ∈ oj.after, Region.binds .any e = true → listed.getD e.on false = true) →
      a'.defers = [] → a'.tmps.size = σ.n → HeapOk g0 pk g' σ.h → WfG g' σ.h → (∀ t, t < σ.n → RepPV g' σ.h (envOf listed t) (a'.tmps.getD t undef)) →
      wpAny P .any ops (lift g0 pk Q) fuel listed a' g'.w := by
    intro fuel
    have conv : ∀ (listed : Array Bool), listed.size = ops.size → ∀ j, j < ops.size → listed.getD j true = true → listed.getD j false = true := fun listed hs j hj h => by
      have : j < listed.size := by omega
      simpa [this] using h
    induction fuel with
    | zero =>
      intro listed a' g' hs hfu hcl hd hsz hk hwf henv
      have hnil : (List.range ops.size).filter (fun j => !listed.getD j true) = [] := List.eq_nil_of_length_eq_zero (Nat.le_zero.1 hfu)
      have hall : ∀ j, j < ops.size → listed.getD j true = true := fun j hj => by
        have := List.filter_eq_nil_iff.1 hnil j (List.mem_range.2 hj)
        simpa using this
      refine ⟨?_, fin listed a' g'.w g' rfl (fun j hj => conv listed hs j hj (hall j hj)) hd hsz hk hwf henv⟩
      cases hr : Region.ready .any ops listed with
      | nil => rfl
      | cons x r =>
        have hx : x ∈ Region.ready .any ops listed := by rw [hr]; simp
        obtain ⟨h1, o, ho, _⟩ := mem_ready.1 hx
        rw [hall x (Array.getElem?_eq_some_iff.1 ho).1] at h1
        cases h1
    | succ fuel ih =>
      intro listed a' g' hs hfu hcl hd hsz hk hwf henv
      refine ⟨fun hr => fin listed a' g'.w g' rfl (fun j hj => conv listed hs j hj (allListed listed hr j hj)) hd hsz hk hwf henv, fun i hi => ?_⟩
      obtain ⟨hun, o, ho, haft⟩ := mem_ready.1 hi
      have hilt : i < ops.size := (Array.getElem?_eq_some_iff.1 ho).1
      have hun' : listed.getD i false = false := by
        have : i < listed.size := by omega
        simpa [this] using hun
      obtain ⟨v, hv, hstep⟩ := hat i o (by rw [hop]; exact ho)
      have hag := agree listed i o ho hun' haft hcl
      obtain ⟨q1, q2⟩ := puts_h σ (ops.toList.take i) (vs.take i)
      have hsth : (stAt σ ops.toList vs i).h = σ.h := q1
      have hstn : (stAt σ ops.toList vs i).n = σ.n := q2
      -- what follows
      have next : ∀ (g2 : Gh) (u : Value), HeapOk g0 pk g2 σ.h → Ext g' σ.h g2 σ.h → RepPV g2 σ.h v u → wpAny P .any ops (lift g0 pk Q) fuel (listed.setIfInBounds i true) (a'.put o.dst u) g2.w := by
        intro g2 u hk2 he2 hr2
        refine ih (listed.setIfInBounds i true) (a'.put o.dst u) g2 (by simpa using hs) ?_ ?_ (by cases o.dst <;> exact hd) (by cases o.dst <;> simpa [Act.put] using hsz) hk2 (hwf.ext he2) fun t ht => ?_
        · have hlt : ((List.range ops.size).filter fun j => !(listed.setIfInBounds i true).getD j true).length < ((List.range ops.size).filter fun j => !listed.getD j true).length := by
            have e : (List.range ops.size).filter (fun j => !(listed.setIfInBounds i true).getD j true) = ((List.range ops.size).filter fun j => !listed.getD j true).filter fun j => decide (j ≠ i) := by
              rw [List.filter_filter]
              apply List.filter_congr
              intro j hj
              by_cases hji : j = i
              · subst hji
                have : j < listed.size := by omega
                simp [this]
              · rw [getD_set_ne true (Ne.symm hji)]
                simp [hji]
            rw [e]
            exact List.length_filter_lt_length_iff_exists.2 ⟨i, List.mem_filter.2 ⟨List.mem_range.2 hilt, by simp [hun]⟩, by simp⟩
          omega
        · intro j oj hj hl e he hb
          by_cases hji : j = i
          · subst hji
            rw [ho] at hj
            cases hj
            exact getD_set_true (haft e he hb)
          · rw [getD_set_ne false (Ne.symm hji)] at hl
            exact getD_set_true (hcl j oj hj hl e he hb)
        · by_cases hdt : o.dst = some t
          · have hset : (listed.setIfInBounds i true).getD i false = true := by
              have : i < listed.size := by omega
              simp [this]
            rw [env1 _ t i o v ho hdt hset hv]
            have : (a'.put o.dst u).tmps.getD t undef = u := by
              rw [hdt]
              have : t < a'.tmps.size := by omega
              simp [Act.put, this]
            rw [this]
            exact hr2
          · have h1 : (a'.put o.dst u).tmps.getD t undef = a'.tmps.getD t undef := by
              cases hod : o.dst with
              | none => rfl
              | some d =>
                have hne : ¬ d = t := fun e => hdt (by rw [hod, e])
                simp [Act.put, Array.getElem?_setIfInBounds_ne hne]
            have h2 : envOf (listed.setIfInBounds i true) t = envOf listed t := by
              by_cases hex : ∃ (j : Nat) (oj : Oper), ops[j]? = some oj ∧ oj.dst = some t ∧ listed.getD j false = true
              · obtain ⟨j, oj, hj, hdj, hl⟩ := hex
                obtain ⟨vj, hvj, _⟩ := hat j oj (by rw [hop]; exact hj)
                rw [env1 listed t j oj vj hj hdj hl hvj, env1 _ t j oj vj hj hdj (getD_set_true hl) hvj]
              · rw [env0 listed t fun k ok hk' hdk => by
                    cases hl : listed.getD k false with
                    | false => rfl
                    | true => exact absurd ⟨k, ok, hk', hdk, hl⟩ hex,
                  env0 _ t fun k ok hk' hdk => by
                    have hki : k ≠ i := fun e => by subst e; rw [ho] at hk'; cases hk'; exact hdt hdk
                    rw [getD_set_ne false (Ne.symm hki)]
                    cases hl : listed.getD k false with
                    | false => rfl
                    | true => exact absurd ⟨k, ok, hk', hdk, hl⟩ hex]
            rw [h1, h2]
            exact (henv t ht).ext he2
      -- the slots that are looked at
      have looked : ∀ x ∈ o.op.operands, RepPV g' σ.h ((stAt σ ops.toList vs i).ev x) (a'.eval x) := by
        intro x hx
        cases x with
        | tmp t =>
          by_cases ht : t < σ.n
          · have hl : t ∈ o.looksAt ops := List.mem_append_left _ (List.mem_filterMap.2 ⟨.tmp t, by simpa using hx, rfl⟩)
            simp only [St.ev]
            rw [← hag t hl ht]
            exact henv t ht
          · have : (stAt σ ops.toList vs i).ev (.tmp t) = .s (.c .any) := by simp [St.ev, St.get, hstn, ht]
            rw [this]
            trivial
        | const c => cases c <;> simp only [St.ev, constPV, Act.eval] <;> first | rfl | exact ⟨_, rfl, All2.of_v _⟩
        | global g => rfl
        | func f => rfl
      have guardv : ∀ j want, o.guard = some (j, want) → (∀ t, gv ops (stAt σ ops.toList vs i) j = vB t → yielded ops a'.tmps j = some t) ∧ (∀ us, gv ops (stAt σ ops.toList vs i) j = vV (.tuple us) → yielded ops a'.tmps j = none) := by
        intro j want hg
        unfold gv yielded
        cases hdj : (ops[j]?).bind (·.dst) with
        | none => exact ⟨fun t h => by simp at h, fun us h => by simp at h⟩
        | some d =>
          simp only [Option.bind_some]
          by_cases hlt : d < σ.n
          · have hl : d ∈ o.looksAt ops := List.mem_append_right _ (by simp [hg, hdj])
            have hr := henv d hlt
            rw [hag d hl hlt] at hr
            have he : a'.tmps[d]? = some (a'.tmps.getD d undef) := by
              have : d < a'.tmps.size := by rw [hsz]; exact hlt
              simp [this, Array.getD]
            rw [he]
            refine ⟨fun t h => ?_, fun us h => ?_⟩
            · rw [h] at hr
              simp only [RepPV, RepV1, RepC] at hr
              rw [hr]
            · rw [h] at hr
              simp only [RepPV, RepV1, RepC] at hr
              rw [hr]
          · have : (stAt σ ops.toList vs i).get d = .s (.c .any) := by simp [St.get, hstn, hlt]
            rw [this]
            exact ⟨fun t h => by simp at h, fun us h => by simp at h⟩
      have run : DYields P (stAt σ ops.toList vs i).h (stAt σ ops.toList vs i).ev o v → o.wp P a' g'.w (wpAny P .any ops (lift g0 pk Q) fuel (listed.setIfInBounds i true)) (lift g0 pk Q) := fun hy => by
        rw [hsth] at hy
        exact hy g0 pk g' a' hk hwf looked _ _ fun g2 u hk2 he2 hr2 => next g2 u hk2 he2 hr2
      have skip : v = uV → wpAny P .any ops (lift g0 pk Q) fuel (listed.setIfInBounds i true) (a'.put o.dst undef) g'.w := fun hvu => by
        subst hvu
        exact next g' undef hk (Ext.refl _ _) rfl
      unfold wpOp
      simp only [ho]
      unfold StepAt at hstep
      cases hg : o.guard with
      | none =>
        simp only [hg] at hstep
        rw [if_pos (by simp [Region.wanted, hg])]
        exact .inl (run hstep)
      | some jw =>
        obtain ⟨j, want⟩ := jw
        simp only [hg] at hstep
        obtain ⟨hy1, hy2⟩ := guardv j want hg
        rcases hstep with ⟨t, hgv, ⟨ht, hd'⟩ | ⟨ht, hvu⟩⟩ | ⟨us, hgv, hvu⟩
        · rw [if_pos (by simp [Region.wanted, hg, hy1 t hgv, ht])]
          exact .inl (run hd')
        · rw [if_neg (by simp [Region.wanted, hg, hy1 t hgv, ht])]
          exact skip hvu
        · rw [if_neg (by simp [Region.wanted, hg, hy2 us hgv])]
          exact skip hvu
  obtain ⟨g, rfl, s⟩ := s
  refine wp_region_any hm ?_
  have hst2 := s.heap.step g.w.drew g.V rfl rfl rfl (Nat.le_refl _) (fun _ _ => rfl) (fun _ _ h => h) (fun _ _ _ h => h) (fun b o hv => s.heap.vin b o hv)
  have hrep : ∀ j : Nat, (Array.replicate ops.size false).getD j false = false := fun j => by
    by_cases hj : j < ops.size
    · simp [hj]
    · simp [Array.getElem?_eq_none (show (Array.replicate ops.size false).size ≤ j by simp; omega)]
  refine main ops.size (Array.replicate ops.size false) a { g with w := g.w.drew } (by simp) (Nat.le_trans (List.length_filter_le _ _) (by simp)) (fun j oj hj hl => by rw [hrep j] at hl; cases hl) s.defers s.size hst2.1 ⟨s.wf.ov, s.wf.nd⟩ fun t ht => ?_
  rw [env0 _ t fun k ok _ _ => hrep k]
  exact (s.env t ht).ext hst2.2

end Go.PL
