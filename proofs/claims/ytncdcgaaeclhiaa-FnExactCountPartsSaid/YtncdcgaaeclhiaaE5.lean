/-
  Struct literals and calls; every operation of the class that changes no box and no own list is sound.
-/
import Derived.Test.YtncdcgaaeclhiaaE4
namespace Go.PL
set_option linter.unusedSimpArgs false
set_option linter.unusedVariables false

theorem isCell_one {g : Gh} {g0 : Gh} {pk : Pk} {h : Hp} {x : C} {u : Value} (hx : isCell x = true) (hr : RepC g h x u) (hov : ∀ id lo, (id, lo) ∈ h.lists → (g.ov id).oneCell' = true) : u.oneCell' = true := by
  cases x with
  | v x => simp only [RepC] at hr; subst hr; exact hx
  | l sz xs => obtain ⟨a, cap, rfl, _⟩ := hr; rfl
  | o id => obtain ⟨⟨lo, hm⟩, rfl⟩ := hr; exact hov id lo hm
  | p id off => obtain ⟨_, rfl⟩ := hr; rfl
  | q cs => obtain ⟨b, off, rfl, _⟩ := hr; rfl
  | e id sz idx off => obtain ⟨_, b, n, cap, _, rfl⟩ := hr; rfl
  | any => cases hx
theorem cells_of_one {u : Value} (h : u.oneCell' = true) : u.cells = #[u] := by
  cases u <;> first | rfl | (simp [Value.oneCell'] at h)

theorem cells1_rep {g : Gh} {h : Hp} {y : V1} {vs : List C} {u : Value} (hov : OvOk g h) (hc : cells1 y = some vs) (hr : RepV1 g h y u) :
    All2 (RepC g h) vs u.cells.toList ∧ ∀ c ∈ u.cells.toList, c.oneCell' = true := by
  cases y with
  | c x =>
    simp only [cells1] at hc
    split at hc
    · rename_i hx
      simp at hc
      subst hc
      have h1 := isCell_one (g0 := g) (pk := ⟨[], []⟩) hx hr hov
      rw [cells_of_one h1]
      exact ⟨⟨hr, trivial⟩, by simpa using h1⟩
    · cases hc
  | a xs =>
    simp only [cells1] at hc
    split at hc
    · rename_i hx
      simp at hc
      subst hc
      obtain ⟨cs, rfl, h2⟩ := hr
      refine ⟨h2, ?_⟩
      have hall : ∀ x ∈ xs, isCell x = true := by simpa using hx
      clear hx
      show ∀ c ∈ cs.toList, c.oneCell' = true
      generalize cs.toList = l at h2
      induction xs generalizing l with
      | nil => cases l with
        | nil => simp
        | cons => exact h2.elim
      | cons x xs ih => cases l with
        | nil => exact h2.elim
        | cons c l =>
          intro d hd
          rcases List.mem_cons.1 hd with rfl | hd
          · exact isCell_one (g0 := g) (pk := ⟨[], []⟩) (hall x (by simp)) h2.1 hov
          · exact ih (fun y hy => hall y (by simp [hy])) l h2.2 d hd
    · cases hc

theorem setAll_rep {g : Gh} {h : Hp} : ∀ (l : List Value) (vs : List C) (k off : Nat) (cs : List C) (arr : Array Value), All2 (RepC g h) vs l → All2 (RepC g h) cs arr.toList →
    All2 (RepC g h) (setAll cs (off + k) vs) ((l.zipIdx k).foldl (fun cs (x : Value × Nat) => cs.setIfInBounds (off + x.2) x.1) arr).toList
  | [], [], k, off, cs, arr, _, h2 => by simpa [setAll] using h2
  | u :: l, v :: vs, k, off, cs, arr, ⟨h1, hr⟩, h2 => by
    simp only [setAll, List.zipIdx_cons, List.foldl_cons]
    have := setAll_rep l vs (k + 1) off (cs.set (off + k) v) (arr.setIfInBounds (off + k) u) hr (by simpa using h2.set (off + k) v u h1)
    rw [Nat.add_assoc]
    exact this
  | [], _ :: _, _, _, _, _, h, _ => h.elim
  | _ :: _, [], _, _, _, _, h, _ => h.elim

theorem setAll_length : ∀ (vs : List C) (cs : List C) (off : Nat), (setAll cs off vs).length = cs.length
  | [], _, _ => rfl
  | _ :: vs, cs, off => by simp [setAll, setAll_length vs]

theorem fill_rep {g : Gh} {h : Hp} (hov : OvOk g h) (places : List (Nat × Nat)) (ρ : Operand → PV) (a : Operand → Value) : ∀ (parts : List (Nat × Operand)) (cells : List C) (arr : Array Value) (cs : List C),
    (∀ p ∈ parts, RepPV g h (ρ p.2) (a p.2)) → All2 (RepC g h) cells arr.toList → fillA places cells (partsOf ρ parts) = some cs →
    ∃ arr', Instr.fill (fun i => places.toArray[i]?) arr (parts.map fun p => (p.1, a p.2)) = some arr' ∧ All2 (RepC g h) cs arr'.toList
  | [], cells, arr, cs, _, h2, hf => by
    simp [partsOf, fillA] at hf
    subst hf
    exact ⟨arr, rfl, h2⟩
  | (i, x) :: parts, cells, arr, cs, hρ, h2, hf => by
    simp only [partsOf] at hf
    have hx := hρ (i, x) (by simp)
    simp only at hx
    cases hy : ρ x with
    | t xs => simp [hy, fillA] at hf
    | s y =>
      rw [hy] at hx
      simp only [hy] at hf
      cases hc : cells1 y with
      | none => simp [hc, fillA] at hf
      | some vs =>
        simp only [hc, fillA] at hf
        cases hp : places[i]? with
        | none => simp [hp] at hf
        | some pl =>
          obtain ⟨off, size⟩ := pl
          simp only [hp] at hf
          split at hf
          · rename_i hcond
            obtain ⟨h3, h4⟩ := cells1_rep hov hc hx
            have hl := h3.length
            have hl2 := h2.length
            simp only [Array.length_toList] at hl hl2
            have hnew := setAll_rep (g := g) (h := h) (a x).cells.toList vs 0 off cells arr h3 h2
            rw [Nat.add_zero] at hnew
            obtain ⟨arr', h5, h6⟩ := fill_rep hov places ρ a parts _ _ cs (fun p hp => hρ p (by simp [hp])) hnew hf
            refine ⟨arr', ?_, h6⟩
            have hpl : places.toArray[i]? = some (off, size) := by simpa using hp
            simp only [List.map_cons, Instr.fill, hpl]
            rw [if_neg (by simp; omega)]
            have e : (a x).cells.zipIdx.foldl (fun cs x => cs.setIfInBounds (off + x.2) x.1) arr = ((a x).cells.toList.zipIdx 0).foldl (fun cs (x : Value × Nat) => cs.setIfInBounds (off + x.2) x.1) arr := by
              rw [← Array.foldl_toList, Array.toList_zipIdx]
            rw [e]
            exact h5
          · cases hf

theorem build_run {P : Program} {h : Hp} {t : TypeId} {zp : List Value × List (Nat × Nat)} {ρ : Operand → PV} {parts : Array (Nat × Operand)} {cs : List C}
    (hs : structP P t = some zp) (hf : fillA zp.2 (zp.1.map .v) (partsOf ρ parts.toList) = some cs) {g : Gh} (hov : OvOk g h) (a : Operand → Value)
    (hρ : ∀ p ∈ parts.toList, RepPV g h (ρ p.2) (a p.2)) : ∃ v, (Instr.build t (parts.map fun p => (p.1, a p.2))).run P g.w = .ok v g.w ∧ RepPV g h (.s (.a cs)) v := by
  unfold structP at hs
  split at hs
  · rename_i it fields hit hu
    split at hs
    · rename_i z places hz hp
      simp at hs
      subst hs
      obtain ⟨arr', h1, h2⟩ := fill_rep hov places ρ a parts.toList (z.cells.toList.map .v) z.cells cs hρ (All2.of_v _) hf
      refine ⟨.agg arr', run_build g.w t _ arr' ?_, arr', rfl, h2⟩
      unfold Program.built
      simp only [hit, hu, hz, hp, Array.toList_map]
      exact h1
    · cases hs
  · cases hs

theorem all2_args {g : Gh} {h : Hp} {ρ : Operand → PV} {a : Operand → Value} : ∀ (l : List Operand), (∀ x ∈ l, RepPV g h (ρ x) (a x)) → All2 (RepPV g h) (l.map ρ) (l.map a)
  | [], _ => trivial
  | x :: l, hx => ⟨hx x (by simp), all2_args l fun y hy => hx y (by simp [hy])⟩

theorem call_exec {P : Program} {f : FuncId} (hf : ∃ fn, P.funcs[f]? = some fn ∧ (fn.name == "runtime.NumGoroutine") = false ∧ fn.body.isNone = false) (ρ : Operand → Value) (o : Oper) (c : Call)
    (ho : o.op = .call c) (hc : c.callee = .value (.func f)) (hρ : ρ (.func f) = .func (.func f) #[] #[]) (w : World) : (execOp ρ o).run P w = .ok (.enter f (c.args.map ρ)) w := by
  obtain ⟨fn, h1, h2, h3⟩ := hf
  have h2' : ¬ fn.name = "runtime.NumGoroutine" := by simpa using h2
  have h3' : ¬ fn.body = none := by intro e; simp [e] at h3
  simp [execOp, ho, resolve, hc, hρ, Deferred.ofValue, invoke, callFunc, h1, h2', h3']

theorem opA_sound {P : Program} {h : Hp} {ρ : Operand → PV} {o : Oper} {K : PV → Prop} (hfu : ∀ f, ρ (.func f) = vV (.func (.func f) #[] #[])) (hc : opA P h ρ o.op K) :
    ∃ pv, K pv ∧ ∀ g0 pk g (a : Act), HeapOk g0 pk g h → WfG g h → (∀ x ∈ o.op.operands, RepPV g h (ρ x) (a.eval x)) →
    ∀ (next : Act → World → Prop) (Q : Exit → Act → World → Prop),
      (∀ g' v, HeapOk g0 pk g' h → Ext g h g' h → RepPV g' h pv v → next (a.put o.dst v) g'.w) → o.wp P a g.w next Q := by
  have val : ∀ pv, K pv → (∀ g0 pk g (a : Act), HeapOk g0 pk g h → WfG g h → (∀ x ∈ o.op.operands, RepPV g h (ρ x) (a.eval x)) → ∃ v, (execOp a.eval o).run P g.w = .ok (.value v) g.w ∧ RepPV g h pv v) →
      ∃ pv, K pv ∧ ∀ g0 pk g (a : Act), HeapOk g0 pk g h → WfG g h → (∀ x ∈ o.op.operands, RepPV g h (ρ x) (a.eval x)) →
        ∀ (next : Act → World → Prop) (Q : Exit → Act → World → Prop),
        (∀ g' v, HeapOk g0 pk g' h → Ext g h g' h → RepPV g' h pv v → next (a.put o.dst v) g'.w) → o.wp P a g.w next Q := by
    intro pv hK hr
    refine ⟨pv, hK, fun g0 pk g a hk hov hρ next Q hn => ?_⟩
    obtain ⟨v, h1, h2⟩ := hr g0 pk g a hk hov hρ
    unfold Oper.wp
    rw [h1]
    exact hn g v hk (Ext.refl g h) h2
  obtain ⟨dst, op, type, pos, after, guard⟩ := o
  cases op <;> simp only [opA] at hc <;> try exact hc.elim
  case move x => exact val _ hc fun g0 pk g a hk hov hρ => ⟨a.eval x, by simp [execOp], hρ x (by simp [Op.operands])⟩
  case assign x => exact val _ hc fun g0 pk g a hk hov hρ => ⟨a.eval x, by simp [execOp], hρ x (by simp [Op.operands])⟩
  case pick c x y =>
    obtain ⟨cc, hcc, hc⟩ := c1K_ex hc
    unfold pickK at hc
    split at hc
    · rename_i t
      cases t with
      | true =>
        refine val _ (hc.1 rfl) fun g0 pk g a hk hov hρ => ⟨a.eval x, ?_, hρ x (by simp [Op.operands])⟩
        have := hρ c (by simp [Op.operands])
        rw [hcc] at this
        simp only [RepPV, RepV1, RepC] at this
        simp [execOp, this, asBool]
      | false =>
        refine val _ (hc.2 rfl) fun g0 pk g a hk hov hρ => ⟨a.eval y, ?_, hρ y (by simp [Op.operands])⟩
        have := hρ c (by simp [Op.operands])
        rw [hcc] at this
        simp only [RepPV, RepV1, RepC] at this
        simp [execOp, this, asBool]
    · exact hc.elim
  case binOp op t x y yt =>
    obtain ⟨vx, hx, hc⟩ := v1K_ex hc
    obtain ⟨vy, hy, hc⟩ := v1K_ex hc
    obtain ⟨v, hK, hr⟩ := binV_sound hc
    refine val _ hK fun g0 pk g a hk hov hρ => ⟨v, ?_, rfl⟩
    have h1 := hρ x (by simp [Op.operands])
    have h2 := hρ y (by simp [Op.operands])
    rw [hx] at h1
    rw [hy] at h2
    have := hr g h (a.eval x) (a.eval y) x y h1 h2
    simp only [execOp, Sem.run_bind] at this ⊢
    rw [this]
    rfl
  case unOp op t x =>
    obtain ⟨vx, hx, hc⟩ := c1K_ex hc
    obtain ⟨pv, hK, hr⟩ := unC_run (P := P) hc
    refine val _ hK fun g0 pk g a hk hov hρ => ?_
    have h1 := hρ x (by simp [Op.operands])
    rw [hx] at h1
    obtain ⟨v, h2, h3⟩ := hr g h _ h1
    exact ⟨v, by simp [execOp, h2], h3⟩
  case convert s d x =>
    obtain ⟨vx, hx, hc⟩ := c1K_ex hc
    obtain ⟨pv, hK, hr⟩ := convD_run (P := P) hc
    refine val _ hK fun g0 pk g a hk hov hρ => ?_
    have h1 := hρ x (by simp [Op.operands])
    rw [hx] at h1
    obtain ⟨v, h2, h3⟩ := hr g0 pk g _ hk h1
    exact ⟨v, by simp [execOp, h2], h3⟩
  case load t x =>
    obtain ⟨vx, hx, hc⟩ := c1K_ex hc
    obtain ⟨n, hn, hc⟩ := optK_ex hc
    obtain ⟨pv, hK, hr⟩ := loadP_run (P := P) hn hc
    refine val _ hK fun g0 pk g a hk hov hρ => ?_
    have h1 := hρ x (by simp [Op.operands])
    rw [hx] at h1
    obtain ⟨v, h2, h3⟩ := hr g0 pk g _ hk h1
    exact ⟨v, by simp [execOp, h2], h3⟩
  case fieldAddr t x f =>
    obtain ⟨vx, hx, hc⟩ := c1K_ex hc
    obtain ⟨n, hn, hc⟩ := optK_ex hc
    obtain ⟨pv, hK, hr⟩ := fieldP_run (P := P) hn hc
    refine val _ hK fun g0 pk g a hk hov hρ => ?_
    have h1 := hρ x (by simp [Op.operands])
    rw [hx] at h1
    obtain ⟨v, h2, h3⟩ := hr g _ h1
    exact ⟨v, by simp [execOp, h2], h3⟩
  case field t x f =>
    obtain ⟨vx, hx, hc⟩ := v1K_ex hc
    obtain ⟨n, hn, hc⟩ := optK_ex hc
    obtain ⟨pv, hK, hr⟩ := fieldV_run (P := P) hn hc
    refine val _ hK fun g0 pk g a hk hov hρ => ?_
    have h1 := hρ x (by simp [Op.operands])
    rw [hx] at h1
    obtain ⟨v, h2, h3⟩ := hr g _ h1
    exact ⟨v, by simp [execOp, h2], h3⟩
  case indexAddr t x i =>
    obtain ⟨vx, hx, hc⟩ := c1K_ex hc
    obtain ⟨vi, hi, hc⟩ := c1K_ex hc
    obtain ⟨n, hn, hc⟩ := optK_ex hc
    obtain ⟨pv, hK, hr⟩ := indexP_run (P := P) hn hc
    refine val _ hK fun g0 pk g a hk hov hρ => ?_
    have h1 := hρ x (by simp [Op.operands])
    have h1' := hρ i (by simp [Op.operands])
    rw [hx] at h1
    rw [hi] at h1'
    obtain ⟨v, h2, h3⟩ := hr g0 pk g _ _ hk h1 h1'
    exact ⟨v, by simp [execOp, h2], h3⟩
  case index t x i =>
    obtain ⟨hu, hc⟩ := hc
    obtain ⟨vx, hx, hc⟩ := c1K_ex hc
    obtain ⟨vi, hi, hc⟩ := c1K_ex hc
    obtain ⟨pv, hK, hr⟩ := indexS_run (P := P) (h := h) hu hc
    refine val _ hK fun g0 pk g a hk hov hρ => ?_
    have h1 := hρ x (by simp [Op.operands])
    have h1' := hρ i (by simp [Op.operands])
    rw [hx] at h1
    rw [hi] at h1'
    obtain ⟨v, h2, h3⟩ := hr g _ _ h1 h1'
    exact ⟨v, by simp [execOp, h2], h3⟩
  case slice t x lo hi mx =>
    obtain ⟨hmx, hc⟩ := hc
    obtain ⟨vx, hx, hc⟩ := c1K_ex hc
    obtain ⟨pv, hK, hr⟩ := sliceD_run (P := P) hc
    refine val _ hK fun g0 pk g a hk hov hρ => ?_
    have h1 := hρ x (by simp [Op.operands])
    rw [hx] at h1
    have hmx' : mx = none := by simpa using hmx
    subst hmx'
    obtain ⟨v, h2, h3⟩ := hr g _ (lo.map a.eval) (hi.map a.eval) h1
      (fun z hz => by
        cases lo with
        | none => simp at hz
        | some l => simp at hz; subst hz; exact ⟨_, rfl, hρ l (by simp [Op.operands])⟩)
      (fun hz => by cases lo <;> simp at hz ⊢)
      (fun z hz => by
        cases hi with
        | none => simp at hz
        | some l => simp at hz; subst hz; exact ⟨_, rfl, hρ l (by cases lo <;> simp [Op.operands])⟩)
      (fun hz => by cases hi <;> simp at hz ⊢)
    exact ⟨v, by simp [execOp, h2], h3⟩
  case extract x i =>
    cases hx : ρ x with
    | s _ => rw [hx] at hc; exact hc.elim
    | t xs =>
      rw [hx] at hc
      obtain ⟨y, hy, hK⟩ := optK_ex hc
      refine val _ hK fun g0 pk g a hk hov hρ => ?_
      have h1 := hρ x (by simp [Op.operands])
      rw [hx] at h1
      obtain ⟨vs, h2, h3⟩ := h1
      obtain ⟨u, hu, hR⟩ := h3.get i y hy
      have hu' : vs[i]? = some u := by simpa using hu
      exact ⟨u, by simp [execOp, h2, Instr.extract, hu'], hR⟩
  case nilCheck x =>
    obtain ⟨vx, hx, hc⟩ := c1K_ex hc
    obtain ⟨pv, hK, hr⟩ := nilK_run (P := P) (h := h) (o := ⟨dst, .nilCheck x, type, pos, after, guard⟩) (X := x) hc rfl
    refine val _ hK fun g0 pk g a hk hov hρ => ?_
    have h1 := hρ x (by simp [Op.operands])
    rw [hx] at h1
    exact hr g a.eval h1
  case build t parts =>
    obtain ⟨zp, hz, hc⟩ := optK_ex hc
    obtain ⟨cs, hcs, hK⟩ := optK_ex hc
    refine val _ hK fun g0 pk g a hk hov hρ => ?_
    obtain ⟨v, h2, h3⟩ := build_run hz hcs hov.ov a.eval (fun p hp => hρ p.2 (by simp only [Op.operands]; simp; exact ⟨p.1, by simpa using hp⟩))
    exact ⟨v, by simp [execOp, h2], h3⟩
  case call c =>
    unfold callA at hc
    split at hc
    · rename_i hce
      split at hc
      · rename_i x t hx ht
        obtain ⟨vx, hvx, hc⟩ := c1K_ex hc
        obtain ⟨pv, hK, hr⟩ := lenK_run (P := P) (ty := type) hc
        refine val _ hK fun g0 pk g a hk hov hρ => ?_
        have hargs : c.args = #[x] := by apply Array.ext'; simpa using hx
        have htys : c.argTypes = #[t] := by apply Array.ext'; simpa using ht
        have h1 := hρ x (by simp [Op.operands, Call.operands, hargs])
        rw [hvx] at h1
        obtain ⟨v, h2, h3⟩ := hr g0 pk g _ hk h1
        exact ⟨v, by simp [execOp, resolve, hce, invoke, builtin, hargs, htys, h2], h3⟩
      · exact hc.elim
    · rename_i hce
      split at hc
      · rename_i x y hx
        obtain ⟨vx, hvx, hc⟩ := c1K_ex hc
        obtain ⟨vy, hvy, hc⟩ := c1K_ex hc
        unfold mmK at hc
        split at hc
        · rename_i k a k' b _
          obtain ⟨rfl, hK⟩ := hc
          refine val _ hK fun g0 pk g ac hk hov hρ => ?_
          have hargs : c.args = #[x, y] := by apply Array.ext'; simpa using hx
          have h1 := hρ x (by simp [Op.operands, Call.operands, hargs])
          have h2 := hρ y (by simp [Op.operands, Call.operands, hargs])
          rw [hvx] at h1
          rw [hvy] at h2
          simp only [RepPV, RepV1, RepC] at h1 h2
          exact ⟨_, by simp [execOp, resolve, hce, invoke, builtin, hargs, h1, h2, Builtin.min_, Builtin.min2], rfl⟩
        · exact hc.elim
      · exact hc.elim
    · rename_i hce
      split at hc
      · rename_i x y hx
        obtain ⟨vx, hvx, hc⟩ := c1K_ex hc
        obtain ⟨vy, hvy, hc⟩ := c1K_ex hc
        unfold mmK at hc
        split at hc
        · rename_i k a k' b _
          obtain ⟨rfl, hK⟩ := hc
          refine val _ hK fun g0 pk g ac hk hov hρ => ?_
          have hargs : c.args = #[x, y] := by apply Array.ext'; simpa using hx
          have h1 := hρ x (by simp [Op.operands, Call.operands, hargs])
          have h2 := hρ y (by simp [Op.operands, Call.operands, hargs])
          rw [hvx] at h1
          rw [hvy] at h2
          simp only [RepPV, RepV1, RepC] at h1 h2
          exact ⟨_, by simp [execOp, resolve, hce, invoke, builtin, hargs, h1, h2, Builtin.max_, Builtin.max2], rfl⟩
        · exact hc.elim
      · exact hc.elim
    · rename_i f hce
      obtain ⟨r, ⟨hf, hcall⟩, hK⟩ := hc
      refine ⟨r, hK, fun g0 pk g a hk hov hρ next Q hn => ?_⟩
      have hfv : a.eval (.func f) = .func (.func f) #[] #[] := rfl
      unfold Oper.wp
      rw [call_exec hf a.eval _ c rfl hce hfv]
      refine (hcall g0 pk g (c.args.map a.eval) hk hov ?_).mono fun e w' he => ?_
      · rw [Array.toList_map]
        exact all2_args _ fun x hx => hρ x (by simp only [Op.operands, Call.operands]; simp; exact .inr (by simpa using hx))
      · obtain ⟨g', v, rfl, rfl, h1, h2, h3⟩ := he
        exact hn g' v h1 h2 h3
    · exact hc.elim

end Go.PL
