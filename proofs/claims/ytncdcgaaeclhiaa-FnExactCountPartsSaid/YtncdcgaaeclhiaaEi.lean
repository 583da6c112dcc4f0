/-
  New boxes that nothing names yet: what runs beside them leaves them alone; they are named later.
-/
import Derived.Test.YtncdcgaaeclhiaaEd
namespace Go.PL
open Go.RowKit
set_option linter.unusedSimpArgs false
set_option linter.unusedVariables false

def EYields (P : Program) (h : Hp) (ρ : Operand → PV) (o : Oper) (pv : PV) (h' : Hp) : Prop :=
  ∀ g0 pk g (a : Act), HeapOk g0 pk g h → WfG g h → (∀ x ∈ o.op.operands, RepPV g h (ρ x) (a.eval x)) →
    ∀ (next : Act → World → Prop) (Q : Exit → Act → World → Prop),
      (∀ g' v, HeapOk g0 pk g' h' → WfG g' h' → Ext g h g' h' → RepPV g' h' pv v → next (a.put o.dst v) g'.w) → o.wp P a g.w next Q
theorem DYields.toE {P : Program} {h : Hp} {ρ : Operand → PV} {o : Oper} {pv : PV} (hD : DYields P h ρ o pv) : EYields P h ρ o pv h :=
  fun g0 pk g a hk wf hρ next Q hn => hD g0 pk g a hk wf hρ next Q fun g' v hk' he hr => hn g' v hk' (wf.ext he) he hr

/-- all that is there, taken as handed in -/
def pkAll (h : Hp) : Pk := ⟨h.boxes.map Prod.fst, (h.lists.filter fun x => x.2.live).map Prod.fst⟩
theorem pkAll_b {h : Hp} {id : Nat} : id ∈ (pkAll h).bs ↔ ∃ cs, (id, cs) ∈ h.boxes := by
  simp [pkAll]
theorem pkAll_l {h : Hp} {id : Nat} : id ∈ (pkAll h).ls ↔ ∃ lo, (id, lo) ∈ h.lists ∧ lo.live = true := by
  simp [pkAll]
theorem HeapOk.self {g0 : Gh} {pk : Pk} {g : Gh} {h : Hp} (hk : HeapOk g0 pk g h) : HeapOk g (pkAll h) g h :=
  ⟨rfl, rfl, rfl, Nat.le_refl _, fun _ _ _ _ => rfl, fun b o hv => ⟨hv, rfl⟩, fun b o _ _ hv => hv, hk.vin,
   fun id hid => pkAll_b.1 hid, fun id hid => by obtain ⟨lo, hm, _⟩ := pkAll_l.1 hid; exact ⟨⟨lo, hm⟩, rfl⟩,
   fun id cs hm => by have hb := hk.boxes id cs hm; exact ⟨.inr ⟨pkAll_b.2 ⟨cs, hm⟩, rfl⟩, hb.hid, hb.cells⟩,
   fun id lo hm hl => by have hb := hk.lists id lo hm hl; exact ⟨hb.own, fun b hb' => .inr ⟨id, pkAll_l.2 ⟨lo, hm, hl⟩, hb'⟩, hb.sz, hb.pos, hb.one, hb.vis⟩,
   hk.sepB, hk.sepL, hk.sepX⟩
theorem HeapOk.trans {g0 : Gh} {pk : Pk} {g g' : Gh} {h h' : Hp} (hk : HeapOk g0 pk g h) (hk' : HeapOk g (pkAll h) g' h') (he : Ext g h g' h') : HeapOk g0 pk g' h' := by
  have nb : ∀ b, b < g0.w.heap.size → (∀ id ∈ pk.ls, blk g0 id ≠ some b) → ∀ id ∈ (pkAll h).ls, blk g id ≠ some b := fun b hlt hn id hid e => by
    obtain ⟨lo, hm, hl⟩ := pkAll_l.1 hid
    rcases (hk.lists id lo hm hl).mine b e with h1 | ⟨id', h1, h2⟩
    · omega
    · exact hn id' h1 h2
  refine ⟨hk'.os.trans hk.os, hk'.tape.trans hk.tape, hk'.output.trans hk.output, Nat.le_trans hk.size hk'.size, ?_, ?_, ?_, hk'.vin, ?_, ?_, ?_, ?_, hk'.sepB, hk'.sepL, hk'.sepX⟩
  · intro k hlt hne hne2
    rw [hk'.frame k (Nat.lt_of_lt_of_le hlt hk.size) (fun id hid e => ?_) (nb k hlt hne2)]
    · exact hk.frame k hlt hne hne2
    · obtain ⟨cs, hm⟩ := pkAll_b.1 hid
      rcases (hk.boxes id cs hm).own with ⟨_, h1⟩ | ⟨h1, h2⟩
      · omega
      · exact hne id h1 (by rw [← h2, e])
  · intro b o hv
    have h1 := hk.vis b o hv
    have h2 := hk'.vis b o h1.1
    exact ⟨h2.1, h2.2.trans h1.2⟩
  · intro b o hb hn hv
    exact hk.old b o hb hn (hk'.old b o (Nat.lt_of_lt_of_le hb hk.size) (nb b hb hn) hv)
  · intro id hid
    obtain ⟨cs, hm⟩ := hk.pkin id hid
    exact (he.box id cs hm).1
  · intro id hid
    obtain ⟨⟨lo, hm⟩, e⟩ := hk.lsin id hid
    exact ⟨(he.lst id lo hm).1, (he.lst id lo hm).2.trans e⟩
  · intro id cs hm
    have hb := hk'.boxes id cs hm
    refine ⟨?_, hb.hid, hb.cells⟩
    rcases hb.own with ⟨h1, h2⟩ | ⟨h1, h2⟩
    · exact .inl ⟨fun hin => h1 (pkAll_b.2 (hk.pkin id hin)), Nat.le_trans hk.size h2⟩
    · obtain ⟨cs0, hm0⟩ := pkAll_b.1 h1
      rcases (hk.boxes id cs0 hm0).own with ⟨h3, h4⟩ | ⟨h3, h4⟩
      · exact .inl ⟨h3, by rw [h2]; exact h4⟩
      · exact .inr ⟨h3, h2.trans h4⟩
  · intro id lo hm hl
    have hb := hk'.lists id lo hm hl
    refine ⟨hb.own, fun b hb' => ?_, hb.sz, hb.pos, hb.one, hb.vis⟩
    rcases hb.mine b hb' with h1 | ⟨id', h1, h2⟩
    · exact .inl (Nat.le_trans hk.size h1)
    · obtain ⟨lo', hm', hl'⟩ := pkAll_l.1 h1
      exact (hk.lists id' lo' hm' hl').mine b h2

/-- a block that holds these cells and that nothing names -/
structure Lone (g0 : Gh) (g : Gh) (h : Hp) (b : Nat) (arr : Array Value) (ty : TypeId) : Prop where
  new : g0.w.heap.size ≤ b
  hid : ∀ o, ¬ g.V b o
  cells : g.w.heap[b]? = some (.cells arr ty (0, 0))
  sepB : ∀ id cs, (id, cs) ∈ h.boxes → g.bx id ≠ b
  sepL : ∀ id lo, (id, lo) ∈ h.lists → lo.live = true → blk g id ≠ some b
theorem Lone.lt {g0 g : Gh} {h : Hp} {b : Nat} {arr : Array Value} {ty : TypeId} (l : Lone g0 g h b arr ty) : b < g.w.heap.size := (Array.getElem?_eq_some_iff.1 l.cells).1
theorem Lone.run {g0 : Gh} {g g' : Gh} {h h' : Hp} {b : Nat} {arr : Array Value} {ty : TypeId} (l : Lone g0 g h b arr ty) (hk' : HeapOk g (pkAll h) g' h') : Lone g0 g' h' b arr ty := by
  have hlt := l.lt
  have nb : ∀ id ∈ (pkAll h).bs, g.bx id ≠ b := fun id hid => by obtain ⟨cs, hm⟩ := pkAll_b.1 hid; exact l.sepB id cs hm
  have nl : ∀ id ∈ (pkAll h).ls, blk g id ≠ some b := fun id hid => by obtain ⟨lo, hm, hl⟩ := pkAll_l.1 hid; exact l.sepL id lo hm hl
  refine ⟨l.new, fun o hv => l.hid o (hk'.old b o hlt nl hv), ?_, ?_, ?_⟩
  · rw [hk'.frame b hlt nb nl]; exact l.cells
  · intro id cs hm e
    rcases (hk'.boxes id cs hm).own with ⟨_, h1⟩ | ⟨h1, h2⟩
    · omega
    · exact nb id h1 (by rw [← h2, e])
  · intro id lo hm hl e
    rcases (hk'.lists id lo hm hl).mine b e with h1 | ⟨id', h1, h2⟩
    · omega
    · exact nl id' h1 h2
theorem EYields.beside {P : Program} {h h' : Hp} {ρ : Operand → PV} {o : Oper} {pv : PV} (hy : EYields P h ρ o pv h') {g0 : Gh} {pk : Pk} {g : Gh} {a : Act} (hk : HeapOk g0 pk g h) (wf : WfG g h) (hρ : ∀ x ∈ o.op.operands, RepPV g h (ρ x) (a.eval x))
    (next : Act → World → Prop) (Q : Exit → Act → World → Prop)
    (hn : ∀ g' v, HeapOk g0 pk g' h' → WfG g' h' → Ext g h g' h' → (∀ b arr ty, Lone g0 g h b arr ty → Lone g0 g' h' b arr ty) → RepPV g' h' pv v → next (a.put o.dst v) g'.w) : o.wp P a g.w next Q :=
  hy g (pkAll h) g a hk.self wf hρ next Q fun g' v hk' wf' he hr => hn g' v (hk.trans hk' he) wf' he (fun b arr ty l => l.run hk') hr
/-- the block gets a name: a box -/
theorem Lone.land {g0 : Gh} {pk : Pk} {g : Gh} {h : Hp} {b : Nat} {arr : Array Value} {ty : TypeId} {d : Nat} {cs : List C} (l : Lone g0 g h b arr ty) (hk : HeapOk g0 pk g h) (hd : hasKey h.boxes d = false) (hr : All2 (RepC g h) cs arr.toList) (h1 : ∀ u ∈ arr.toList, u.oneCell' = true) :
    ∃ g', g'.w = g.w ∧ g'.bx d = b ∧ g'.ov = g.ov ∧ HeapOk g0 pk g' { h with boxes := (d, cs) :: h.boxes } ∧ Ext g h g' { h with boxes := (d, cs) :: h.boxes } ∧
      ∀ b' arr' ty', b' ≠ b → Lone g0 g h b' arr' ty' → Lone g0 g' { h with boxes := (d, cs) :: h.boxes } b' arr' ty' := by
  let g' : Gh := { w := g.w, V := g.V, bx := fun i => if i = d then b else g.bx i, ov := g.ov }
  have hbx : ∀ id cs', (id, cs') ∈ h.boxes → g'.bx id = g.bx id := fun id cs' hm => by
    have := ne_of_noKey hd hm
    simp [g', this]
  have c : Chg g0 pk g h g' { h with boxes := (d, cs) :: h.boxes } none :=
    ⟨rfl, rfl, rfl, Nat.le_refl _, fun k hlt _ => rfl, by simp, by simp, fun _ _ h => h, fun _ _ _ h => h, hk.vin,
      fun id cs' hm => ⟨⟨cs', List.mem_cons_of_mem _ hm⟩, hbx id cs' hm⟩, fun id lo hm => ⟨⟨lo, hm⟩, rfl⟩⟩
  have he := c.ext hk
  have hbd : g'.bx d = b := by simp [g']
  refine ⟨g', rfl, hbd, rfl, c.ok hk ?_ ?_ ?_ ?_ ?_, he, ?_⟩
  · intro id cs' hm
    rcases List.mem_cons.1 hm with hm | hm
    · obtain ⟨rfl, rfl⟩ := Prod.mk.inj hm
      exact ⟨.inl ⟨fun hin => by obtain ⟨cs1, hm1⟩ := hk.pkin _ hin; exact ne_of_noKey hd hm1 rfl, by rw [hbd]; exact l.new⟩, fun o hv => by rw [hbd] at hv; exact l.hid o hv, arr, ty, by rw [hbd]; exact l.cells, hr.mono fun _ _ => RepC.ext he, h1⟩
    · have hb := hk.boxes id cs' hm
      exact hb.keep he (hbx id cs' hm) rfl hb.hid
  · intro id lo hm hl
    have hb := hk.lists id lo hm hl
    exact hb.keep rfl (fun b hb' => rfl) fun _ _ _ => Iff.rfl
  · intro id cs1 id' cs2 hm hm' hne
    rcases List.mem_cons.1 hm with h1 | h1 <;> rcases List.mem_cons.1 hm' with h2 | h2
    · exact absurd ((Prod.mk.inj h1).1.trans (Prod.mk.inj h2).1.symm) hne
    · obtain ⟨rfl, rfl⟩ := Prod.mk.inj h1
      rw [hbx _ _ h2, hbd]
      exact (l.sepB _ _ h2).symm
    · obtain ⟨rfl, rfl⟩ := Prod.mk.inj h2
      rw [hbx _ _ h1, hbd]
      exact l.sepB _ _ h1
    · rw [hbx _ _ h1, hbx _ _ h2]
      exact hk.sepB _ _ _ _ h1 h2 hne
  · exact fun id lo id' lo' hm hm' hl hl' hne b hb => hk.sepL id lo id' lo' hm hm' hl hl' hne b hb
  · intro id lo id' cs' hm hm' hl
    rcases List.mem_cons.1 hm' with hm' | hm'
    · obtain ⟨rfl, rfl⟩ := Prod.mk.inj hm'
      rw [hbd]
      exact l.sepL id lo hm hl
    · rw [hbx _ _ hm']
      exact hk.sepX id lo id' cs' hm hm' hl
  · intro b' arr' ty' hne l'
    refine ⟨l'.new, l'.hid, l'.cells, fun id cs' hm => ?_, l'.sepL⟩
    rcases List.mem_cons.1 hm with hm | hm
    · obtain ⟨rfl, rfl⟩ := Prod.mk.inj hm
      rw [hbd]; exact hne.symm
    · rw [hbx _ _ hm]; exact l'.sepB _ _ hm
/-- the block gets a name: an empty own list -/
theorem Lone.landL {g0 : Gh} {pk : Pk} {g : Gh} {h : Hp} {b : Nat} {ty : TypeId} {d sz : Nat} (l : Lone g0 g h b #[] ty) (hk : HeapOk g0 pk g h) (wf : WfG g h) (hd : hasKey h.lists d = false) (hsz : 0 < sz) :
    ∃ g', g'.w = g.w ∧ g'.ov d = .slice (some ⟨b, 0, none⟩) 0 0 ∧ HeapOk g0 pk g' { h with lists := (d, { e := ty, sz := sz, xs := [], pub := false, live := true }) :: h.lists } ∧ WfG g' { h with lists := (d, { e := ty, sz := sz, xs := [], pub := false, live := true }) :: h.lists } ∧
      Ext g h g' { h with lists := (d, { e := ty, sz := sz, xs := [], pub := false, live := true }) :: h.lists } ∧
      ∀ b' arr' ty', b' ≠ b → Lone g0 g h b' arr' ty' → Lone g0 g' { h with lists := (d, { e := ty, sz := sz, xs := [], pub := false, live := true }) :: h.lists } b' arr' ty' := by
  let g' : Gh := { w := g.w, V := g.V, bx := g.bx, ov := fun i => if i = d then .slice (some ⟨b, 0, none⟩) 0 0 else g.ov i }
  have hov : ∀ id lo, (id, lo) ∈ h.lists → g'.ov id = g.ov id := fun id lo hm => by
    have := ne_of_noKey hd hm
    simp [g', this]
  have hblk : ∀ id lo, (id, lo) ∈ h.lists → blk g' id = blk g id := fun id lo hm => by simp only [blk, hov id lo hm]
  have hod : g'.ov d = .slice (some ⟨b, 0, none⟩) 0 0 := by simp [g']
  have hbd : blk g' d = some b := by simp [blk, hod, Value.ownBlock]
  have c : Chg g0 pk g h g' { h with lists := (d, { e := ty, sz := sz, xs := [], pub := false, live := true }) :: h.lists } none :=
    ⟨rfl, rfl, rfl, Nat.le_refl _, fun k hlt _ => rfl, by simp, by simp, fun _ _ h => h, fun _ _ _ h => h, hk.vin,
      fun id cs' hm => ⟨⟨cs', hm⟩, rfl⟩, fun id lo hm => ⟨⟨lo, List.mem_cons_of_mem _ hm⟩, hov id lo hm⟩⟩
  have he := c.ext hk
  refine ⟨g', rfl, hod, c.ok hk ?_ ?_ ?_ ?_ ?_, ⟨fun id lo hm => ?_, hd, wf.nd⟩, he, ?_⟩
  · intro id cs' hm
    have hb := hk.boxes id cs' hm
    exact hb.keep he rfl rfl hb.hid
  · intro id lo hm hl
    rcases List.mem_cons.1 hm with hm | hm
    · obtain ⟨rfl, rfl⟩ := Prod.mk.inj hm
      refine ⟨⟨by simp [flat], .inr ⟨b, 0, #[], hod, Nat.zero_le _, l.cells, Nat.le_refl _, Nat.zero_le _, by simp, by simp [flat]⟩⟩, fun b' hb' => ?_, by simp, hsz, by simp [flat], fun b' hb' o => ?_⟩
      · rw [hbd] at hb'
        obtain rfl := Option.some.inj hb'
        exact .inl l.new
      · rw [hbd] at hb'
        obtain rfl := Option.some.inj hb'
        exact ⟨fun hv => absurd hv (l.hid o), fun h => by cases h.1⟩
    · have hb := hk.lists id lo hm hl
      exact hb.keep (hov id lo hm) (fun b hb' => rfl) fun _ _ _ => Iff.rfl
  · exact hk.sepB
  · intro id lo id' lo' hm hm' hl hl' hne b' hb'
    rcases List.mem_cons.1 hm with h1 | h1 <;> rcases List.mem_cons.1 hm' with h2 | h2
    · exact absurd ((Prod.mk.inj h1).1.trans (Prod.mk.inj h2).1.symm) hne
    · obtain ⟨rfl, rfl⟩ := Prod.mk.inj h1
      rw [hbd] at hb'
      obtain rfl := Option.some.inj hb'
      rw [hblk _ _ h2]
      exact l.sepL _ _ h2 hl'
    · obtain ⟨rfl, rfl⟩ := Prod.mk.inj h2
      rw [hblk _ _ h1] at hb'
      rw [hbd]
      intro e
      obtain rfl := Option.some.inj e
      exact l.sepL _ _ h1 hl hb'
    · rw [hblk _ _ h1] at hb'
      rw [hblk _ _ h2]
      exact hk.sepL _ _ _ _ h1 h2 hl hl' hne b' hb'
  · intro id lo id' cs' hm hm' hl
    rcases List.mem_cons.1 hm with hm | hm
    · obtain ⟨rfl, rfl⟩ := Prod.mk.inj hm
      rw [hbd]
      exact fun e => l.sepB id' cs' hm' (Option.some.inj e).symm
    · rw [hblk _ _ hm]
      exact hk.sepX id lo id' cs' hm hm' hl
  · rcases List.mem_cons.1 hm with hm | hm
    · obtain ⟨rfl, rfl⟩ := Prod.mk.inj hm
      rw [hod]; rfl
    · rw [hov id lo hm]; exact wf.ov id lo hm
  · intro b' arr' ty' hne l'
    refine ⟨l'.new, l'.hid, l'.cells, l'.sepB, fun id lo hm hl => ?_⟩
    rcases List.mem_cons.1 hm with hm | hm
    · obtain ⟨rfl, rfl⟩ := Prod.mk.inj hm
      rw [hbd]; exact fun e => hne (Option.some.inj e).symm
    · rw [hblk _ _ hm]; exact l'.sepL _ _ hm hl
/-- a new block -/
theorem HeapOk.newLone {g0 : Gh} {pk : Pk} {g : Gh} {h : Hp} (hk : HeapOk g0 pk g h) (arr : Array Value) (t : TypeId) :
    ∃ g', g'.w = g.w.alloc (.cells arr t) ∧ HeapOk g0 pk g' h ∧ Ext g h g' h ∧ Lone g0 g' h g.w.heap.size arr t ∧ ∀ b' arr' ty', Lone g0 g h b' arr' ty' → b' ≠ g.w.heap.size ∧ Lone g0 g' h b' arr' ty' := by
  have hst := hk.step (g.w.alloc (.cells arr t)) g.V rfl rfl rfl (by simp) (fun k hlt => heap_alloc_old g.w _ hlt) (fun _ _ h => h) (fun b o _ hv => hv) (fun b o hv => by have := hk.vin b o hv; simp; omega)
  refine ⟨{ g with w := g.w.alloc (.cells arr t), V := g.V }, rfl, hst.1, hst.2, ⟨hk.size, fun o hv => ?_, heap_alloc_new g.w _, fun id cs hm e => ?_, fun id lo hm hl e => ?_⟩, fun b' arr' ty' l' => ⟨by have := l'.lt; omega, l'.new, l'.hid, ?_, l'.sepB, l'.sepL⟩⟩
  · have := hk.vin _ _ hv
    omega
  · have := (hk.boxes id cs hm).lt
    have e : g.bx id = g.w.heap.size := e
    omega
  · have := ((hk.lists id lo hm hl).lt e).2
    omega
  · rw [← l'.cells]; exact heap_alloc_old g.w _ l'.lt
/-- an operation that makes a block that nothing names yet; its name comes later -/
def FlY (P : Program) (h : Hp) (o : Oper) (v : PV) (h' : Hp) (arr : Array Value) (ty : TypeId) (val : Nat → Value) : Prop :=
  (∀ (ρ : Operand → Value) (w : World), (execOp ρ o).run P w = .ok (.value (val w.heap.size)) (w.alloc (.cells arr ty))) ∧
  ∀ g0 pk g b, HeapOk g0 pk g h → WfG g h → Lone g0 g h b arr ty → ∃ g', g'.w = g.w ∧ HeapOk g0 pk g' h' ∧ WfG g' h' ∧ Ext g h g' h' ∧ RepPV g' h' v (val b) ∧ ∀ b' arr' ty', b' ≠ b → Lone g0 g h b' arr' ty' → Lone g0 g' h' b' arr' ty'
def isNew : Op → Bool
  | .alloc _ => true
  | .buildSlice _ n ps => n == 0 && ps.toList.isEmpty
  | _ => false
end Go.PL
