/-
  Slices of own lists; calls of Go functions by contracts on abstract values.
-/
import Derived.Test.YtncdcgaaeclhiaaE9
namespace Go.PL
open Go.RowKit
set_option linter.unusedSimpArgs false
set_option linter.unusedVariables false

/-- a published own list is a readable list -/
theorem own_view {g0 : Gh} {pk : Pk} {g : Gh} {h : Hp} (hk : HeapOk g0 pk g h) {id : Nat} {lo : LO} (hm : (id, lo) ∈ h.lists) (hl : lo.live = true) (hp : lo.pub = true) (h' : Hp) : RepC g h' (.l lo.sz lo.xs) (g.ov id) := by
  have hL := hk.lists id lo hm hl
  rcases hL.own.2 with ⟨hv, hz⟩ | ⟨b, cap, cur, hv, hb, hg, hnc, hcm, hcur, htake⟩
  · have hx : lo.xs = [] := List.eq_nil_of_length_eq_zero hz
    exact ⟨none, 0, by rw [hv, hz], by omega, by simp [maxLen], ⟨hL.pos, hL.one⟩, hL.sz, fun _ => rfl, fun ad had => by cases had⟩
  · refine ⟨some ⟨b, 0, none⟩, cap, hv, hnc, hcm, ⟨hL.pos, hL.one⟩, hL.sz, fun had => (by cases had), fun ad had => ?_⟩
    cases had
    refine ⟨rfl, fun j hj => ⟨?_, ?_⟩⟩
    · have := hL.own.cells (g := b) (by rw [hv]; rfl) j _ (List.getElem?_eq_getElem hj)
      rwa [Addr.add_lit] at this
    · have hb' : blk g id = some b := by simp [blk, hv, Value.ownBlock]
      simpa using (hL.vis b hb' j).2 ⟨hp, hj⟩

/-- the own list's front part, itself an own list (nobody else sees the list), or a readable piece -/
def sliceO (h : Hp) (es : Option (TypeId × Nat)) (d id : Nat) (lo hi : Option PV) (K : Hp → PV → Prop) : Prop :=
  optK (fnd h.lists id) fun L => (L.live = true ∧ es.map (·.2) = some L.sz) ∧ hiK L.xs.length hi fun b => loK lo fun a => a ≤ b ∧
    match L.pub, lo with
    | false, none => hasKey h.lists d = false ∧ K { h with lists := (d, { L with xs := L.xs.take b }) :: upd h.lists id { L with live := false } } (.s (.c (.o d)))
    | _, _ => K { h with lists := pubAll h.lists } (.s (.c (.l L.sz ((L.xs.take b).drop a))))

theorem fnd_pubAll {l : List (Nat × LO)} {id : Nat} {lo : LO} (h : (id, lo) ∈ l) : (id, { lo with pub := true }) ∈ pubAll l := mem_pubAll' h
theorem WfG.pub {g : Gh} {h : Hp} (wf : WfG g h) : WfG (pubG g h) { h with lists := pubAll h.lists } :=
  ⟨fun id lo hm => by obtain ⟨lo0, h0, _⟩ := mem_pubAll hm; exact wf.ov id lo0 h0, wf.nd.pubAll⟩
theorem HeapOk.pub' {g0 : Gh} {pk : Pk} {g : Gh} {h : Hp} (hk : HeapOk g0 pk g h) (wf : WfG g h) :
    HeapOk g0 pk (pubG g h) { h with lists := pubAll h.lists } ∧ Ext g h (pubG g h) { h with lists := pubAll h.lists } :=
  hk.pub fun id lo lo' h1 h2 _ _ => wf.nd.uniq id lo lo' h1 h2

theorem sliceO_sound {P : Program} {h : Hp} {t d id : Nat} {lo hi : Option PV} {K : Hp → PV → Prop} (hc : sliceO h (eSz P t) d id lo hi K) :
    ∃ h' pv, K h' pv ∧ ∀ g0 pk g c clo chi, HeapOk g0 pk g h → WfG g h → RepC g h (.o id) c → (∀ x, lo = some x → ∃ c, clo = some c ∧ RepPV g h x c) → (lo = none → clo = none) →
      (∀ x, hi = some x → ∃ c, chi = some c ∧ RepPV g h x c) → (hi = none → chi = none) →
      ∃ v g', (Instr.sliceAt t c clo chi none).run P g.w = .ok v g'.w ∧ HeapOk g0 pk g' h' ∧ WfG g' h' ∧ Ext g h g' h' ∧ RepPV g' h' pv v := by
  obtain ⟨L, hL0, ⟨hl, hes⟩, hc⟩ := optK_ex hc
  obtain ⟨b, hc, hbl, hhi⟩ := hiK_ex hc
  obtain ⟨a, ⟨hab, hc⟩, hlo⟩ := loK_ex hc
  unfold eSz at hes
  cases hu : P.underlying t with
  | none => simp [hu] at hes
  | some td =>
    cases td <;> simp [hu] at hes
    rename_i e
    obtain ⟨inf, hinf, hsz⟩ := hes
    by_cases hcase : L.pub = false ∧ lo = none
    · obtain ⟨hp, hln⟩ := hcase
      subst hln
      obtain ⟨hd, hK⟩ : hasKey h.lists d = false ∧ K { h with lists := (d, { L with xs := L.xs.take b }) :: upd h.lists id { L with live := false } } (.s (.c (.o d))) := by
        cases L
        simp only at hp
        subst hp
        exact hc
      refine ⟨_, _, hK, fun g0 pk g c clo chi hk hwf hr h1 h1n h2 h2n => ?_⟩
      obtain ⟨_, rfl⟩ := hr
      have hm := fnd_mem hL0
      have hL := hk.lists id L hm hl
      have ha : a = 0 := by
        rcases hlo with ⟨_, h⟩ | ⟨_, _, h, _⟩
        · exact h
        · cases h
      subst ha
      have hmem : ∀ id' lo', (id', lo') ∈ upd h.lists id { L with live := false } → lo'.live = true → (id', lo') ∈ h.lists ∧ id' ≠ id := fun id' lo' hm hl' => by
        rcases mem_upd hm with ⟨_, rfl⟩ | ⟨hne, hm⟩
        · cases hl'
        · exact ⟨hm, hne⟩
      have hszt : ∀ x ∈ L.xs.take b, x.cells.size = L.sz := fun x hx => hL.sz x (List.mem_of_mem_take hx)
      have hone : ∀ u ∈ flat (L.xs.take b), u.oneCell' = true := fun u hu => by
        obtain ⟨x, hx, hux⟩ := List.mem_flatMap.1 hu
        exact hL.one u (List.mem_flatMap.2 ⟨x, List.mem_of_mem_take hx, hux⟩)
      have key : ∃ v, (Instr.sliceAt t (g.ov id) clo chi none).run P g.w = .ok v g.w ∧ g.w.ownsRow 0 L.e L.sz v (L.xs.take b).length (flat (L.xs.take b)) ∧ v.ownBlock = blk g id ∧ v.oneCell' = true := by
        have hlb : (L.xs.take b).length = b := by simp; omega
        rcases hL.own.2 with ⟨hv, hz⟩ | ⟨gg, cap, cur, hv, hbase, hg, hnc, hcm, hcur, htake⟩
        · have hhi0 : (hi = none ∧ b = 0) ∨ ∃ k n, hi = some (vV (.int k n)) ∧ 0 ≤ n ∧ b = n.toNat := by rw [← hz]; exact hhi
          have hb0 := bounds_run (P := P) (isS := true) (len := 0) (cap := 0) hlo hhi0 hab (by omega) h1 h1n h2 h2n g.w
          refine ⟨.slice none b 0, by simp [hv, Instr.sliceAt, Instr.slice, run_underlying hu, hb0, sizeOf, typeInfo, hinf], ?_, by simp [Value.ownBlock, blk, hv], rfl⟩
          have : b = 0 := by omega
          subst this
          simpa [flat] using World.ownsRow_nil g.w 0 L.e L.sz
        · have hb0 := bounds_run (P := P) (isS := true) (len := L.xs.length) (cap := cap) hlo hhi hab (by omega) h1 h1n h2 h2n g.w
          refine ⟨.slice (some ⟨gg, 0, none⟩) b cap, by simp [hv, Instr.sliceAt, Instr.slice, run_underlying hu, hb0, sizeOf, typeInfo, hinf, Addr.add_lit], ?_, by simp [Value.ownBlock, blk, hv], rfl⟩
          rw [hlb]
          refine ⟨by rw [flat_len hszt, hlb], .inr ⟨gg, cap, cur, rfl, hbase, hg, by omega, hcm, hcur, ?_⟩⟩
          rw [← flat_take hL.sz, ← htake, List.take_take]
          congr 1
          have : b * L.sz ≤ L.xs.length * L.sz := Nat.mul_le_mul_right _ hbl
          omega
      obtain ⟨v, hrun, how, hvb, hv1⟩ := key
      obtain ⟨g', hg1, hg2, hk', hext, hovs⟩ := hk.putList hd (upd h.lists id { L with live := false }) (blk g id)
        (fun id' lo' hm' hl' => ⟨(hmem id' lo' hm' hl').1, fun b hb => hk.sepL id L id' lo' hm (hmem id' lo' hm' hl').1 hl hl' (Ne.symm (hmem id' lo' hm' hl').2) b hb⟩)
        (fun id' lo' hm => mem_upd_key hm)
        (fun id' lo' hm' => by
          rcases mem_upd hm' with ⟨rfl, _⟩ | ⟨_, hm'⟩
          · exact ⟨L, hm⟩
          · exact ⟨lo', hm'⟩)
        (fun b hb => ⟨(hL.lt hb).1, (hL.lt hb).2, fun id' cs hm' e => hk.sepX id L id' cs hm hm' hl (by rw [hb, e])⟩)
        (v := v) (w' := g.w) (lo := { L with xs := L.xs.take b }) hl how hszt hL.pos hone rfl rfl rfl (Nat.le_refl _) (fun _ _ _ => rfl)
        (fun b hb o hv => by
          have := ((hL.vis b hb o).1 hv).1
          rw [hp] at this
          cases this) (fun b hb => .inl (by rw [← hvb]; exact hb))
      refine ⟨v, g', by rw [hrun, hg1], hk', ⟨fun id' lo' hm' => ?_, ⟨by rw [hasKey_upd]; exact hd, hwf.nd.upd _ _⟩⟩, hext, ⟨_, List.mem_cons_self ..⟩, hg2.symm⟩
      rcases List.mem_cons.1 hm' with hm' | hm'
      · rw [(Prod.mk.inj hm').1, hg2]; exact hv1
      · by_cases hid : id' = d
        · rw [hid, hg2]; exact hv1
        · rw [hovs id' hid]
          rcases mem_upd hm' with ⟨rfl, _⟩ | ⟨_, hm'⟩
          · exact hwf.ov _ L hm
          · exact hwf.ov id' lo' hm'
    · have hc' : K { h with lists := pubAll h.lists } (.s (.c (.l L.sz ((L.xs.take b).drop a)))) := by
        cases hp : L.pub <;> cases lo <;> simp_all
      refine ⟨_, _, hc', fun g0 pk g c clo chi hk hwf hr h1 h1n h2 h2n => ?_⟩
      obtain ⟨_, rfl⟩ := hr
      have hm := fnd_mem hL0
      obtain ⟨hk', he⟩ := hk.pub' hwf
      have hvw := own_view hk' (fnd_pubAll hm) hl rfl { h with lists := pubAll h.lists }
      have hs : sliceD { h with lists := pubAll h.lists } (eSz P t) (P.underlying t) (.l L.sz L.xs) lo hi (fun pv => pv = .s (.c (.l L.sz ((L.xs.take b).drop a)))) := by
        simp only [sliceD, hu]
        refine ⟨by simp [eSz, hu, hinf, hsz], ?_⟩
        have hh : ∀ (Q : Nat → Prop), Q b → hiK L.xs.length hi Q := fun Q hQ => by
          rcases hhi with ⟨rfl, rfl⟩ | ⟨k, n, rfl, h0, rfl⟩
          · exact hQ
          · exact ⟨h0, by omega, hQ⟩
        have hll : ∀ (Q : Nat → Prop), Q a → loK lo Q := fun Q hQ => by
          rcases hlo with ⟨rfl, rfl⟩ | ⟨k, n, rfl, h0, rfl⟩
          · exact hQ
          · exact ⟨h0, hQ⟩
        exact hh _ (hll _ ⟨hab, rfl⟩)
      obtain ⟨pv, rfl, hrun⟩ := sliceD_run (P := P) hs
      obtain ⟨v, h3, h4⟩ := hrun (pubG g h) (g.ov id) clo chi hvw (fun x hx => by obtain ⟨c, h5, h6⟩ := h1 x hx; exact ⟨c, h5, h6.ext he⟩) h1n (fun x hx => by obtain ⟨c, h5, h6⟩ := h2 x hx; exact ⟨c, h5, h6.ext he⟩) h2n
      exact ⟨v, pubG g h, h3, hk', hwf.pub, he, h4⟩

/-! ### contracts -/
def Callable (P : Program) (f : FuncId) : Prop := ∃ fn, P.funcs[f]? = some fn ∧ (fn.name == "runtime.NumGoroutine") = false ∧ fn.body.isNone = false
/-- the contract of a Go function: boxes and own lists that come in, arguments, result, what boxes and own lists there are behind the call -/
def PCalls (P : Program) (f : FuncId) (bxs : List (Nat × List C)) (ins : List (Nat × LO)) (args : List V1) (r : PV) (h' : Hp) : Prop :=
  Callable P f ∧ ∀ g (cargs : Array Value), HeapOk g ⟨bxs.map Prod.fst, ins.map Prod.fst⟩ g ⟨bxs, ins⟩ → WfG g ⟨bxs, ins⟩ → All2 (RepV1 g ⟨bxs, ins⟩) args cargs.toList →
    Calls P f cargs g.w fun e w' => ∃ g' v, e = .returned v ∧ g'.w = w' ∧ HeapOk g ⟨bxs.map Prod.fst, ins.map Prod.fst⟩ g' h' ∧ WfG g' h' ∧ RepPV g' h' r v

def memN : List Nat → Nat → Bool
  | [], _ => false
  | k :: r, t => if k = t then true else memN r t
theorem memN_iff {l : List Nat} {t : Nat} : memN l t = true ↔ t ∈ l := by
  induction l with
  | nil => simp [memN]
  | cons k r ih =>
    by_cases h : k = t
    · simp [memN, h]
    · have h' : ¬ t = k := fun e => h e.symm
      simp [memN, h, h', ih]
theorem memN_not {l : List Nat} {t : Nat} : memN l t = false ↔ t ∉ l := by rw [← memN_iff]; simp
/-- how an argument is shown to the callee: an own list that is handed in as it is; else as a readable list; nil as an empty list where the contract wants a list -/
def viewC (h : Hp) (ks : List Nat) (y : C) : C → Option C
  | .o id => if memN ks id = true then some (.o id) else match fnd h.lists id with
    | some lo => if lo.live = true then some (.l lo.sz lo.xs) else none
    | none => none
  | .e .. => none
  | .v (.slice none 0 0) => match y with
    | .l (n + 1) [] => some (.l (n + 1) [])
    | _ => some (.v (.slice none 0 0))
  | x => some x
def viewCs (h : Hp) (ks : List Nat) : List C → List C → Option (List C)
  | _, [] => some []
  | y :: ys, x :: xs => match viewC h ks y x, viewCs h ks ys xs with
    | some y, some ys => some (y :: ys)
    | _, _ => none
  | [], _ :: _ => none
def viewV1 (h : Hp) (ks : List Nat) : V1 → V1 → Option V1
  | .c y, .c x => (viewC h ks y x).map .c
  | .a ys, .a xs => (viewCs h ks ys xs).map .a
  | _, _ => none
def viewArgs (h : Hp) (ks : List Nat) : List V1 → List PV → Option (List V1)
  | _, [] => some []
  | y :: ys, .s x :: r => match viewV1 h ks y x, viewArgs h ks ys r with
    | some y, some ys => some (y :: ys)
    | _, _ => none
  | _, _ => none

/-- boxes and own lists are only named if they are among these -/
def okC (bs ks : List Nat) : C → Bool
  | .p id _ => memN bs id
  | .o id => memN ks id
  | .e .. => false
  | _ => true
def okV1 (bs ks : List Nat) : V1 → Bool
  | .c x => okC bs ks x
  | .a xs => xs.all (okC bs ks)

theorem WfG.pubQ {p : Nat → Bool} {g : Gh} {h : Hp} (wf : WfG g h) : WfG (PL.pubQ p g h) { h with lists := pubP p h.lists } := by
  have hk : ∀ (l : List (Nat × LO)) k, hasKey (pubP p l) k = hasKey l k := by
    intro l k
    induction l with
    | nil => rfl
    | cons x r ih => obtain ⟨i, x⟩ := x; simp only [pubP, hasKey, ih]
  have hn : ∀ (l : List (Nat × LO)), noDup l → noDup (pubP p l) := by
    intro l
    induction l with
    | nil => exact fun h => h
    | cons x r ih => obtain ⟨i, x⟩ := x; exact fun h => ⟨by rw [hk]; exact h.1, ih h.2⟩
  exact ⟨fun id lo hm => by obtain ⟨lo0, h0, _⟩ := mem_pubP hm; exact wf.ov id lo0 h0, hn _ wf.nd⟩
theorem HeapOk.pubQ' {p : Nat → Bool} {g0 : Gh} {pk : Pk} {g : Gh} {h : Hp} (hk : HeapOk g0 pk g h) (wf : WfG g h) :
    HeapOk g0 pk (PL.pubQ p g h) { h with lists := pubP p h.lists } ∧ Ext g h (PL.pubQ p g h) { h with lists := pubP p h.lists } :=
  hk.pubQ fun id lo lo' h1 h2 _ _ => wf.nd.uniq id lo lo' h1 h2

section
variable {g0 : Gh} {pk : Pk} {g : Gh} {h : Hp} (hk : HeapOk g0 pk g h) (wf : WfG g h) {bxs : List (Nat × List C)} {ins : List (Nat × LO)} 
include hk wf
theorem viewC_rep {x y y0 : C} {u : Value} (hv : viewC h (ins.map Prod.fst) y0 x = some y) (hok : okC (bxs.map Prod.fst) (ins.map Prod.fst) y = true) (hr : RepC g h x u) :
    RepC (PL.pubQ (fun i => !memN (ins.map Prod.fst) i) g h) ⟨bxs, ins⟩ y u := by
  obtain ⟨hk', he⟩ := hk.pubQ' (p := fun i => !memN (ins.map Prod.fst) i) wf
  unfold viewC at hv
  split at hv
  · rename_i id
    split at hv
    · rename_i hin
      simp only [Option.some.injEq] at hv
      subst hv
      obtain ⟨_, rfl⟩ := hr
      obtain ⟨⟨i, lo⟩, hm, rfl⟩ := List.mem_map.1 (memN_iff.1 hin)
      exact ⟨⟨lo, hm⟩, rfl⟩
    · rename_i hin
      split at hv
      · rename_i lo hlo
        split at hv
        · rename_i hl
          simp only [Option.some.injEq] at hv
          subst hv
          obtain ⟨_, rfl⟩ := hr
          have hmm := mem_pubP' (p := fun i => !memN (ins.map Prod.fst) i) (fnd_mem hlo)
          have hpt : (!memN (ins.map Prod.fst) id) = true := by simp [hin]
          simp only [hpt, if_true] at hmm
          exact own_view hk' hmm hl rfl _
        · cases hv
      · cases hv
  · cases hv
  · split at hv
    · rename_i n
      simp only [Option.some.injEq] at hv
      subst hv
      simp only [RepC] at hr
      subst hr
      exact ⟨none, 0, rfl, by simp, by simp [maxLen], ⟨by omega, by simp [flat]⟩, by simp, fun _ => rfl, fun _ h => by cases h⟩
    · simp only [Option.some.injEq] at hv
      subst hv
      exact hr
  · rename_i hno hne _
    simp only [Option.some.injEq] at hv
    subst hv
    have hr' := RepC.ext he hr
    cases x with
    | v x => exact hr'
    | l sz xs => exact hr'
    | o id => exact absurd rfl (hno id)
    | p id off =>
      simp only [okC] at hok
      obtain ⟨⟨i, cs⟩, hm, rfl⟩ := List.mem_map.1 (memN_iff.1 hok)
      exact ⟨⟨cs, hm⟩, hr'.2⟩
    | q cs => exact hr'
    | e a b c d => exact absurd rfl (hne a b c d)
    | any => trivial
theorem viewCs_rep : ∀ {ys0 xs ys : List C} {us : List Value},
    viewCs h (ins.map Prod.fst) ys0 xs = some ys → ys.all (okC (bxs.map Prod.fst) (ins.map Prod.fst)) = true → All2 (RepC g h) xs us → All2 (RepC (PL.pubQ (fun i => !memN (ins.map Prod.fst) i) g h) ⟨bxs, ins⟩) ys us
  | _, [], ys, [], hv, _, _ => by simp [viewCs] at hv; subst hv; trivial
  | [], _ :: _, _, _ :: _, hv, _, _ => by simp [viewCs] at hv
  | y0 :: ys0, x :: xs, ys, u :: us, hv, hok, ⟨h1, h2⟩ => by
    simp only [viewCs] at hv
    cases hx : viewC h (ins.map Prod.fst) y0 x with
    | none => simp [hx] at hv
    | some y =>
      cases hxs : viewCs h (ins.map Prod.fst) ys0 xs with
      | none => simp [hx, hxs] at hv
      | some ys' =>
        simp [hx, hxs] at hv
        subst hv
        simp only [List.all_cons, Bool.and_eq_true] at hok
        exact ⟨viewC_rep hk wf hx hok.1 h1, viewCs_rep hxs hok.2 h2⟩
  | _, [], _, _ :: _, _, _, h => h.elim
  | _, _ :: _, _, [], _, _, h => h.elim
theorem viewV1_rep {x y y0 : V1} {u : Value}
    (hv : viewV1 h (ins.map Prod.fst) y0 x = some y) (hok : okV1 (bxs.map Prod.fst) (ins.map Prod.fst) y = true) (hr : RepV1 g h x u) : RepV1 (PL.pubQ (fun i => !memN (ins.map Prod.fst) i) g h) ⟨bxs, ins⟩ y u := by
  cases x with
  | c x =>
    cases y0 with
    | a _ => simp [viewV1] at hv
    | c y0 =>
      simp [viewV1] at hv
      obtain ⟨y', hy, rfl⟩ := hv
      exact viewC_rep hk wf hy hok hr
  | a xs =>
    cases y0 with
    | c _ => simp [viewV1] at hv
    | a y0 =>
      simp [viewV1] at hv
      obtain ⟨y', hy, rfl⟩ := hv
      obtain ⟨cs, rfl, h2⟩ := hr
      exact ⟨cs, rfl, viewCs_rep hk wf hy hok h2⟩
theorem viewArgs_rep : ∀ {ys0 : List V1} {xs : List PV} {ys : List V1} {us : List Value},
    viewArgs h (ins.map Prod.fst) ys0 xs = some ys → ys.all (okV1 (bxs.map Prod.fst) (ins.map Prod.fst)) = true → All2 (RepPV g h) xs us → All2 (RepV1 (PL.pubQ (fun i => !memN (ins.map Prod.fst) i) g h) ⟨bxs, ins⟩) ys us
  | _, [], ys, [], hv, _, _ => by simp [viewArgs] at hv; subst hv; trivial
  | y0 :: ys0, .s x :: xs, ys, u :: us, hv, hok, ⟨h1, h2⟩ => by
    simp only [viewArgs] at hv
    cases hx : viewV1 h (ins.map Prod.fst) y0 x with
    | none => simp [hx] at hv
    | some y =>
      cases hxs : viewArgs h (ins.map Prod.fst) ys0 xs with
      | none => simp [hx, hxs] at hv
      | some ys' =>
        simp [hx, hxs] at hv
        subst hv
        simp only [List.all_cons, Bool.and_eq_true] at hok
        exact ⟨viewV1_rep hk wf hx hok.1 h1, viewArgs_rep hxs hok.2 h2⟩
  | [], .s _ :: _, _, _ :: _, hv, _, _ => by simp [viewArgs] at hv
  | _, .t _ :: _, _, _ :: _, hv, _, _ => by simp [viewArgs] at hv
  | _, [], _, _ :: _, _, _, h => h.elim
  | _, _ :: _, _, [], _, _, h => h.elim
end

/-- a value that hangs on no memory -/
def scalC : C → Bool
  | .v _ => true
  | .any => true
  | _ => false
def scalV1 : V1 → Bool
  | .c x => scalC x
  | .a xs => xs.all scalC
def scalPV : PV → Bool
  | .s x => scalV1 x
  | .t xs => xs.all scalV1
theorem scalC_rep {g g' : Gh} {h h' : Hp} {x : C} {u : Value} (hs : scalC x = true) (hr : RepC g h x u) : RepC g' h' x u := by
  cases x <;> simp [scalC] at hs
  · exact hr
  · trivial
theorem all2_all {α β : Type} {p : α → Bool} {R S : α → β → Prop} (h : ∀ x y, p x = true → R x y → S x y) : ∀ {l : List α} {m : List β}, l.all p = true → All2 R l m → All2 S l m
  | [], [], _, _ => trivial
  | _ :: _, _ :: _, hp, ⟨a, b⟩ => by
    simp only [List.all_cons, Bool.and_eq_true] at hp
    exact ⟨h _ _ hp.1 a, all2_all h hp.2 b⟩
  | [], _ :: _, _, h => h.elim
  | _ :: _, [], _, h => h.elim
theorem scalV1_rep {g g' : Gh} {h h' : Hp} {x : V1} {u : Value} (hs : scalV1 x = true) (hr : RepV1 g h x u) : RepV1 g' h' x u := by
  cases x with
  | c x => exact scalC_rep hs hr
  | a xs => obtain ⟨cs, rfl, h2⟩ := hr; exact ⟨cs, rfl, all2_all (fun _ _ => scalC_rep) hs h2⟩
theorem scalPV_rep {g g' : Gh} {h h' : Hp} {x : PV} {u : Value} (hs : scalPV x = true) (hr : RepPV g h x u) : RepPV g' h' x u := by
  cases x with
  | s x => exact scalV1_rep hs hr
  | t xs => obtain ⟨cs, rfl, h2⟩ := hr; exact ⟨cs, rfl, all2_all (fun _ _ => scalV1_rep) hs h2⟩

theorem entryOk {g : Gh} (hin : ∀ b o, g.V b o → b < g.w.heap.size) : HeapOk g ⟨[], []⟩ g ⟨[], []⟩ :=
  ⟨rfl, rfl, rfl, Nat.le_refl _, fun _ _ _ _ => rfl, fun _ _ h => ⟨h, rfl⟩, fun _ _ _ _ h => h, hin, by simp, by simp, fun _ _ h => by simp at h, fun _ _ h => by simp at h, fun _ _ _ _ h => by simp at h, fun _ _ _ _ h => by simp at h, fun _ _ _ _ h => by simp at h⟩

/-- a call that hands back numbers, truth values, strings: nothing is published by it -/
theorem callOk_scal {P : Program} {h : Hp} {f : FuncId} {args : List PV} {vs : List V1} {r : PV} {h' : Hp} (hc : PCalls P f [] [] vs r h') (hv : viewArgs h [] vs args = some vs) (hok : vs.all (okV1 [] []) = true) (hs : scalPV r = true) : CallOk P h f args r := by
  refine ⟨hc.1, fun g0 pk g cargs hk hwf ha => ?_⟩
  obtain ⟨hk', he⟩ := hk.pubQ' (p := fun i => !memN [] i) hwf
  have hent : HeapOk (PL.pubQ (fun i => !memN [] i) g h) ⟨[], []⟩ (PL.pubQ (fun i => !memN [] i) g h) ⟨[], []⟩ := entryOk hk'.vin
  have hargs := viewArgs_rep hk hwf (bxs := []) (ins := []) hv hok ha
  refine (hc.2 _ cargs hent ⟨fun _ _ h => by simp at h, trivial⟩ hargs).mono fun e w' hx => ?_
  obtain ⟨g', v, rfl, rfl, h1, h2, h3⟩ := hx
  have hst := hk.step g'.w g.V h1.os h1.tape h1.output h1.size (fun k hlt => h1.frame k hlt (by simp) (by simp)) (fun _ _ h => h) (fun _ _ _ h => h) (fun b o hv => by have := hk.vin b o hv; have := h1.size; simp only [PL.pubQ] at this; omega)
  exact ⟨{ g with w := g'.w, V := g.V }, v, rfl, rfl, hst.1, hst.2, scalPV_rep hs h3⟩

end Go.PL
