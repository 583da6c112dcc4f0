/-
  Slices of own lists; calls of Go functions by contracts on abstract values.
  Calls that hand back own lists or boxes, or write boxes that they were given.
  A map from pairs of integers to integers whose entries keep a law: what a lookup and an update do.
  One operation of a region that is carried out in the order of the text; a whole such region.
-/
import Derived.Test.YtahnbliabllflaaE6
import Derived.Test.YtahnbliabllflaaE1
import Derived.WideKeyArr2
import Derived.MapKept
import Derived.MapFrom
import Derived.WideKeyMaps2
namespace Go.PL
open Go.RowKit
set_option linter.unusedSimpArgs false
set_option linter.unusedVariables false

/-- a published own list is a readable list -/
theorem own_view {g0 : Gh} {pk : Pk} {g : Gh} {h : Hp} (hk : HeapOk g0 pk g h) {id : Nat} {lo : LO} (hm : (id, lo) ∈ h.lists) (hl : lo.live = true) (hp : lo.pub = true) (h' : Hp) : RepC g h' (.l lo.sz lo.xs) (g.ov id) := by
  have hL := hk.lists id lo hm hl
  rcases hL.own.2 with ⟨hv, hz⟩ | ⟨b, cap, cur, hv, hb, hg, hnc, hcm, hcur, htake⟩
  · have hx : lo.xs = [] := List.eq_nil_of_length_eq_zero hz
    exact ⟨none, 0, by rw [hv, hz], by omega, by simp [maxLen], ⟨hL.pos, hL.one⟩, hL.sz, fun _ => rfl, fun ad had => by cases had⟩
  · refine ⟨some ⟨b, 0, none⟩, cap, hv, hnc, hcm, ⟨hL.pos, hL.one⟩, hL.sz, fun had => (by cases had), fun ad had => ?_⟩
    cases had
    refine ⟨rfl, fun j hj => ⟨?_, ?_⟩⟩
    · have := hL.own.cells (g := b) (by rw [hv]; rfl) j _ (List.getElem?_eq_getElem hj)
      rwa [Addr.add_lit] at this
    · have hb' : blk g id = some b := by simp [blk, hv, Value.ownBlock]
      simpa using (hL.vis b hb' j).2 ⟨hp, hj⟩

/-- the own list's front part, itself an own list (nobody else sees the list), or a readable piece -/
def sliceO (h : Hp) (es : Option (TypeId × Nat)) (d id : Nat) (lo hi : Option PV) (K : Hp → PV → Prop) : Prop :=
  optK (fnd h.lists id) fun L => (L.live = true ∧ es.map (·.2) = some L.sz) ∧ hiK L.xs.length hi fun b => loK lo fun a => a ≤ b ∧
    match L.pub, lo with
    | false, none => hasKey h.lists d = false ∧ K { h with lists := (d, { L with xs := L.xs.take b }) :: upd h.lists id { L with live := false } } (.s (.c (.o d)))
    | _, _ => K { h with lists := pubAll h.lists } (.s (.c (.l L.sz ((L.xs.take b).drop a))))

theorem fnd_pubAll {l : List (Nat × LO)} {id : Nat} {lo : LO} (h : (id, lo) ∈ l) : (id, { lo with pub := true }) ∈ pubAll l := mem_pubAll' h
theorem WfG.pub {g : Gh} {h : Hp} (wf : WfG g h) : WfG (pubG g h) { h with lists := pubAll h.lists } :=
  ⟨fun id lo hm => by obtain ⟨lo0, h0, _⟩ := mem_pubAll hm; exact wf.ov id lo0 h0, wf.nd.pubAll⟩
theorem HeapOk.pub' {g0 : Gh} {pk : Pk} {g : Gh} {h : Hp} (hk : HeapOk g0 pk g h) (wf : WfG g h) :
    HeapOk g0 pk (pubG g h) { h with lists := pubAll h.lists } ∧ Ext g h (pubG g h) { h with lists := pubAll h.lists } :=
  hk.pub fun id lo lo' h1 h2 _ _ => wf.nd.uniq id lo lo' h1 h2

theorem sliceO_sound {P : Program} {h : Hp} {t d id : Nat} {lo hi : Option PV} {K : Hp → PV → Prop} (hc : sliceO h (eSz P t) d id lo hi K) :
    ∃ h' pv, K h' pv ∧ ∀ g0 pk g c clo chi, HeapOk g0 pk g h → WfG g h → RepC g h (.o id) c → (∀ x, lo = some x → ∃ c, clo = some c ∧ RepPV g h x c) → (lo = none → clo = none) →
      (∀ x, hi = some x → ∃ c, chi = some c ∧ RepPV g h x c) → (hi = none → chi = none) →
      ∃ v g', (Instr.sliceAt t c clo chi none).run P g.w = .ok v g'.w ∧ HeapOk g0 pk g' h' ∧ WfG g' h' ∧ Ext g h g' h' ∧ RepPV g' h' pv v := by
  obtain ⟨L, hL0, ⟨hl, hes⟩, hc⟩ := optK_ex hc
  obtain ⟨b, hc, hbl, hhi⟩ := hiK_ex hc
  obtain ⟨a, ⟨hab, hc⟩, hlo⟩ := loK_ex hc
  unfold eSz at hes
  cases hu : P.underlying t with
  | none => simp [hu] at hes
  | some td =>
    cases td <;> simp [hu] at hes
    rename_i e
    obtain ⟨inf, hinf, hsz⟩ := hes
    by_cases hcase : L.pub = false ∧ lo = none
    · obtain ⟨hp, hln⟩ := hcase
      subst hln
      obtain ⟨hd, hK⟩ : hasKey h.lists d = false ∧ K { h with lists := (d, { L with xs := L.xs.take b }) :: upd h.lists id { L with live := false } } (.s (.c (.o d))) := by
        cases L
        simp only at hp
        subst hp
        exact hc
      refine ⟨_, _, hK, fun g0 pk g c clo chi hk hwf hr h1 h1n h2 h2n => ?_⟩
      obtain ⟨_, rfl⟩ := hr
      have hm := fnd_mem hL0
      have hL := hk.lists id L hm hl
      have ha : a = 0 := by
        rcases hlo with ⟨_, h⟩ | ⟨_, _, h, _⟩
        · exact h
        · cases h
      subst ha
      have hmem : ∀ id' lo', (id', lo') ∈ upd h.lists id { L with live := false } → lo'.live = true → (id', lo') ∈ h.lists ∧ id' ≠ id := fun id' lo' hm hl' => by
        rcases mem_upd hm with ⟨_, rfl⟩ | ⟨hne, hm⟩
        · cases hl'
        · exact ⟨hm, hne⟩
      have hszt : ∀ x ∈ L.xs.take b, x.cells.size = L.sz := fun x hx => hL.sz x (List.mem_of_mem_take hx)
      have hone : ∀ u ∈ flat (L.xs.take b), u.oneCell' = true := fun u hu => by
        obtain ⟨x, hx, hux⟩ := List.mem_flatMap.1 hu
        exact hL.one u (List.mem_flatMap.2 ⟨x, List.mem_of_mem_take hx, hux⟩)
      have key : ∃ v, (Instr.sliceAt t (g.ov id) clo chi none).run P g.w = .ok v g.w ∧ g.w.ownsRow 0 L.e L.sz v (L.xs.take b).length (flat (L.xs.take b)) ∧ v.ownBlock = blk g id ∧ v.oneCell' = true := by
        have hlb : (L.xs.take b).length = b := by simp; omega
        rcases hL.own.2 with ⟨hv, hz⟩ | ⟨gg, cap, cur, hv, hbase, hg, hnc, hcm, hcur, htake⟩
        · have hhi0 : (hi = none ∧ b = 0) ∨ ∃ k n, hi = some (vV (.int k n)) ∧ 0 ≤ n ∧ b = n.toNat := by rw [← hz]; exact hhi
          have hb0 := bounds_run (P := P) (isS := true) (len := 0) (cap := 0) hlo hhi0 hab (by omega) h1 h1n h2 h2n g.w
          refine ⟨.slice none b 0, by simp [hv, Instr.sliceAt, Instr.slice, run_underlying hu, hb0, sizeOf, typeInfo, hinf], ?_, by simp [Value.ownBlock, blk, hv], rfl⟩
          have : b = 0 := by omega
          subst this
          simpa [flat] using World.ownsRow_nil g.w 0 L.e L.sz
        · have hb0 := bounds_run (P := P) (isS := true) (len := L.xs.length) (cap := cap) hlo hhi hab (by omega) h1 h1n h2 h2n g.w
          refine ⟨.slice (some ⟨gg, 0, none⟩) b cap, by simp [hv, Instr.sliceAt, Instr.slice, run_underlying hu, hb0, sizeOf, typeInfo, hinf, Addr.add_lit], ?_, by simp [Value.ownBlock, blk, hv], rfl⟩
          rw [hlb]
          refine ⟨by rw [flat_len hszt, hlb], .inr ⟨gg, cap, cur, rfl, hbase, hg, by omega, hcm, hcur, ?_⟩⟩
          rw [← flat_take hL.sz, ← htake, List.take_take]
          congr 1
          have : b * L.sz ≤ L.xs.length * L.sz := Nat.mul_le_mul_right _ hbl
          omega
      obtain ⟨v, hrun, how, hvb, hv1⟩ := key
      obtain ⟨g', hg1, hg2, hk', hext, hovs⟩ := hk.putList hd (upd h.lists id { L with live := false }) (blk g id)
        (fun id' lo' hm' hl' => ⟨(hmem id' lo' hm' hl').1, fun b hb => hk.sepL id L id' lo' hm (hmem id' lo' hm' hl').1 hl hl' (Ne.symm (hmem id' lo' hm' hl').2) b hb⟩)
        (fun id' lo' hm => mem_upd_key hm)
        (fun id' lo' hm' => by
          rcases mem_upd hm' with ⟨rfl, _⟩ | ⟨_, hm'⟩
          · exact ⟨L, hm⟩
          · exact ⟨lo', hm'⟩)
        (fun b hb => ⟨(hL.lt hb).1, (hL.lt hb).2, fun id' cs hm' e => hk.sepX id L id' cs hm hm' hl (by rw [hb, e]), hk.listNoMap hm hl hb⟩)
        (v := v) (w' := g.w) (lo := { L with xs := L.xs.take b }) hl how hszt hL.pos hone rfl rfl rfl (Nat.le_refl _) (fun _ _ _ => rfl)
        (fun b hb o hv => by
          have := ((hL.vis b hb o).1 hv).1
          rw [hp] at this
          cases this) (fun b hb => .inl (by rw [← hvb]; exact hb))
      refine ⟨v, g', by rw [hrun, hg1], hk', ⟨fun id' lo' hm' => ?_, ⟨by rw [hasKey_upd]; exact hd, hwf.nd.upd _ _⟩⟩, hext, ⟨_, List.mem_cons_self ..⟩, hg2.symm⟩
      rcases List.mem_cons.1 hm' with hm' | hm'
      · rw [(Prod.mk.inj hm').1, hg2]; exact hv1
      · by_cases hid : id' = d
        · rw [hid, hg2]; exact hv1
        · rw [hovs id' hid]
          rcases mem_upd hm' with ⟨rfl, _⟩ | ⟨_, hm'⟩
          · exact hwf.ov _ L hm
          · exact hwf.ov id' lo' hm'
    · have hc' : K { h with lists := pubAll h.lists } (.s (.c (.l L.sz ((L.xs.take b).drop a)))) := by
        cases hp : L.pub <;> cases lo <;> simp_all
      refine ⟨_, _, hc', fun g0 pk g c clo chi hk hwf hr h1 h1n h2 h2n => ?_⟩
      obtain ⟨_, rfl⟩ := hr
      have hm := fnd_mem hL0
      obtain ⟨hk', he⟩ := hk.pub' hwf
      have hvw := own_view hk' (fnd_pubAll hm) hl rfl { h with lists := pubAll h.lists }
      have hs : sliceD { h with lists := pubAll h.lists } (eSz P t) (P.underlying t) (.l L.sz L.xs) lo hi (fun pv => pv = .s (.c (.l L.sz ((L.xs.take b).drop a)))) := by
        simp only [sliceD, hu]
        refine ⟨by simp [eSz, hu, hinf, hsz], ?_⟩
        have hh : ∀ (Q : Nat → Prop), Q b → hiK L.xs.length hi Q := fun Q hQ => by
          rcases hhi with ⟨rfl, rfl⟩ | ⟨k, n, rfl, h0, rfl⟩
          · exact hQ
          · exact ⟨h0, by omega, hQ⟩
        have hll : ∀ (Q : Nat → Prop), Q a → loK lo Q := fun Q hQ => by
          rcases hlo with ⟨rfl, rfl⟩ | ⟨k, n, rfl, h0, rfl⟩
          · exact hQ
          · exact ⟨h0, hQ⟩
        exact hh _ (hll _ ⟨hab, rfl⟩)
      obtain ⟨pv, rfl, hrun⟩ := sliceD_run (P := P) hs
      obtain ⟨v, h3, h4⟩ := hrun (pubG g h) (g.ov id) clo chi hvw (fun x hx => by obtain ⟨c, h5, h6⟩ := h1 x hx; exact ⟨c, h5, h6.ext he⟩) h1n (fun x hx => by obtain ⟨c, h5, h6⟩ := h2 x hx; exact ⟨c, h5, h6.ext he⟩) h2n
      exact ⟨v, pubG g h, h3, hk', hwf.pub, he, h4⟩

/-! ### contracts -/
def Callable (P : Program) (f : FuncId) : Prop := ∃ fn, P.funcs[f]? = some fn ∧ (fn.name == "runtime.NumGoroutine") = false ∧ fn.body.isNone = false
/-- the contract of a Go function: boxes and own lists that come in, arguments, result, what boxes and own lists there are behind the call -/
def PCalls (P : Program) (f : FuncId) (bxs : List (Nat × List C)) (ins : List (Nat × LO)) (args : List V1) (r : PV) (h' : Hp) : Prop :=
  Callable P f ∧ ∀ g (cargs : Array Value), HeapOk g ⟨bxs.map Prod.fst, ins.map Prod.fst⟩ g ⟨bxs, ins⟩ → WfG g ⟨bxs, ins⟩ → All2 (RepV1 g ⟨bxs, ins⟩) args cargs.toList →
    Calls P f cargs g.w fun e w' => ∃ g' v, e = .returned v ∧ g'.w = w' ∧ HeapOk g ⟨bxs.map Prod.fst, ins.map Prod.fst⟩ g' h' ∧ WfG g' h' ∧ RepPV g' h' r v

def memN : List Nat → Nat → Bool
  | [], _ => false
  | k :: r, t => if k = t then true else memN r t
theorem memN_iff {l : List Nat} {t : Nat} : memN l t = true ↔ t ∈ l := by
  induction l with
  | nil => simp [memN]
  | cons k r ih =>
    by_cases h : k = t
    · simp [memN, h]
    · have h' : ¬ t = k := fun e => h e.symm
      simp [memN, h, h', ih]
theorem memN_not {l : List Nat} {t : Nat} : memN l t = false ↔ t ∉ l := by rw [← memN_iff]; simp
/-- how an argument is shown to the callee: an own list that is handed in as it is; else as a readable list; nil as an empty list where the contract wants a list -/
def viewC (h : Hp) (ks : List Nat) (y : C) : C → Option C
  | .o id => if memN ks id = true then some (.o id) else match fnd h.lists id with
    | some lo => if lo.live = true then some (.l lo.sz lo.xs) else none
    | none => none
  | .e .. => none
  | .v (.slice none 0 0) => match y with
    | .l (n + 1) [] => some (.l (n + 1) [])
    | _ => some (.v (.slice none 0 0))
  | x => some x
def viewCs (h : Hp) (ks : List Nat) : List C → List C → Option (List C)
  | _, [] => some []
  | y :: ys, x :: xs => match viewC h ks y x, viewCs h ks ys xs with
    | some y, some ys => some (y :: ys)
    | _, _ => none
  | [], _ :: _ => none
def viewV1 (h : Hp) (ks : List Nat) : V1 → V1 → Option V1
  | .c y, .c x => (viewC h ks y x).map .c
  | .a ys, .a xs => (viewCs h ks ys xs).map .a
  | _, _ => none
def viewArgs (h : Hp) (ks : List Nat) : List V1 → List PV → Option (List V1)
  | _, [] => some []
  | y :: ys, .s x :: r => match viewV1 h ks y x, viewArgs h ks ys r with
    | some y, some ys => some (y :: ys)
    | _, _ => none
  | _, _ => none

/-- boxes and own lists are only named if they are among these -/
def okC (bs ks : List Nat) : C → Bool
  | .p id _ => memN bs id
  | .o id => memN ks id
  | .e .. => false
  | .sb .. => false
  | _ => true
def okV1 (bs ks : List Nat) : V1 → Bool
  | .c x => okC bs ks x
  | .a xs => xs.all (okC bs ks)

theorem WfG.pubQ {p : Nat → Bool} {g : Gh} {h : Hp} (wf : WfG g h) : WfG (PL.pubQ p g h) { h with lists := pubP p h.lists } := by
  have hk : ∀ (l : List (Nat × LO)) k, hasKey (pubP p l) k = hasKey l k := by
    intro l k
    induction l with
    | nil => rfl
    | cons x r ih => obtain ⟨i, x⟩ := x; simp only [pubP, hasKey, ih]
  have hn : ∀ (l : List (Nat × LO)), noDup l → noDup (pubP p l) := by
    intro l
    induction l with
    | nil => exact fun h => h
    | cons x r ih => obtain ⟨i, x⟩ := x; exact fun h => ⟨by rw [hk]; exact h.1, ih h.2⟩
  exact ⟨fun id lo hm => by obtain ⟨lo0, h0, _⟩ := mem_pubP hm; exact wf.ov id lo0 h0, hn _ wf.nd⟩
theorem HeapOk.pubQ' {p : Nat → Bool} {g0 : Gh} {pk : Pk} {g : Gh} {h : Hp} (hk : HeapOk g0 pk g h) (wf : WfG g h) :
    HeapOk g0 pk (PL.pubQ p g h) { h with lists := pubP p h.lists } ∧ Ext g h (PL.pubQ p g h) { h with lists := pubP p h.lists } :=
  hk.pubQ fun id lo lo' h1 h2 _ _ => wf.nd.uniq id lo lo' h1 h2

section
variable {g0 : Gh} {pk : Pk} {g : Gh} {h : Hp} (hk : HeapOk g0 pk g h) (wf : WfG g h) {bxs : List (Nat × List C)} {ins : List (Nat × LO)} 
include hk wf
theorem viewC_rep {x y y0 : C} {u : Value} (hv : viewC h (ins.map Prod.fst) y0 x = some y) (hok : okC (bxs.map Prod.fst) (ins.map Prod.fst) y = true) (hr : RepC g h x u) :
    RepC (PL.pubQ (fun i => !memN (ins.map Prod.fst) i) g h) ⟨bxs, ins⟩ y u := by
  obtain ⟨hk', he⟩ := hk.pubQ' (p := fun i => !memN (ins.map Prod.fst) i) wf
  unfold viewC at hv
  split at hv
  · rename_i id
    split at hv
    · rename_i hin
      simp only [Option.some.injEq] at hv
      subst hv
      obtain ⟨_, rfl⟩ := hr
      obtain ⟨⟨i, lo⟩, hm, rfl⟩ := List.mem_map.1 (memN_iff.1 hin)
      exact ⟨⟨lo, hm⟩, rfl⟩
    · rename_i hin
      split at hv
      · rename_i lo hlo
        split at hv
        · rename_i hl
          simp only [Option.some.injEq] at hv
          subst hv
          obtain ⟨_, rfl⟩ := hr
          have hmm := mem_pubP' (p := fun i => !memN (ins.map Prod.fst) i) (fnd_mem hlo)
          have hpt : (!memN (ins.map Prod.fst) id) = true := by simp [hin]
          simp only [hpt, if_true] at hmm
          exact own_view hk' hmm hl rfl _
        · cases hv
      · cases hv
  · cases hv
  · split at hv
    · rename_i n
      simp only [Option.some.injEq] at hv
      subst hv
      simp only [RepC] at hr
      subst hr
      exact ⟨none, 0, rfl, by simp, by simp [maxLen], ⟨by omega, by simp [flat]⟩, by simp, fun _ => rfl, fun _ h => by cases h⟩
    · simp only [Option.some.injEq] at hv
      subst hv
      exact hr
  · rename_i hno hne _
    simp only [Option.some.injEq] at hv
    subst hv
    have hr' := RepC.ext he hr
    cases x with
    | v x => exact hr'
    | l sz xs => exact hr'
    | o id => exact absurd rfl (hno id)
    | p id off =>
      simp only [okC] at hok
      obtain ⟨⟨i, cs⟩, hm, rfl⟩ := List.mem_map.1 (memN_iff.1 hok)
      exact ⟨⟨cs, hm⟩, hr'.2⟩
    | q cs => exact hr'
    | e a b c d => exact absurd rfl (hne a b c d)
    | mk R => exact hr'
    | sb id n cap => simp [okC] at hok
    | ll sz xs => exact hr'
    | ql sz xs => exact hr'
    | any => trivial
theorem viewCs_rep : ∀ {ys0 xs ys : List C} {us : List Value},
    viewCs h (ins.map Prod.fst) ys0 xs = some ys → ys.all (okC (bxs.map Prod.fst) (ins.map Prod.fst)) = true → All2 (RepC g h) xs us → All2 (RepC (PL.pubQ (fun i => !memN (ins.map Prod.fst) i) g h) ⟨bxs, ins⟩) ys us
  | _, [], ys, [], hv, _, _ => by simp [viewCs] at hv; subst hv; trivial
  | [], _ :: _, _, _ :: _, hv, _, _ => by simp [viewCs] at hv
  | y0 :: ys0, x :: xs, ys, u :: us, hv, hok, ⟨h1, h2⟩ => by
    simp only [viewCs] at hv
    cases hx : viewC h (ins.map Prod.fst) y0 x with
    | none => simp [hx] at hv
    | some y =>
      cases hxs : viewCs h (ins.map Prod.fst) ys0 xs with
      | none => simp [hx, hxs] at hv
      | some ys' =>
        simp [hx, hxs] at hv
        subst hv
        simp only [List.all_cons, Bool.and_eq_true] at hok
        exact ⟨viewC_rep hk wf hx hok.1 h1, viewCs_rep hxs hok.2 h2⟩
  | _, [], _, _ :: _, _, _, h => h.elim
  | _, _ :: _, _, [], _, _, h => h.elim
theorem viewV1_rep {x y y0 : V1} {u : Value}
    (hv : viewV1 h (ins.map Prod.fst) y0 x = some y) (hok : okV1 (bxs.map Prod.fst) (ins.map Prod.fst) y = true) (hr : RepV1 g h x u) : RepV1 (PL.pubQ (fun i => !memN (ins.map Prod.fst) i) g h) ⟨bxs, ins⟩ y u := by
  cases x with
  | c x =>
    cases y0 with
    | a _ => simp [viewV1] at hv
    | c y0 =>
      simp [viewV1] at hv
      obtain ⟨y', hy, rfl⟩ := hv
      exact viewC_rep hk wf hy hok hr
  | a xs =>
    cases y0 with
    | c _ => simp [viewV1] at hv
    | a y0 =>
      simp [viewV1] at hv
      obtain ⟨y', hy, rfl⟩ := hv
      obtain ⟨cs, rfl, h2⟩ := hr
      exact ⟨cs, rfl, viewCs_rep hk wf hy hok h2⟩
theorem viewArgs_rep : ∀ {ys0 : List V1} {xs : List PV} {ys : List V1} {us : List Value},
    viewArgs h (ins.map Prod.fst) ys0 xs = some ys → ys.all (okV1 (bxs.map Prod.fst) (ins.map Prod.fst)) = true → All2 (RepPV g h) xs us → All2 (RepV1 (PL.pubQ (fun i => !memN (ins.map Prod.fst) i) g h) ⟨bxs, ins⟩) ys us
  | _, [], ys, [], hv, _, _ => by simp [viewArgs] at hv; subst hv; trivial
  | y0 :: ys0, .s x :: xs, ys, u :: us, hv, hok, ⟨h1, h2⟩ => by
    simp only [viewArgs] at hv
    cases hx : viewV1 h (ins.map Prod.fst) y0 x with
    | none => simp [hx] at hv
    | some y =>
      cases hxs : viewArgs h (ins.map Prod.fst) ys0 xs with
      | none => simp [hx, hxs] at hv
      | some ys' =>
        simp [hx, hxs] at hv
        subst hv
        simp only [List.all_cons, Bool.and_eq_true] at hok
        exact ⟨viewV1_rep hk wf hx hok.1 h1, viewArgs_rep hxs hok.2 h2⟩
  | [], .s _ :: _, _, _ :: _, hv, _, _ => by simp [viewArgs] at hv
  | _, .t _ :: _, _, _ :: _, hv, _, _ => by simp [viewArgs] at hv
  | _, [], _, _ :: _, _, _, h => h.elim
  | _, _ :: _, _, [], _, _, h => h.elim
end

/-- a value that hangs on no memory -/
def scalC : C → Bool
  | .v _ => true
  | .any => true
  | _ => false
def scalV1 : V1 → Bool
  | .c x => scalC x
  | .a xs => xs.all scalC
def scalPV : PV → Bool
  | .s x => scalV1 x
  | .t xs => xs.all scalV1
theorem scalC_rep {g g' : Gh} {h h' : Hp} {x : C} {u : Value} (hs : scalC x = true) (hr : RepC g h x u) : RepC g' h' x u := by
  cases x <;> simp [scalC] at hs
  · exact hr
  · trivial
theorem all2_all {α β : Type} {p : α → Bool} {R S : α → β → Prop} (h : ∀ x y, p x = true → R x y → S x y) : ∀ {l : List α} {m : List β}, l.all p = true → All2 R l m → All2 S l m
  | [], [], _, _ => trivial
  | _ :: _, _ :: _, hp, ⟨a, b⟩ => by
    simp only [List.all_cons, Bool.and_eq_true] at hp
    exact ⟨h _ _ hp.1 a, all2_all h hp.2 b⟩
  | [], _ :: _, _, h => h.elim
  | _ :: _, [], _, h => h.elim
theorem scalV1_rep {g g' : Gh} {h h' : Hp} {x : V1} {u : Value} (hs : scalV1 x = true) (hr : RepV1 g h x u) : RepV1 g' h' x u := by
  cases x with
  | c x => exact scalC_rep hs hr
  | a xs => obtain ⟨cs, rfl, h2⟩ := hr; exact ⟨cs, rfl, all2_all (fun _ _ => scalC_rep) hs h2⟩
theorem scalPV_rep {g g' : Gh} {h h' : Hp} {x : PV} {u : Value} (hs : scalPV x = true) (hr : RepPV g h x u) : RepPV g' h' x u := by
  cases x with
  | s x => exact scalV1_rep hs hr
  | t xs => obtain ⟨cs, rfl, h2⟩ := hr; exact ⟨cs, rfl, all2_all (fun _ _ => scalV1_rep) hs h2⟩

theorem entryOk {g : Gh} (hin : ∀ b o, g.V b o → b < g.w.heap.size) (ht : Tab0 g ⟨[], []⟩) (hmp : ∀ b G, g.M b G → ∃ es ck, g.w.heap[b]? = some (.map es ck) ∧ G es.toList ∧ ∀ G', g.M b G' → G' = G) : HeapOk g ⟨[], []⟩ g ⟨[], []⟩ :=
  ⟨rfl, rfl, rfl, Nat.le_refl _, fun _ _ _ _ _ => rfl, fun _ _ h => ⟨h, rfl⟩, fun _ _ _ _ h => h, hin, by simp, by simp, fun _ _ h => by simp at h, fun _ _ h => by simp at h, fun _ _ _ _ h => by simp at h, fun _ _ _ _ h => by simp at h, fun _ _ _ _ h => by simp at h, ht, hmp, fun _ _ _ h => h, fun _ _ h => h⟩
theorem HeapOk.tabN {g0 : Gh} {pk : Pk} {g : Gh} {h : Hp} (hk : HeapOk g0 pk g h) : Tab0 g ⟨[], []⟩ := by
  obtain ⟨rows, h1, h2⟩ := hk.tabAt
  exact ⟨rows, h1, fun x hx => ⟨(h2 x hx).1, by simp, by simp, (h2 x hx).1.noMap hk.maps⟩⟩

/-- a call that hands back numbers, truth values, strings: nothing is published by it -/
theorem callOk_scal {P : Program} {h : Hp} {f : FuncId} {args : List PV} {vs : List V1} {r : PV} {h' : Hp} (hc : PCalls P f [] [] vs r h') (hv : viewArgs h [] vs args = some vs) (hok : vs.all (okV1 [] []) = true) (hs : scalPV r = true) : CallOk P h f args r := by
  refine ⟨hc.1, fun g0 pk g cargs hk hwf ha => ?_⟩
  obtain ⟨hk', he⟩ := hk.pubQ' (p := fun i => !memN [] i) hwf
  have hent : HeapOk (PL.pubQ (fun i => !memN [] i) g h) ⟨[], []⟩ (PL.pubQ (fun i => !memN [] i) g h) ⟨[], []⟩ := entryOk hk'.vin hk'.tabN hk'.maps
  have hargs := viewArgs_rep hk hwf (bxs := []) (ins := []) hv hok ha
  refine (hc.2 _ cargs hent ⟨fun _ _ h => by simp at h, trivial⟩ hargs).mono fun e w' hx => ?_
  obtain ⟨g', v, rfl, rfl, h1, h2, h3⟩ := hx
  have hst := hk.stepM g'.w g.V h1.os h1.tape h1.output h1.size (fun k hlt hnm => h1.frame k hlt (by simp) (by simp) hnm) (fun b G hM => by obtain ⟨es, ck, e1, e2, _⟩ := h1.maps b G (h1.mkept b G hM); exact ⟨es, ck, e1, e2⟩) (fun _ _ h => h) (fun _ _ _ h => h) (fun b o hv => by have := hk.vin b o hv; have := h1.size; simp only [PL.pubQ] at this; omega)
  exact ⟨{ g with w := g'.w, V := g.V }, v, rfl, rfl, hst.1, hst.2, scalPV_rep hs h3⟩

end Go.PL
namespace Go.PL
open Go.RowKit
set_option linter.unusedSimpArgs false
set_option linter.unusedVariables false

def dropK {α : Type} (ks : List Nat) : List (Nat × α) → List (Nat × α)
  | [] => []
  | (k, x) :: r => if k ∈ ks then dropK ks r else (k, x) :: dropK ks r
theorem mem_dropK {α : Type} {ks : List Nat} {l : List (Nat × α)} {k : Nat} {x : α} : (k, x) ∈ dropK ks l ↔ (k, x) ∈ l ∧ k ∉ ks := by
  induction l with
  | nil => simp [dropK]
  | cons y r ih =>
    obtain ⟨k', y⟩ := y
    simp only [dropK]
    split
    · rename_i hk
      rw [ih]
      constructor
      · exact fun h => ⟨List.mem_cons_of_mem _ h.1, h.2⟩
      · rintro ⟨h1, h2⟩
        rcases List.mem_cons.1 h1 with h | h
        · rw [(Prod.mk.inj h).1] at h2; exact absurd hk h2
        · exact ⟨h, h2⟩
    · rename_i hk
      rw [List.mem_cons, ih]
      constructor
      · rintro (h | h)
        · rw [h]; exact ⟨by simp, by rw [(Prod.mk.inj h).1]; exact hk⟩
        · exact ⟨List.mem_cons_of_mem _ h.1, h.2⟩
      · rintro ⟨h1, h2⟩
        rcases List.mem_cons.1 h1 with h | h
        · exact .inl h
        · exact .inr ⟨h, h2⟩
theorem dropK_nil {α : Type} (l : List (Nat × α)) : dropK [] l = l := by
  induction l with
  | nil => rfl
  | cons y r ih => obtain ⟨k', y⟩ := y; simp [dropK, ih]
theorem hasKey_append {α : Type} (l m : List (Nat × α)) (k : Nat) : hasKey (l ++ m) k = (hasKey l k || hasKey m k) := by
  induction l with
  | nil => simp [hasKey]
  | cons y r ih =>
    obtain ⟨k', y⟩ := y
    simp only [List.cons_append, hasKey]
    split
    · simp
    · exact ih
theorem noDup_append {α : Type} : ∀ {l m : List (Nat × α)}, noDup l → noDup m → (∀ k x, (k, x) ∈ l → hasKey m k = false) → noDup (l ++ m)
  | [], _, _, h, _ => h
  | (k, x) :: l, m, ⟨h1, h2⟩, hm, hd => by
    refine ⟨?_, noDup_append h2 hm fun k' x' h => hd k' x' (List.mem_cons_of_mem _ h)⟩
    show hasKey (l ++ m) k = false
    rw [hasKey_append, h1, hd k x (by simp)]
    rfl
theorem key_of_has {α : Type} {l : List (Nat × α)} {k : Nat} (h : hasKey l k = true) : ∃ x, (k, x) ∈ l := by
  induction l with
  | nil => simp [hasKey] at h
  | cons y r ih =>
    obtain ⟨k', y⟩ := y
    simp only [hasKey] at h
    split at h
    · rename_i hk; exact ⟨y, by simp [hk]⟩
    · obtain ⟨x, hx⟩ := ih h; exact ⟨x, List.mem_cons_of_mem _ hx⟩

/-- the own lists of the caller behind a call: those that were handed in are the callee's now; the others are as they were, or published -/
def restL (tmp : Bool) (ks : List Nat) (l : List (Nat × LO)) : List (Nat × LO) := if tmp = true then dropK ks l else pubAll (dropK ks l)
theorem mem_restL {tmp : Bool} {ks : List Nat} {l : List (Nat × LO)} {id : Nat} {lo : LO} (h : (id, lo) ∈ restL tmp ks l) : ∃ lo0, (id, lo0) ∈ l ∧ id ∉ ks ∧ lo = if tmp = true then lo0 else { lo0 with pub := true } := by
  unfold restL at h
  cases tmp with
  | true => obtain ⟨h1, h2⟩ := mem_dropK.1 h; exact ⟨lo, h1, h2, rfl⟩
  | false =>
    obtain ⟨lo0, h1, rfl⟩ := mem_pubAll h
    obtain ⟨h1, h2⟩ := mem_dropK.1 h1
    exact ⟨lo0, h1, h2, rfl⟩
theorem mem_restL' {tmp : Bool} {ks : List Nat} {l : List (Nat × LO)} {id : Nat} {lo : LO} (h : (id, lo) ∈ l) (hn : id ∉ ks) : ∃ lo', (id, lo') ∈ restL tmp ks l := by
  unfold restL
  cases tmp with
  | true => exact ⟨lo, mem_dropK.2 ⟨h, hn⟩⟩
  | false => exact ⟨_, mem_pubAll' (mem_dropK.2 ⟨h, hn⟩)⟩
theorem hasKey_dropK {α : Type} {ks : List Nat} {l : List (Nat × α)} {k : Nat} : hasKey (dropK ks l) k = (hasKey l k && !decide (k ∈ ks)) := by
  induction l with
  | nil => rfl
  | cons x r ih =>
    obtain ⟨i, x⟩ := x
    simp only [dropK]
    by_cases hi : i ∈ ks
    · rw [if_pos hi, ih]
      by_cases e : i = k
      · subst e; simp [hi]
      · simp [hasKey, e]
    · rw [if_neg hi]
      by_cases e : i = k
      · subst e; simp [hasKey, hi]
      · simp [hasKey, e, ih]
theorem noDup_dropK {α : Type} {ks : List Nat} : ∀ {l : List (Nat × α)}, noDup l → noDup (dropK ks l)
  | [], h => h
  | (i, x) :: r, ⟨h1, h2⟩ => by
    simp only [dropK]
    split
    · exact noDup_dropK h2
    · exact ⟨by rw [hasKey_dropK, h1]; rfl, noDup_dropK h2⟩
theorem hasKey_restL {tmp : Bool} {ks : List Nat} {l : List (Nat × LO)} {k : Nat} : hasKey (restL tmp ks l) k = (hasKey l k && !decide (k ∈ ks)) := by
  unfold restL
  cases tmp with
  | true => exact hasKey_dropK
  | false => simp only [Bool.false_eq_true, if_false]; rw [hasKey_pubAll]; exact hasKey_dropK
theorem noDup_restL {tmp : Bool} {ks : List Nat} {l : List (Nat × LO)} (h : noDup l) : noDup (restL tmp ks l) := by
  unfold restL
  cases tmp with
  | true => exact noDup_dropK h
  | false => exact (noDup_dropK h).pubAll
/-- the memory behind a call -/
def mergeH (tmp : Bool) (h : Hp) (bs ks : List Nat) (h' : Hp) : Hp :=
  { boxes := h'.boxes ++ dropK bs h.boxes, lists := h'.lists ++ restL tmp ks h.lists }
def plainC : C → Bool
  | .v _ => true
  | .l .. => true
  | .q _ => true
  | .any => true
  | .mk _ => true
  | .ll .. => true
  | .ql .. => true
  | _ => false
theorem plainC_rep {g : Gh} {h h' : Hp} {x : C} {u : Value} (hp : plainC x = true) (hr : RepC g h x u) : RepC g h' x u := by
  cases x <;> first | exact hr | (simp [plainC] at hp)
/-- a value that shows no cells -/
def nvC : C → Bool
  | .l .. => false
  | .q _ => false
  | .ll .. => false
  | .ql .. => false
  | _ => true
def nvV1 : V1 → Bool
  | .c x => nvC x
  | .a xs => xs.all nvC
def nvPV : PV → Bool
  | .s x => nvV1 x
  | .t xs => xs.all nvV1

theorem callG_ok {P : Program} {f : FuncId} {bxs : List (Nat × List C)} {ins : List (Nat × LO)} {vs : List V1} {r : PV} {h h' : Hp} {args : List PV} (tmp : Bool) (hc : PCalls P f bxs ins vs r h')
    (hbx : ∀ id cs, (id, cs) ∈ bxs → (id, cs) ∈ h.boxes ∧ cs.all plainC = true)
    (hin : ∀ id lo, (id, lo) ∈ ins → (id, lo) ∈ h.lists ∧ lo.live = true ∧ lo.pub = false) (hnd : noDup ins)
    (hv : viewArgs h (ins.map Prod.fst) vs args = some vs) (hok : vs.all (okV1 (bxs.map Prod.fst) (ins.map Prod.fst)) = true)
    (hfl : ∀ id lo, (id, lo) ∈ h'.lists → id ∈ ins.map Prod.fst ∨ hasKey h.lists id = false) (hfb : ∀ id cs, (id, cs) ∈ h'.boxes → id ∈ bxs.map Prod.fst ∨ hasKey h.boxes id = false)
    (htmp : tmp = true → nvPV r = true ∧ ∀ id cs, (id, cs) ∈ h'.boxes → cs.all nvC = true)
    {g0 : Gh} {pk : Pk} {g : Gh} {cargs : Array Value} (hk : HeapOk g0 pk g h) (wf : WfG g h) (ha : All2 (RepPV g h) args cargs.toList) :
    Calls P f cargs g.w fun e w' => ∃ g' v, e = .returned v ∧ g'.w = w' ∧ HeapOk g0 pk g' (mergeH tmp h (bxs.map Prod.fst) (ins.map Prod.fst) h') ∧ WfG g' (mergeH tmp h (bxs.map Prod.fst) (ins.map Prod.fst) h') ∧
      Ext g h g' (mergeH tmp h (bxs.map Prod.fst) (ins.map Prod.fst) h') ∧ RepPV g' (mergeH tmp h (bxs.map Prod.fst) (ins.map Prod.fst) h') r v := by
  have hargs := viewArgs_rep hk wf hv hok ha
  generalize hksd : ins.map Prod.fst = ks at *
  generalize hbsd : bxs.map Prod.fst = bs at *
  obtain ⟨hk1, he1⟩ := hk.pubQ' (p := fun i => !memN ks i) wf
  have hpf : ∀ id, id ∈ ks → (!memN ks id) = false := fun id h => by simp [memN_iff.2 h]
  have hpt : ∀ id, id ∉ ks → (!memN ks id) = true := fun id h => by simp [memN_not.2 h]
  have insk : ∀ id ∈ ks, ∃ lo, (id, lo) ∈ ins := fun id hm => by
    rw [← hksd] at hm
    obtain ⟨⟨i, lo⟩, h5, rfl⟩ := List.mem_map.1 hm
    exact ⟨lo, h5⟩
  have kins : ∀ id lo, (id, lo) ∈ ins → id ∈ ks := fun id lo hm => by rw [← hksd]; exact List.mem_map.2 ⟨_, hm, rfl⟩
  have bxk : ∀ id ∈ bs, ∃ cs, (id, cs) ∈ bxs := fun id hm => by
    rw [← hbsd] at hm
    obtain ⟨⟨i, cs⟩, h5, rfl⟩ := List.mem_map.1 hm
    exact ⟨cs, h5⟩
  have kbx : ∀ id cs, (id, cs) ∈ bxs → id ∈ bs := fun id cs hm => by rw [← hbsd]; exact List.mem_map.2 ⟨_, hm, rfl⟩
  have in1 : ∀ id lo, (id, lo) ∈ ins → (id, lo) ∈ pubP (fun i => !memN ks i) h.lists := fun id lo hm => by
    have := mem_pubP' (p := fun i => !memN ks i) (hin id lo hm).1
    simpa [hpf id (kins id lo hm)] using this
  have ou1 : ∀ id lo, (id, lo) ∈ h.lists → id ∉ ks → (id, { lo with pub := true }) ∈ pubP (fun i => !memN ks i) h.lists := fun id lo hm hn => by
    have := mem_pubP' (p := fun i => !memN ks i) hm
    simpa [hpt id hn] using this
  have tab1 := hk1.tabAt
  have hgov : (PL.pubQ (fun i => !memN ks i) g h).ov = g.ov := rfl
  have hgbx : (PL.pubQ (fun i => !memN ks i) g h).bx = g.bx := rfl
  have hgw : (PL.pubQ (fun i => !memN ks i) g h).w = g.w := rfl
  have hgV : ∀ b o, g.V b o → (PL.pubQ (fun i => !memN ks i) g h).V b o := fun b o hv => .inl hv
  have hgM : (PL.pubQ (fun i => !memN ks i) g h).M = g.M := rfl
  generalize hg1 : PL.pubQ (fun i => !memN ks i) g h = g1 at *
  have hent : HeapOk g1 ⟨bs, ks⟩ g1 ⟨bxs, ins⟩ := by
    refine ⟨rfl, rfl, rfl, Nat.le_refl _, fun _ _ _ _ _ => rfl, fun _ _ h => ⟨h, rfl⟩, fun _ _ _ _ h => h, hk1.vin, bxk, fun id hid => ⟨insk id hid, rfl⟩, fun id cs hm => ?_, fun id lo hm hl => ?_, fun id cs id' cs' hm hm' hne => ?_, fun id lo id' lo' hm hm' hl hl' hne b hb => ?_, fun id lo id' cs hm hm' hl => ?_, ?_, hk1.maps, fun _ _ _ h => h, fun _ _ h => h⟩
    · have hb := hk1.boxes id cs (hbx id cs hm).1
      obtain ⟨arr, ty, h1, h2, h3⟩ := hb.cells
      exact ⟨.inr ⟨kbx id cs hm, rfl⟩, hb.hid, arr, ty, h1, all2_all (fun _ _ => plainC_rep) (hbx id cs hm).2 h2, h3⟩
    · have hb := hk1.lists id lo (in1 id lo hm) hl
      exact ⟨hb.own, fun b hb' => .inr ⟨id, kins id lo hm, hb'⟩, hb.sz, hb.pos, hb.one, hb.vis⟩
    · exact hk1.sepB id cs id' cs' (hbx id cs hm).1 (hbx id' cs' hm').1 hne
    · exact hk1.sepL id lo id' lo' (in1 id lo hm) (in1 id' lo' hm') hl hl' hne b hb
    · exact hk1.sepX id lo id' cs (in1 id lo hm) (hbx id' cs hm').1 hl
    · obtain ⟨rows, t1, t2⟩ := tab1
      refine ⟨rows, t1, fun x hx => ⟨(t2 x hx).1, fun id hid => ?_, fun id hid => ?_, (t2 x hx).1.noMap hk1.maps⟩⟩
      · obtain ⟨cs, hm⟩ := bxk id hid
        exact (t2 x hx).2.1 id cs (hbx id cs hm).1
      · obtain ⟨lo, hm⟩ := insk id hid
        exact (t2 x hx).2.2 id lo (in1 id lo hm) (hin id lo hm).2.1
  have hwe : WfG g1 ⟨bxs, ins⟩ := ⟨fun id lo hm => by rw [hgov]; exact wf.ov id lo (hin id lo hm).1, hnd⟩
  have hcc := hc.2 g1 cargs (by rw [hksd, hbsd]; exact hent) hwe hargs
  rw [hgw, hksd, hbsd] at hcc
  refine hcc.mono fun e w' hx => ?_
  obtain ⟨g', v, rfl, rfl, h1, h2, h3⟩ := hx
  clear hcc
  let S : Nat → Prop := fun b => tmp = true ∧ ∃ id lo, (id, lo) ∈ h.lists ∧ id ∉ ks ∧ lo.live = true ∧ lo.pub = false ∧ blk g id = some b
  let gm : Gh := { w := g'.w, V := fun b o => g'.V b o ∧ ¬ S b, bx := fun id => if hasKey h'.boxes id = true then g'.bx id else g1.bx id, ov := fun id => if hasKey h'.lists id = true then g'.ov id else g1.ov id, M := g'.M }
  have gbx' : ∀ id cs, (id, cs) ∈ h'.boxes → gm.bx id = g'.bx id := fun id cs hm => by simp [gm, hasKey_of_mem hm]
  have gov' : ∀ id lo, (id, lo) ∈ h'.lists → gm.ov id = g'.ov id := fun id lo hm => by simp [gm, hasKey_of_mem hm]
  have gov : ∀ id lo, (id, lo) ∈ h.lists → id ∉ ks → gm.ov id = g.ov id ∧ hasKey h'.lists id = false := fun id lo hm0 hn => by
    have : hasKey h'.lists id = false := by
      cases hh : hasKey h'.lists id with
      | false => rfl
      | true =>
        obtain ⟨x, hx⟩ := key_of_has hh
        rcases hfl id x hx with h5 | h5
        · exact absurd h5 hn
        · rw [hasKey_of_mem hm0] at h5; cases h5
    exact ⟨by simp [gm, this, hgov], this⟩
  have gbx : ∀ id cs, (id, cs) ∈ h.boxes → id ∉ bs → gm.bx id = g.bx id := fun id cs hm hn => by
    have : hasKey h'.boxes id = false := by
      cases hh : hasKey h'.boxes id with
      | false => rfl
      | true =>
        obtain ⟨x, hx⟩ := key_of_has hh
        rcases hfb id x hx with h5 | h5
        · exact absurd h5 hn
        · rw [hasKey_of_mem hm] at h5; cases h5
    simp [gm, this, hgbx]
  have gbxk : ∀ id cs, (id, cs) ∈ h'.boxes → id ∈ bs → g'.bx id = g.bx id := fun id cs hm hin => by
    rcases (h1.boxes id cs hm).own with ⟨h5, _⟩ | ⟨_, h5⟩
    · exact absurd hin h5
    · rw [h5, hgbx]
  have blk' : ∀ id lo, (id, lo) ∈ h'.lists → blk gm id = blk g' id := fun id lo hm => by simp only [blk, gov' id lo hm]
  have blk1 : ∀ id lo, (id, lo) ∈ h.lists → id ∉ ks → blk gm id = blk g id := fun id lo hm hn => by simp only [blk, (gov id lo hm hn).1]
  have blkg : ∀ id, blk g1 id = blk g id := fun id => by simp only [blk, hgov]
  -- the blocks of the lists that were handed in
  have inB : ∀ id ∈ ks, ∀ b, blk g id = some b → Mine g0 pk b ∧ b < g.w.heap.size := fun id hid b hb => by
    obtain ⟨lo, hm⟩ := insk id hid
    exact (hk.lists id lo (hin id lo hm).1 (hin id lo hm).2.1).lt hb
  have inN : ∀ id ∈ ks, ∀ b, blk g id = some b → ∀ id' lo', (id', lo') ∈ h.lists → id' ∉ ks → lo'.live = true → blk g id' ≠ some b := fun id hid b hb id' lo' hm' hn hl' => by
    obtain ⟨lo, hm⟩ := insk id hid
    exact hk.sepL id lo id' lo' (hin id lo hm).1 hm' (hin id lo hm).2.1 hl' (fun e => hn (e ▸ hid)) b hb
  have inX : ∀ id ∈ ks, ∀ b, blk g id = some b → ∀ id' cs, (id', cs) ∈ h.boxes → g.bx id' ≠ b := fun id hid b hb id' cs hm' e => by
    obtain ⟨lo, hm⟩ := insk id hid
    exact hk.sepX id lo id' cs (hin id lo hm).1 hm' (hin id lo hm).2.1 (by rw [hb, e])
  have hsame : ∀ k, k < g.w.heap.size → (∀ id ∈ bs, g.bx id ≠ k) → (∀ id ∈ ks, blk g id ≠ some k) → (∀ G, ¬ g.M k G) → g'.w.heap[k]? = g.w.heap[k]? := fun k hlt h5 h6 h7 => by
    have := h1.frame k (by rw [hgw]; exact hlt) (fun id hid => by rw [hgbx]; exact h5 id hid) (fun id hid => by rw [blkg]; exact h6 id hid) (fun G => by rw [hgM]; exact h7 G)
    rw [hgw] at this; exact this
  have hold : ∀ b o, b < g.w.heap.size → (∀ id ∈ ks, blk g id ≠ some b) → (g'.V b o ↔ g1.V b o) := fun b o hb hn => ⟨h1.old b o (by rw [hgw]; exact hb) (fun id hid => by rw [blkg]; exact hn id hid), fun hv => (h1.vis b o hv).1⟩
  have hmB : ∀ id cs, (id, cs) ∈ (mergeH tmp h bs ks h').boxes → (id, cs) ∈ h'.boxes ∨ ((id, cs) ∈ h.boxes ∧ id ∉ bs) := fun id cs hm => by
    rcases List.mem_append.1 hm with h5 | h5
    · exact .inl h5
    · exact .inr (mem_dropK.1 h5)
  have hmL : ∀ id lo, (id, lo) ∈ (mergeH tmp h bs ks h').lists → (id, lo) ∈ h'.lists ∨ ∃ lo0, (id, lo0) ∈ h.lists ∧ id ∉ ks ∧ lo = if tmp = true then lo0 else { lo0 with pub := true } := fun id lo hm => by
    rcases List.mem_append.1 hm with h5 | h5
    · exact .inl h5
    · exact .inr (mem_restL h5)
  have hlv : ∀ (lo0 : LO), (if tmp = true then lo0 else { lo0 with pub := true }).live = lo0.live := fun lo0 => by split <;> rfl
  -- what the callee shows is shown
  have heC : ∀ x u, (tmp = true → nvC x = true) → RepC g' h' x u → RepC gm (mergeH tmp h bs ks h') x u := by
    intro x u hnv hr
    cases htm : tmp with
    | false =>
      have he' : Ext g' h' gm (mergeH tmp h bs ks h') := ⟨fun b o hv => ⟨⟨hv, fun hs => by have := hs.1; rw [htm] at this; cases this⟩, rfl⟩, fun id cs hm => ⟨⟨cs, List.mem_append_left _ hm⟩, gbx' id cs hm⟩, fun id lo hm => ⟨⟨lo, List.mem_append_left _ hm⟩, gov' id lo hm⟩, fun _ _ h => h⟩
      rw [← htm]
      exact hr.ext he'
    | true =>
      rw [← htm]
      have hnv := hnv htm
      cases x with
      | v x => exact hr
      | l sz xs => simp [nvC] at hnv
      | o id => obtain ⟨⟨lo, hm⟩, e⟩ := hr; exact ⟨⟨lo, List.mem_append_left _ hm⟩, e.trans (gov' id lo hm).symm⟩
      | p id off => obtain ⟨⟨cs, hm⟩, e⟩ := hr; exact ⟨⟨cs, List.mem_append_left _ hm⟩, by rw [gbx' id cs hm]; exact e⟩
      | q cs => simp [nvC] at hnv
      | e id sz idx off => obtain ⟨⟨lo, hm⟩, b, n, cap, e1, e2⟩ := hr; exact ⟨⟨lo, List.mem_append_left _ hm⟩, b, n, cap, by rw [gov' id lo hm]; exact e1, e2⟩
      | any => trivial
      | mk G => exact hr
      | sb id n cap => obtain ⟨⟨cs, hm⟩, e⟩ := hr; exact ⟨⟨cs, List.mem_append_left _ hm⟩, by rw [gbx' id cs hm]; exact e⟩
      | ll sz xs => simp [nvC] at hnv
      | ql sz xs => simp [nvC] at hnv
  have heL : ∀ (xs : List C) (us : List Value), (tmp = true → xs.all nvC = true) → All2 (RepC g' h') xs us → All2 (RepC gm (mergeH tmp h bs ks h')) xs us := by
    intro xs
    induction xs with
    | nil => intro us _ hr; cases us with | nil => trivial | cons _ _ => exact hr.elim
    | cons x xs ih =>
      intro us hnv hr
      cases us with
      | nil => exact hr.elim
      | cons u us =>
        exact ⟨heC x u (fun e => by have := hnv e; simp only [List.all_cons, Bool.and_eq_true] at this; exact this.1) hr.1, ih us (fun e => by have := hnv e; simp only [List.all_cons, Bool.and_eq_true] at this; exact this.2) hr.2⟩
  have heV : ∀ (x : V1) (u : Value), (tmp = true → nvV1 x = true) → RepV1 g' h' x u → RepV1 gm (mergeH tmp h bs ks h') x u := by
    intro x u hnv hr
    cases x with
    | c x => exact heC x u hnv hr
    | a xs => obtain ⟨cs, e, h5⟩ := hr; exact ⟨cs, e, heL xs _ hnv h5⟩
  have heVs : ∀ (xs : List V1) (us : List Value), (tmp = true → xs.all nvV1 = true) → All2 (RepV1 g' h') xs us → All2 (RepV1 gm (mergeH tmp h bs ks h')) xs us := by
    intro xs
    induction xs with
    | nil => intro us _ hr; cases us with | nil => trivial | cons _ _ => exact hr.elim
    | cons x xs ih =>
      intro us hnv hr
      cases us with
      | nil => exact hr.elim
      | cons u us =>
        exact ⟨heV x u (fun e => by have := hnv e; simp only [List.all_cons, Bool.and_eq_true] at this; exact this.1) hr.1, ih us (fun e => by have := hnv e; simp only [List.all_cons, Bool.and_eq_true] at this; exact this.2) hr.2⟩
  have heP : RepPV gm (mergeH tmp h bs ks h') r v := by
    cases r with
    | s x => exact heV x v (fun e => (htmp e).1) h3
    | t xs => obtain ⟨us, e, h5⟩ := h3; exact ⟨us, e, heVs xs _ (fun e => (htmp e).1) h5⟩
  -- what was shown before the call is shown
  have he2 : Ext g h gm (mergeH tmp h bs ks h') := by
    refine ⟨fun b o hv => ?_, fun id cs hm => ?_, fun id lo hm => ?_, fun b G hM => h1.mkept b G (by rw [hgM]; exact hM)⟩
    · have h5 := h1.vis b o (hgV b o hv)
      refine ⟨⟨h5.1, fun hs => ?_⟩, by rw [hgw] at h5; exact h5.2⟩
      obtain ⟨_, id, lo, hm, _, hl, hp, hb⟩ := hs
      have := (((hk.lists id lo hm hl).vis b hb o).1 hv).1
      rw [hp] at this; cases this
    · by_cases hib : id ∈ bs
      · obtain ⟨cs', hm'⟩ := h1.pkin id hib
        exact ⟨⟨cs', List.mem_append_left _ hm'⟩, (gbx' id cs' hm').trans (gbxk id cs' hm' hib)⟩
      · exact ⟨⟨cs, List.mem_append_right _ (mem_dropK.2 ⟨hm, hib⟩)⟩, gbx id cs hm hib⟩
    · by_cases hik : id ∈ ks
      · obtain ⟨⟨lo', hm'⟩, e⟩ := h1.lsin id hik
        exact ⟨⟨lo', List.mem_append_left _ hm'⟩, by rw [gov' id lo' hm', e, hgov]⟩
      · obtain ⟨lo', hm'⟩ := mem_restL' (tmp := tmp) hm hik
        exact ⟨⟨lo', List.mem_append_right _ hm'⟩, (gov id lo hm hik).1⟩
  have keepB : ∀ id cs, (id, cs) ∈ h.boxes → id ∉ bs → g'.w.heap[g.bx id]? = g.w.heap[g.bx id]? := fun id cs hm hn => by
    refine hsame _ (hk.boxes id cs hm).lt (fun id' hid' e => ?_) (fun id' hid' e => inX id' hid' _ e id cs hm rfl) (hk.boxNoMap hm)
    obtain ⟨cs', h5⟩ := bxk id' hid'
    exact hk.sepB id' cs' id cs (hbx id' cs' h5).1 hm (fun e' => hn (e' ▸ hid')) e
  have keepL : ∀ id lo, (id, lo) ∈ h.lists → id ∉ ks → lo.live = true → ∀ b, blk g id = some b → g'.w.heap[b]? = g.w.heap[b]? := fun id lo hm hn hl b hb => by
    refine hsame _ ((hk.lists id lo hm hl).lt hb).2 (fun id' hid' e => ?_) (fun id' hid' e => inN id' hid' b e id lo hm hn hl hb) (hk.listNoMap hm hl hb)
    obtain ⟨cs', h5⟩ := bxk id' hid'
    exact hk.sepX id lo id' cs' hm (hbx id' cs' h5).1 hl (by rw [hb, e])
  have bxcase : ∀ id cs, (id, cs) ∈ h'.boxes → g.w.heap.size ≤ g'.bx id ∨ ∃ cs0, (id, cs0) ∈ bxs ∧ g'.bx id = g.bx id := fun id cs hm => by
    rcases (h1.boxes id cs hm).own with ⟨_, h5⟩ | ⟨h5, h6⟩
    · rw [hgw] at h5; exact .inl h5
    · obtain ⟨cs0, h7⟩ := bxk id h5
      exact .inr ⟨cs0, h7, by rw [h6, hgbx]⟩
  have lscase : ∀ id lo, (id, lo) ∈ h'.lists → lo.live = true → ∀ b, blk g' id = some b → g.w.heap.size ≤ b ∨ ∃ id' ∈ ks, blk g id' = some b := fun id lo hm hl b hb => by
    rcases (h1.lists id lo hm hl).mine b hb with h5 | ⟨id', h5, h6⟩
    · rw [hgw] at h5; exact .inl h5
    · exact .inr ⟨id', h5, by rw [← blkg]; exact h6⟩
  have hsz1 : g.w.heap.size ≤ g'.w.heap.size := by have := h1.size; rw [hgw] at this; exact this
  have hkm : HeapOk g0 pk gm (mergeH tmp h bs ks h') := by
    refine ⟨h1.os.trans (by rw [hgw]; exact hk.os), h1.tape.trans (by rw [hgw]; exact hk.tape), h1.output.trans (by rw [hgw]; exact hk.output), Nat.le_trans hk.size hsz1, ?_, ?_, ?_, fun b o hv => h1.vin b o hv.1, ?_, ?_, ?_, ?_, ?_, ?_, ?_, hk.tab, h1.maps, fun b G hb hM => hk.mold b G hb (by rw [← hgM]; exact h1.mold b G (by rw [hgw]; exact Nat.lt_of_lt_of_le hb hk.size) hM), fun b G hM => h1.mkept b G (by rw [hgM]; exact hk.mkept b G hM)⟩
    · intro k hlt hne hne2 hnm
      rw [← hk.frame k hlt hne hne2 hnm]
      refine hsame k (Nat.lt_of_lt_of_le hlt hk.size) (fun id hid e => ?_) (fun id hid e => ?_) (fun G hG => hnm G (hk.mold k G hlt hG))
      · obtain ⟨cs', h5⟩ := bxk id hid
        rcases (hk.boxes id cs' (hbx id cs' h5).1).own with ⟨_, h6⟩ | ⟨h6, h7⟩
        · omega
        · exact hne id h6 (by rw [← h7, e])
      · rcases (inB id hid k e).1 with h5 | ⟨id', h5, h6⟩
        · omega
        · exact hne2 id' h5 h6
    · intro b o hv
      have h5 := hk.vis b o hv
      have h6 := he2.vis b o h5.1
      exact ⟨h6.1, h6.2.trans h5.2⟩
    · intro b o hb hn hv
      have h5 : ∀ id ∈ ks, blk g id ≠ some b := fun id hid e => by
        rcases (inB id hid b e).1 with h5 | ⟨id', h5, h6⟩
        · omega
        · exact hn id' h5 h6
      exact hk1.old b o hb hn ((hold b o (Nat.lt_of_lt_of_le hb hk.size) h5).1 hv.1)
    · intro id hid
      obtain ⟨cs, hm⟩ := hk.pkin id hid
      exact (he2.box id cs hm).1
    · intro id hid
      obtain ⟨⟨lo, hm⟩, e⟩ := hk.lsin id hid
      exact ⟨(he2.lst id lo hm).1, (he2.lst id lo hm).2.trans e⟩
    · intro id cs hm
      rcases hmB id cs hm with hm | ⟨hm, hn⟩
      · have hb := h1.boxes id cs hm
        obtain ⟨arr, ty, h5, h6, h7⟩ := hb.cells
        refine ⟨?_, ?_, arr, ty, ?_, heL cs _ (fun e => (htmp e).2 id cs hm) h6, h7⟩
        · rw [gbx' id cs hm]
          rcases bxcase id cs hm with h8 | ⟨cs0, h8, h9⟩
          · left
            refine ⟨fun hin => ?_, Nat.le_trans hk.size h8⟩
            obtain ⟨cs1, hm1⟩ := hk.pkin id hin
            rcases hfb id cs hm with h10 | h10
            · rw [gbxk id cs hm h10] at h8
              have := (hk.boxes id cs1 hm1).lt
              omega
            · rw [hasKey_of_mem hm1] at h10; cases h10
          · rw [h9]
            exact (hk.boxes id cs0 (hbx id cs0 h8).1).own
        · rw [gbx' id cs hm]; exact fun o hv => hb.hid o hv.1
        · rw [gbx' id cs hm]; exact h5
      · have hb := hk.boxes id cs hm
        refine hb.keep he2 (gbx id cs hm hn) (keepB id cs hm hn) fun o hv => ?_
        have := (hk1.boxes id cs hm).hid o
        rw [hgbx] at this
        exact this ((hold _ o hb.lt fun id' hid' e => inX id' hid' _ e id cs hm rfl).1 hv.1)
    · intro id lo hm hl
      rcases hmL id lo hm with hm | ⟨lo0, hm0, hn, rfl⟩
      · have hb := h1.lists id lo hm hl
        refine ⟨by rw [gov' id lo hm]; exact hb.own, fun b hb' => ?_, hb.sz, hb.pos, hb.one, fun b hb' o => ?_⟩
        · rw [blk' id lo hm] at hb'
          rcases lscase id lo hm hl b hb' with h5 | ⟨id', h5, h6⟩
          · exact .inl (Nat.le_trans hk.size h5)
          · exact (inB id' h5 b h6).1
        · rw [blk' id lo hm] at hb'
          rw [← hb.vis b hb' o]
          refine ⟨fun h => h.1, fun h => ⟨h, fun hs => ?_⟩⟩
          obtain ⟨_, id2, lo2, hm2, hn2, hl2, _, hb2⟩ := hs
          rcases lscase id lo hm hl b hb' with h5 | ⟨id', h5, h6⟩
          · have := ((hk.lists id2 lo2 hm2 hl2).lt hb2).2; omega
          · exact inN id' h5 b h6 id2 lo2 hm2 hn2 hl2 hb2
      · clear hm
        have hm := hm0
        rw [hlv] at hl
        have hb := hk.lists id lo0 hm hl
        have hb1 := hk1.lists id { lo0 with pub := true } (ou1 id lo0 hm hn) hl
        have hkeep : ∀ b, blk gm id = some b → blk g id = some b := fun b hb' => by rw [← blk1 id lo0 hm hn]; exact hb'
        have base := hb.keep (g' := { gm with V := g.V }) (gov id lo0 hm hn).1 (keepL id lo0 hm hn hl) fun _ _ _ => Iff.rfl
        cases htm : tmp with
        | true =>
          simp only [if_true]
          refine ⟨base.own, base.mine, base.sz, base.pos, base.one, fun b hb' o => ?_⟩
          have hb2 := hkeep b hb'
          constructor
          · rintro ⟨hv, hns⟩
            have hp : lo0.pub = true := by
              cases hp : lo0.pub with
              | true => rfl
              | false => exact absurd ⟨htm, id, lo0, hm, hn, hl, hp, hb2⟩ hns
            have := (hold b o (hb.lt hb2).2 fun id' hid' e => inN id' hid' b e id lo0 hm hn hl hb2).1 hv
            exact ⟨hp, ((hb1.vis b (by rw [blkg]; exact hb2) o).1 this).2⟩
          · exact fun h => (he2.vis b o ((hb.vis b hb2 o).2 h)).1
        | false =>
          simp only [Bool.false_eq_true, if_false]
          refine ⟨base.own, base.mine, base.sz, base.pos, base.one, fun b hb' o => ?_⟩
          have hb2 := hkeep b hb'
          rw [← hb1.vis b (by rw [blkg]; exact hb2) o, ← hold b o (hb.lt hb2).2 fun id' hid' e => inN id' hid' b e id lo0 hm hn hl hb2]
          exact ⟨fun h => h.1, fun h => ⟨h, fun hs => by have := hs.1; rw [htm] at this; cases this⟩⟩
    · intro id cs id' cs' hm hm' hne
      rcases hmB id cs hm with h5 | ⟨h5, hn⟩ <;> rcases hmB id' cs' hm' with h6 | ⟨h6, hn'⟩
      · rw [gbx' _ _ h5, gbx' _ _ h6]; exact h1.sepB id cs id' cs' h5 h6 hne
      · rw [gbx' _ _ h5, gbx _ _ h6 hn']
        rcases bxcase id cs h5 with h7 | ⟨cs0, h7, h8⟩
        · have := (hk.boxes id' cs' h6).lt; omega
        · rw [h8]; exact hk.sepB id cs0 id' cs' (hbx id cs0 h7).1 h6 hne
      · rw [gbx _ _ h5 hn, gbx' _ _ h6]
        rcases bxcase id' cs' h6 with h7 | ⟨cs0, h7, h8⟩
        · have := (hk.boxes id cs h5).lt; omega
        · rw [h8]; exact hk.sepB id cs id' cs0 h5 (hbx id' cs0 h7).1 hne
      · rw [gbx _ _ h5 hn, gbx _ _ h6 hn']; exact hk.sepB id cs id' cs' h5 h6 hne
    · intro id lo id' lo' hm hm' hl hl' hne b hb
      rcases hmL id lo hm with h5 | ⟨lo0, h5, hn, rfl⟩ <;> rcases hmL id' lo' hm' with h6 | ⟨lo1, h6, hn', rfl⟩
      · rw [blk' _ _ h5] at hb; rw [blk' _ _ h6]; exact h1.sepL id lo id' lo' h5 h6 hl hl' hne b hb
      · rw [hlv] at hl'
        rw [blk' _ _ h5] at hb
        rw [blk1 _ _ h6 hn']
        intro e
        rcases lscase id lo h5 hl b hb with h7 | ⟨id2, h7, h8⟩
        · have := ((hk.lists id' lo1 h6 hl').lt e).2; omega
        · exact inN id2 h7 b h8 id' lo1 h6 hn' hl' e
      · rw [hlv] at hl
        rw [blk1 _ _ h5 hn] at hb
        rw [blk' _ _ h6]
        intro e
        rcases lscase id' lo' h6 hl' b e with h7 | ⟨id2, h7, h8⟩
        · have := ((hk.lists id lo0 h5 hl).lt hb).2; omega
        · exact inN id2 h7 b h8 id lo0 h5 hn hl hb
      · rw [hlv] at hl hl'
        rw [blk1 _ _ h5 hn] at hb; rw [blk1 _ _ h6 hn']; exact hk.sepL id lo0 id' lo1 h5 h6 hl hl' hne b hb
    · intro id lo id' cs hm hm' hl
      rcases hmL id lo hm with h5 | ⟨lo0, h5, hn, rfl⟩ <;> rcases hmB id' cs hm' with h6 | ⟨h6, hn'⟩
      · rw [blk' _ _ h5, gbx' _ _ h6]; exact h1.sepX id lo id' cs h5 h6 hl
      · rw [blk' _ _ h5, gbx _ _ h6 hn']
        intro e
        rcases lscase id lo h5 hl _ e with h7 | ⟨id2, h7, h8⟩
        · have := (hk.boxes id' cs h6).lt; omega
        · exact inX id2 h7 _ h8 id' cs h6 rfl
      · rw [hlv] at hl
        rw [blk1 _ _ h5 hn, gbx' _ _ h6]
        intro e
        rcases bxcase id' cs h6 with h7 | ⟨cs0, h7, h8⟩
        · have h9 := ((hk.lists id lo0 h5 hl).lt e).2
          omega
        · exact hk.sepX id lo0 id' cs0 h5 (hbx id' cs0 h7).1 hl (by rw [e, h8])
      · rw [hlv] at hl
        rw [blk1 _ _ h5 hn, gbx _ _ h6 hn']; exact hk.sepX id lo0 id' cs h5 h6 hl
  have hwf : WfG gm (mergeH tmp h bs ks h') := by
    refine ⟨fun id lo hm => ?_, noDup_append h2.nd (noDup_restL wf.nd) fun k x hm => ?_⟩
    · rcases hmL id lo hm with h5 | ⟨lo0, h5, hn, _⟩
      · rw [gov' id lo h5]; exact h2.ov id lo h5
      · rw [(gov id lo0 h5 hn).1]; exact wf.ov id lo0 h5
    · rw [hasKey_restL]
      rcases hfl k x hm with h5 | h5
      · simp [h5]
      · simp [h5]
  exact ⟨gm, v, rfl, rfl, hkm, hwf, he2, heP⟩

end Go.PL
namespace Go.PL
open Go.WideMaps
set_option linter.unusedSimpArgs false
set_option linter.unusedVariables false
def MapT (P : Program) (t : TypeId) : Prop := ∃ k e ek, P.underlying t = some (.map k e) ∧ ArrKey P k ek 2 ∧ P.underlying ek = some (.int .i64) ∧ (P.types.size == 0) = false ∧ (P.info? e).bind (·.zero) = some (.int .i64 0)
theorem key2 {P : Program} {k ek : TypeId} (A : ArrKey P k ek 2) (he : P.underlying ek = some (.int .i64)) (hsz : (P.types.size == 0) = false) {a b : Int} (ha : inK .i64 a) (hb : inK .i64 b) :
    ∃ l, keyOf P k (.agg #[.int .i64 a, .int .i64 b]) = some l := by
  obtain ⟨m0, hm0⟩ : ∃ m, P.types.size = m + 1 := ⟨P.types.size - 1, by have := beq_eq_false_iff_ne.1 hsz; omega⟩
  have hkt := A.keyType ⟨m0, hm0⟩
  have wa : (Lit.int .i64 a).wf = true := by
    obtain ⟨h1, h2⟩ := (inK_i64 a).1 ha
    simp [Lit.wf, IntKind.min, IntKind.max, IntKind.signed, IntKind.bits]
    omega
  have wb : (Lit.int .i64 b).wf = true := by
    obtain ⟨h1, h2⟩ := (inK_i64 b).1 hb
    simp [Lit.wf, IntKind.min, IntKind.max, IntKind.signed, IntKind.bits]
    omega
  unfold keyOf
  simp only [A.hu]
  rw [if_pos (by simp [hkt, Value.formed, A.hu, A.size]), hm0]
  unfold Program.keyLits
  simp only [A.hu, Value.cells]
  rw [if_pos (by rw [A.size]; rfl), A.one]
  have hr : List.range 2 = [0, 1] := rfl
  refine ⟨.string (keyBytes [.int .i64 a, .int .i64 b]), ?_⟩
  simp [hr, Program.keyLits, he, wa, wb]
theorem gr_keys {P : Program} {k ek : TypeId} (A : ArrKey P k ek 2) (he : P.underlying ek = some (.int .i64)) (hsz : (P.types.size == 0) = false) {R : Int → Int → Int → Prop} {es : List MapEntry} (h : GR R es) :
    ∀ e ∈ es, ∃ l, keyOf P k e.key = some l := fun e hm => by
  obtain ⟨a, b, v, h1, _, ha, hb, _⟩ := h e hm
  rw [h1]
  exact key2 A he hsz ((inK_i64 a).2 ha) ((inK_i64 b).2 hb)
theorem lookup_run {P : Program} {t : TypeId} (T : MapT P t) {R : Int → Int → Int → Prop} {w : World} {m : Nat} {es : Array MapEntry} {ck : Nat} (hm : w.heap[m]? = some (.map es ck)) (h : GR R es.toList) {a b : Int} (ha : inK .i64 a) (hb : inK .i64 b) :
    ∃ v ok, (Instr.lookup t (.map (some m)) (.agg #[.int .i64 a, .int .i64 b]) true).run P w = .ok (.tuple #[.int .i64 v, .bool ok]) w ∧ (ok = true → R a b v) ∧ (ok = false → v = 0) := by
  obtain ⟨k, e, ek, ht, A, he, hsz, hz0⟩ := T
  obtain ⟨i, hi, hz⟩ := Option.bind_eq_some_iff.1 hz0
  obtain ⟨kl, hkey⟩ := key2 A he hsz ha hb
  have K := A.law
  have hzr : (zeroValue e).run P w = .ok (.int .i64 0) w := by simp [zeroValue, typeInfo, hi, hz]
  rcases K.find w hkey es.toList (gr_keys A he hsz h) with ⟨h1, h2⟩ | ⟨j, e0, h1, h2, h3⟩
  · exact ⟨0, false, by simp [Instr.lookup, run_underlying ht, MapKept.run_getObj_map hm, K.check w _ hkey, h1, hzr, Result.andThen], by simp, fun _ => rfl⟩
  · obtain ⟨a', b', v, e1, e2, _, _, hR⟩ := h e0 (List.mem_of_getElem? h2)
    rw [h3] at e1
    simp only [Value.agg.injEq, Array.mk.injEq, List.cons.injEq, Value.int.injEq, true_and, and_true] at e1
    obtain ⟨rfl, rfl⟩ := e1
    exact ⟨v, true, by simp [Instr.lookup, run_underlying ht, MapKept.run_getObj_map hm, K.check w _ hkey, h1, e2, Result.andThen], fun _ => hR, by simp⟩
theorem update_run {P : Program} {t : TypeId} (T : MapT P t) {R : Int → Int → Int → Prop} {w : World} {m : Nat} {es : Array MapEntry} {ck : Nat} (hm : w.heap[m]? = some (.map es ck)) (h : GR R es.toList) {a b v : Int} (ha : inK .i64 a) (hb : inK .i64 b) (hR : R a b v) :
    ∃ es' ck', (Instr.mapUpdate t (.map (some m)) (.agg #[.int .i64 a, .int .i64 b]) (.int .i64 v)).run P w = .ok () { w with heap := w.heap.setIfInBounds m (.map es' ck') } ∧ GR R es'.toList := by
  obtain ⟨k, e, ek, ht, A, he, hsz, hz0⟩ := T
  obtain ⟨i, hi, hz⟩ := Option.bind_eq_some_iff.1 hz0
  obtain ⟨kl, hkey⟩ := key2 A he hsz ha hb
  have K := A.law
  rcases K.find w hkey es.toList (gr_keys A he hsz h) with ⟨h1, h2⟩ | ⟨j, e0, h1, h2, h3⟩
  · refine ⟨es.push ⟨.agg #[.int .i64 a, .int .i64 b], .int .i64 v, ck⟩, ck + 1, by simp [Instr.mapUpdate, run_underlying ht, MapKept.run_getObj_map hm, K.check w false hkey, h1, MapKept.run_setObj_map _ hm, Result.andThen], ?_⟩
    intro x hx
    simp only [Array.toList_push, List.mem_append, List.mem_singleton] at hx
    rcases hx with hx | rfl
    · exact h x hx
    · exact ⟨a, b, v, rfl, rfl, (inK_i64 a).1 ha, (inK_i64 b).1 hb, hR⟩
  · have hj : es[j]? = some e0 := by simpa using h2
    refine ⟨es.modify j (fun e' => { e' with key := .agg #[.int .i64 a, .int .i64 b], val := .int .i64 v }), ck, by simp [Instr.mapUpdate, run_underlying ht, MapKept.run_getObj_map hm, K.check w false hkey, h1, hj, h3, K.stays w hkey, MapKept.run_setObj_map _ hm, Result.andThen], ?_⟩
    intro x hx
    rcases MapFrom.mem_modify hx with hx | ⟨e', _, rfl⟩
    · exact h x hx
    · exact ⟨a, b, v, rfl, rfl, (inK_i64 a).1 ha, (inK_i64 b).1 hb, hR⟩
end Go.PL
namespace Go.PL
open Go.RowKit
set_option linter.unusedSimpArgs false
set_option linter.unusedVariables false

def CallK (P : Program) (σ : St) (dst : Option Nat) (f : FuncId) (args : List PV) (K : St → Prop) : Prop :=
  (∃ r, CallOk P σ.h f args r ∧ K (σ.put dst r)) ∨
  (∃ tmp bxs ins vs r h', PCalls P f bxs ins vs r h' ∧ (∀ id cs, (id, cs) ∈ bxs → (id, cs) ∈ σ.h.boxes ∧ cs.all plainC = true) ∧
    (∀ id lo, (id, lo) ∈ ins → (id, lo) ∈ σ.h.lists ∧ lo.live = true ∧ lo.pub = false) ∧ noDup ins ∧
    viewArgs σ.h (ins.map Prod.fst) vs args = some vs ∧ vs.all (okV1 (bxs.map Prod.fst) (ins.map Prod.fst)) = true ∧
    (∀ id lo, (id, lo) ∈ h'.lists → id ∈ ins.map Prod.fst ∨ hasKey σ.h.lists id = false) ∧ (∀ id cs, (id, cs) ∈ h'.boxes → id ∈ bxs.map Prod.fst ∨ hasKey σ.h.boxes id = false) ∧
    (tmp = true → nvPV r = true ∧ ∀ id cs, (id, cs) ∈ h'.boxes → cs.all nvC = true) ∧
    K ({ σ with h := mergeH tmp σ.h (bxs.map Prod.fst) (ins.map Prod.fst) h' }.put dst r))

def callOp (P : Program) (dst : Option Nat) (c : Call) (σ : St) (K : St → Prop) : Prop :=
  match c.callee with
  | .builtin .append => match c.args.toList, c.argTypes.toList with
    | [s, x], [t, t'] => c1K (σ.ev s) fun s => c1K (σ.ev x) fun x => optK (eInf P t) fun ei => optK dst fun d => optK (srcOf σ.h ei.2.1 x) fun sy =>
        (okS P t t' x ∧ sy.1 = ei.2.1 ∧ hasKey σ.h.lists d = false) ∧ appendK σ.h ei d s sy.2 fun h' => K ({ σ with h := h' }.put (some d) (.s (.c (.o d))))
    | _, _ => False
  | .value (.func f) => CallK P σ dst f (c.args.toList.map σ.ev) K
  | _ => callA P σ.h σ.ev c fun pv => K (σ.put dst pv)

def opK (P : Program) (op : Op) (dst : Option Nat) (σ : St) (K : St → Prop) : Prop :=
  match op with
  | .box _ x => v1K (σ.ev x) fun y => optK (cells1 y) fun cs => optK dst fun d => hasKey σ.h.boxes d = false ∧ K ({ σ with h := { σ.h with boxes := (d, cs) :: σ.h.boxes } }.put (some d) (.s (.c (.p d 0))))
  | .alloc t => optK (zeroCs P t) fun zs => optK dst fun d => (zs.all Value.oneCell' = true ∧ hasKey σ.h.boxes d = false) ∧ K ({ σ with h := { σ.h with boxes := (d, zs.map .v) :: σ.h.boxes } }.put (some d) (.s (.c (.p d 0))))
  | .store t a x => c1K (σ.ev a) fun p => v1K (σ.ev x) fun y => optK (cells1 y) fun cs => optK (szOf P t) fun n => n = cs.length ∧ storeK σ.h p y cs fun h' => K ({ σ with h := h' }.put dst uV)
  | .buildSlice t n parts => optK dst fun d => bsK P σ.h σ.ev t n d parts.toList fun h' => K ({ σ with h := h' }.put (some d) (.s (.c (.o d))))
  | .slice t x lo hi mx => match σ.ev x with
    | .s (.c (.o id)) => mx.isNone = true ∧ optK dst fun d => sliceO σ.h (eSz P t) d id (lo.map σ.ev) (hi.map σ.ev) fun h' pv => K ({ σ with h := h' }.put (some d) pv)
    | _ => opA P σ.h σ.ev (.slice t x lo hi mx) fun pv => K (σ.put dst pv)
  | .call c => callOp P dst c σ K
  | .makeMap _ r => r.isNone = true ∧ ∃ R, K (σ.put dst (.s (.c (.mk R))))
  | .makeSlice t l c => c1K (σ.ev l) fun l => c1K (σ.ev c) fun c => match l, c with
    | .v l, .v c => optK dst fun d => msK P σ.h t d l c fun h' => K ({ σ with h := h' }.put (some d) (.s (.c (.o d))))
    | _, _ => False
  | op => opA P σ.h σ.ev op fun pv => K (σ.put dst pv)

theorem St.ev_func (σ : St) (f : FuncId) : σ.ev (.func f) = vV (.func (.func f) #[] #[]) := rfl

theorem opA_wp {P : Program} {σ : St} {o : Oper} {K : St → Prop} (hc : opA P σ.h σ.ev o.op fun pv => K (σ.put o.dst pv)) {g0 : Gh} {pk : Pk} {g : Gh} {a : Act} (s : SimG g0 pk g σ a) (Q : Exit → Act → World → Prop) :
    o.wp P a g.w (fun a' w' => ∃ σ', K σ' ∧ Sim g0 pk σ' a' w') Q := by
  obtain ⟨pv, hK, hy⟩ := opA_sound (o := o) (fun f => rfl) hc
  refine hy g0 pk g a s.heap s.wf (fun x _ => s.ev x) _ Q fun g' v hk he hr => ?_
  exact ⟨_, hK, g', rfl, s.put hk (s.wf.ext he) he hr⟩

theorem opK_sound {P : Program} {σ : St} {o : Oper} {K : St → Prop} (hc : opK P o.op o.dst σ K) {g0 : Gh} {pk : Pk} {g : Gh} {a : Act} (s : SimG g0 pk g σ a) (Q : Exit → Act → World → Prop) :
    o.wp P a g.w (fun a' w' => ∃ σ', K σ' ∧ Sim g0 pk σ' a' w') Q := by
  obtain ⟨dst, op, type, pos, after, guard⟩ := o
  cases op
  case box t x =>
    simp only [opK] at hc
    obtain ⟨y, hy, hc⟩ := v1K_ex hc
    obtain ⟨cs, hcs, hc⟩ := optK_ex hc
    obtain ⟨d, hd, hdk, hK⟩ := optK_ex hc
    subst hd
    have hx := s.ev x
    rw [hy] at hx
    obtain ⟨h1, h2⟩ := cells1_rep s.wf.ov hcs hx
    obtain ⟨g', hw, hbx, hov, hk', he⟩ := s.heap.addBox hdk t h1 h2
    unfold Oper.wp
    have hr : (execOp a.eval ⟨some d, .box t x, type, pos, after, guard⟩).run P g.w = .ok (.value (.pointer (some ⟨g.w.heap.size, 0, none⟩))) g'.w := by
      rw [hw]
      simp [execOp, Instr.box, newVar, newRow]
    rw [hr]
    exact ⟨_, hK, g', rfl, s.put hk' ⟨fun id lo hm => by rw [hov]; exact s.wf.ov id lo hm, s.wf.nd⟩ he (pv := .s (.c (.p d 0))) ⟨⟨cs, by simp⟩, by rw [hbx]⟩⟩
  case alloc t =>
    simp only [opK] at hc
    obtain ⟨zs, hzs, hc⟩ := optK_ex hc
    obtain ⟨d, hd, ⟨hone, hdk⟩, hK⟩ := optK_ex hc
    subst hd
    unfold zeroCs at hzs
    split at hzs
    · rename_i i hi
      cases hz : i.zero with
      | none => simp [hz] at hzs
      | some z =>
        simp [hz] at hzs
        subst hzs
        obtain ⟨g', hw, hbx, hov, hk', he⟩ := s.heap.addBox hdk (cs := z.cells.toList.map .v) (arr := z.cells) t (All2.of_v _) (List.all_eq_true.1 hone)
        unfold Oper.wp
        have hr : (execOp a.eval ⟨some d, .alloc t, type, pos, after, guard⟩).run P g.w = .ok (.value (.pointer (some ⟨g.w.heap.size, 0, none⟩))) g'.w := by
          rw [hw]
          simp [execOp, Instr.alloc, newVar, newRow, zeroValue, typeInfo, hi, hz]
        rw [hr]
        exact ⟨_, hK, g', rfl, s.put hk' ⟨fun id lo hm => by rw [hov]; exact s.wf.ov id lo hm, s.wf.nd⟩ he (pv := .s (.c (.p d 0))) ⟨⟨z.cells.toList.map .v, by simp⟩, by rw [hbx]⟩⟩
    · cases hzs
  case store t ad x =>
    simp only [opK] at hc
    obtain ⟨p, hp, hc⟩ := c1K_ex hc
    obtain ⟨y, hy, hc⟩ := v1K_ex hc
    obtain ⟨cs, hcs, hc⟩ := optK_ex hc
    obtain ⟨n, hn, hlen, hc⟩ := optK_ex hc
    have h1 := s.ev ad
    have h2 := s.ev x
    rw [hp] at h1
    rw [hy] at h2
    obtain ⟨h', hK, hrun⟩ := storeK_sound hn hlen hcs hc
    obtain ⟨g', hr, hk', hwf, he⟩ := hrun g0 pk g _ _ s.heap s.wf h1 h2
    unfold Oper.wp
    have hr' : (execOp a.eval ⟨dst, .store t ad x, type, pos, after, guard⟩).run P g.w = .ok .skip g'.w := by simp [execOp, hr]
    rw [hr']
    exact ⟨_, hK, g', rfl, s.put hk' hwf he (pv := uV) rfl⟩
  case buildSlice t n parts =>
    simp only [opK] at hc
    obtain ⟨d, hd, hc2⟩ := optK_ex hc
    subst hd
    obtain ⟨h', hK, hrun⟩ := bsK_sound hc2
    obtain ⟨v, g', hr, hk', hwf, he, hrep⟩ := hrun g0 pk g a.eval s.heap s.wf (fun p _ => s.ev p.2)
    unfold Oper.wp
    have hr' : (execOp a.eval ⟨some d, .buildSlice t n parts, type, pos, after, guard⟩).run P g.w = .ok (.value v) g'.w := by simp [execOp, hr]
    rw [hr']
    exact ⟨_, hK, g', rfl, s.put hk' hwf he (pv := .s (.c (.o d))) hrep⟩
  case makeSlice t l c =>
    simp only [opK] at hc
    obtain ⟨cl, hl, hc⟩ := c1K_ex hc
    obtain ⟨cc, hcc, hc⟩ := c1K_ex hc
    split at hc
    · rename_i lv cv _
      obtain ⟨d, hd, hc2⟩ := optK_ex hc
      subst hd
      obtain ⟨h', hK, hrun⟩ := msK_sound hc2
      obtain ⟨v, g', hr, hk', hwf, he, hrep⟩ := hrun g0 pk g s.heap s.wf
      have h1 := s.ev l
      have h2 := s.ev c
      rw [hl] at h1
      rw [hcc] at h2
      have e1 : a.eval l = lv := h1
      have e2 : a.eval c = cv := h2
      unfold Oper.wp
      have hr' : (execOp a.eval ⟨some d, .makeSlice t l c, type, pos, after, guard⟩).run P g.w = .ok (.value v) g'.w := by simp [execOp, e1, e2, hr]
      rw [hr']
      exact ⟨_, hK, g', rfl, s.put hk' hwf he (pv := .s (.c (.o d))) hrep⟩
    · exact hc.elim
  case slice t x lo hi mx =>
    simp only [opK] at hc
    split at hc
    · rename_i id hx
      obtain ⟨hmx, hc⟩ := hc
      obtain ⟨d, hd, hc2⟩ := optK_ex hc
      subst hd
      have hmx' : mx = none := by simpa using hmx
      subst hmx'
      obtain ⟨h', pv, hK, hrun⟩ := sliceO_sound (P := P) hc2
      have h1 := s.ev x
      rw [hx] at h1
      obtain ⟨v, g', hr, hk', hwf, he, hrep⟩ := hrun g0 pk g _ (lo.map a.eval) (hi.map a.eval) s.heap s.wf h1
        (fun z hz => by
          cases lo with
          | none => simp at hz
          | some l => simp at hz; subst hz; exact ⟨_, rfl, s.ev l⟩)
        (fun hz => by cases lo <;> simp at hz ⊢)
        (fun z hz => by
          cases hi with
          | none => simp at hz
          | some l => simp at hz; subst hz; exact ⟨_, rfl, s.ev l⟩)
        (fun hz => by cases hi <;> simp at hz ⊢)
      unfold Oper.wp
      have hr' : (execOp a.eval ⟨some d, .slice t x lo hi none, type, pos, after, guard⟩).run P g.w = .ok (.value v) g'.w := by simp [execOp, hr]
      rw [hr']
      exact ⟨_, hK, g', rfl, s.put hk' hwf he hrep⟩
    · exact opA_wp (o := ⟨dst, .slice t x lo hi mx, type, pos, after, guard⟩) hc s Q
  case call c =>
    simp only [opK, callOp] at hc
    split at hc
    · rename_i hce
      split at hc
      · rename_i sx x t t' hargs htys
        obtain ⟨vs, hs, hc⟩ := c1K_ex hc
        obtain ⟨vx, hx, hc⟩ := c1K_ex hc
        obtain ⟨ei, hei, hc⟩ := optK_ex hc
        obtain ⟨d, hd, hc⟩ := optK_ex hc
        obtain ⟨sy, hsy, ⟨ht, hsz, hdk⟩, hc2⟩ := optK_ex hc
        subst hd
        obtain ⟨h', hK, hrun⟩ := appendK_sound (P := P) (ty := type) hei ht hdk (sz := sy.1) (ys := sy.2) (by rw [hsy]) hsz hc2
        have h1 := s.ev sx
        have h2 := s.ev x
        rw [hs] at h1
        rw [hx] at h2
        obtain ⟨v, g', hr, hk', hwf, he, hrep⟩ := hrun g0 pk g _ _ s.heap s.wf h1 h2
        have ha : c.args = #[sx, x] := by apply Array.ext'; simpa using hargs
        have hty : c.argTypes = #[t, t'] := by apply Array.ext'; simpa using htys
        unfold Oper.wp
        have hr' : (execOp a.eval ⟨some d, .call c, type, pos, after, guard⟩).run P g.w = .ok (.value v) g'.w := by simp [execOp, resolve, hce, invoke, builtin, ha, hty, hr]
        rw [hr']
        exact ⟨_, hK, g', rfl, s.put hk' hwf he (pv := .s (.c (.o d))) hrep⟩
      · exact hc.elim
    · rename_i f hce
      have hfv : a.eval (.func f) = .func (.func f) #[] #[] := rfl
      have hall : All2 (RepPV g σ.h) (c.args.toList.map σ.ev) (c.args.map a.eval).toList := by
        rw [Array.toList_map]
        exact all2_args _ fun x _ => s.ev x
      rcases hc with ⟨r, ⟨hf, hcall⟩, hK⟩ | ⟨tmp, bxs, ins, vs, r, h', hpc, hbx, hin, hnd, hv, hok, hfl, hfb, htm, hK⟩
      · unfold Oper.wp
        rw [call_exec hf a.eval _ c rfl hce hfv]
        refine (hcall g0 pk g (c.args.map a.eval) s.heap s.wf hall).mono fun e w' he => ?_
        obtain ⟨g', v, rfl, rfl, h1, h2, h3⟩ := he
        exact ⟨_, hK, g', rfl, s.put h1 (s.wf.ext h2) h2 h3⟩
      · unfold Oper.wp
        rw [call_exec hpc.1 a.eval _ c rfl hce hfv]
        refine (callG_ok tmp hpc hbx hin hnd hv hok hfl hfb htm s.heap s.wf hall).mono fun e w' he => ?_
        obtain ⟨g', v, rfl, rfl, h1, h2, h3, h4⟩ := he
        exact ⟨_, hK, g', rfl, s.put h1 h2 h3 h4⟩
    · exact opA_wp (o := ⟨dst, .call c, type, pos, after, guard⟩) hc s Q
  case makeMap t r =>
    simp only [opK] at hc
    obtain ⟨hr, R, hK⟩ := hc
    have hr' : r = none := by simpa using hr
    subst hr'
    obtain ⟨g1, hw1, _, hk1, he1, hl1⟩ := s.heap.newMap (GR R) (fun _ h => by simp at h)
    unfold Oper.wp
    have hx : (execOp a.eval ⟨dst, .makeMap t none, type, pos, after, guard⟩).run P g.w = .ok (.value (.map (some g.w.heap.size))) g1.w := by
      rw [hw1]
      rfl
    rw [hx]
    exact ⟨_, hK, g1, rfl, s.put hk1 (s.wf.ext he1) he1 (pv := .s (.c (.mk R))) ⟨_, rfl, hl1⟩⟩
  all_goals (refine opA_wp (K := K) (σ := σ) ?_ s Q; exact hc)

/-! ### operations that stand only in regions without draws: maps that are shared, lists of lists -/
/-- a slice of slices -/
def nestT (P : Program) (t : TypeId) : Bool := match P.underlying t with
  | some (.slice e) => (match P.underlying e with | some (.slice _) => true | _ => false)
  | _ => false
def nsS : Bool → Prop → Prop → Prop
  | true, a, _ => a
  | false, _, b => b
def nestN (P : Program) (σ : St) (t n : Nat) (parts : List (Nat × Operand)) (d : Nat) (K : Hp → PV → Prop) : Prop :=
  optK (eInf P t) fun ei => optK (partsV σ.ev parts) fun xs =>
    (seqParts 0 parts = true ∧ xs.length = n ∧ (xs.all fun x => decide (x.cells.size = ei.2.1)) = true ∧ ((flat xs).all Value.oneCell') = true ∧ ei.2.1 = 1 ∧ n * ei.2.1 ≤ 16777216 ∧ hasKey σ.h.boxes d = false) ∧
    K { σ.h with boxes := (d, (flat xs).map .v) :: σ.h.boxes } (.s (.c (.sb d n n)))
def apN (P : Program) (σ : St) (d : Nat) (t t' : TypeId) (K : Hp → PV → Prop) (old : Prop) : PV → PV → Prop
  | .s (.c (.sb id n cap)), .s (.c (.sb id2 n2 _)) => ∃ e b cs cs2 it, eInf P t = some (e, 1, b) ∧ P.info? e = some it ∧ it.zero = some (.slice none 0 0) ∧ t' = t ∧ n + n2 ≤ 9223372036854775807 ∧ (n + n2) * b ≤ 140737488355328 ∧ fnd σ.h.boxes id = some cs ∧ fnd σ.h.boxes id2 = some cs2 ∧
      cs.length = cap ∧ n ≤ cap ∧ cs2.length = n2 ∧ hasKey σ.h.boxes d = false ∧
      (n + n2 ≤ cap → K { σ.h with boxes := upd σ.h.boxes id (cs.take n ++ cs2 ++ cs.drop (n + n2)) } (.s (.c (.sb id (n + n2) cap)))) ∧
      (cap < n + n2 → ∀ cap', n + n2 ≤ cap' → cap' ≤ maxLen → K { σ.h with boxes := (d, cs.take n ++ cs2 ++ List.replicate (cap' - (n + n2)) .any) :: σ.h.boxes } (.s (.c (.sb d (n + n2) cap'))))
  | _, _ => old
def lookN (P : Program) (t : TypeId) (K : PV → Prop) : PV → PV → Prop
  | .s (.c (.mk R)), .s (.a [.v (.int .i64 a), .v (.int .i64 b)]) => MapT P t ∧ inK .i64 a ∧ inK .i64 b ∧ ∀ v ok, (ok = true → R a b v) → (ok = false → v = 0) → K (.t [.c (.v (.int .i64 v)), .c (.v (.bool ok))])
  | _, _ => False
def updN (P : Program) (t : TypeId) (K : Prop) : PV → PV → PV → Prop
  | .s (.c (.mk R)), .s (.a [.v (.int .i64 a), .v (.int .i64 b)]), .s (.c (.v (.int .i64 v))) => MapT P t ∧ inK .i64 a ∧ inK .i64 b ∧ R a b v ∧ K
  | _, _, _ => False
def opN (P : Program) (op : Op) (dst : Option Nat) (σ : St) (K : St → Prop) : Prop :=
  match op with
  | .lookup t m x ok => ok = true ∧ lookN P t (fun pv => K (σ.put dst pv)) (σ.ev m) (σ.ev x)
  | .mapUpdate t m k x => updN P t (K (σ.put dst uV)) (σ.ev m) (σ.ev k) (σ.ev x)
  | .buildSlice t n ps => optK dst fun d => nsS (nestT P t) (nestN P σ t n ps.toList d fun h pv => K ({ σ with h := h }.put (some d) pv)) (opK P (.buildSlice t n ps) (some d) σ K)
  | .call c => match c.callee, c.args.toList, c.argTypes.toList, dst with
    | .builtin .append, [s, x], [t, t'], some d => apN P σ d t t' (fun h pv => K ({ σ with h := h }.put (some d) pv)) (opK P (.call c) (some d) σ K) (σ.ev s) (σ.ev x)
    | _, _, _, _ => opK P (.call c) dst σ K
  | op => opK P op dst σ K
theorem run_append_box {P : Program} (w : World) (t ty e : TypeId) (i : TypeInfo) (z : Value) (ht : P.underlying t = some (.slice e)) (hi : P.info? e = some i) (hz : i.zero = some z) (hs : i.size = 1) (hzs : z.cells.size = 1)
    (g n cap : Nat) (cur : Array Value) (bty : TypeId) (hg : w.heap[g]? = some (.cells cur bty (0, 0))) (hcur : cur.size = cap) (hnc : n ≤ cap)
    (a : Addr) (m c : Nat) (news : List Value) (hl : news.length = m) (hnews : ∀ j u, news[j]? = some u → w.cell? (a.add j) = some u) (h1 : ∀ u ∈ news, u.oneCell' = true)
    (h63 : n + m ≤ 9223372036854775807) (hbytes : (n + m) * i.bytes ≤ 140737488355328) :
    (n + m ≤ cap → (Builtin.append_ #[t, t] ty #[.slice (some ⟨g, 0, none⟩) n cap, .slice (some a) m c]).run P w = .ok (.slice (some ⟨g, 0, none⟩) (n + m) cap) (w.setRow g (cur.toList.take n ++ news ++ cur.toList.drop (n + m)).toArray)) ∧
    (cap < n + m → (Builtin.append_ #[t, t] ty #[.slice (some ⟨g, 0, none⟩) n cap, .slice (some a) m c]).run P w = .ok (.slice (some ⟨w.heap.size, 0, none⟩) (n + m) (grownCap w (n + m) cap e))
        (w.drew.alloc (.cells ((cur.toList.take n).toArray ++ news.toArray ++ Builtin.zeroCells z.cells (grownCap w (n + m) cap e - (n + m))) e))) := by
  constructor
  · intro hroom
    have hf := run_firstCells_some (P := P) w i.size m a m c news (by rw [hl, hs, Nat.mul_one]) hnews
    have hst := run_storeCells_at P g (n * i.size) bty news 0 cur w hg (by rw [hs]; omega) h1
    simp only [Nat.add_zero] at hst
    rw [hs, Nat.mul_one, hl] at hst
    rw [hs] at hf
    simp only [List.append_assoc] at hst
    simp [Builtin.append_, run_underlying ht, sizeOf, typeInfo, hi, Builtin.lenOf, hroom, hf, Addr.add_lit, hs, hst]
  · intro hgrow
    have holds : ∀ j u, (cur.toList.take n)[j]? = some u → w.cell? ((⟨g, 0, none⟩ : Addr).add j) = some u := fun j u hu => by
      rw [Addr.add_lit, Nat.zero_add, cell_of_row _ _ _ _ _ _ hg]
      rw [List.getElem?_take] at hu
      split at hu
      · simpa using hu
      · cases hu
    exact run_append_grow (P := P) w t ty e i z ht hi hz ⟨g, 0, none⟩ n cap (cur.toList.take n) (by rw [hs]; simp; omega) holds a m c news (by rw [hl, hs, Nat.mul_one]) hnews hgrow (by omega) (growslice_fits hgrow hbytes)
theorem all2_any {g : Gh} {h : Hp} : ∀ {n : Nat} {l : List Value}, l.length = n → All2 (RepC g h) (List.replicate n .any) l
  | 0, [], _ => trivial
  | n + 1, _ :: l, h => ⟨trivial, all2_any (by simpa using h)⟩
  | 0, _ :: _, h => by simp at h
  | _ + 1, [], h => by simp at h
theorem HeapOk.drew {g0 : Gh} {pk : Pk} {g : Gh} {h : Hp} (hk : HeapOk g0 pk g h) : HeapOk g0 pk { g with w := g.w.drew } h ∧ Ext g h { g with w := g.w.drew } h :=
  hk.step g.w.drew g.V rfl rfl rfl (Nat.le_refl _) (fun _ _ => rfl) (fun _ _ h => h) (fun _ _ _ h => h) (fun b o hv => hk.vin b o hv)
theorem opN_sound {P : Program} {σ : St} {o : Oper} {K : St → Prop} (hc : opN P o.op o.dst σ K) {g0 : Gh} {pk : Pk} {g : Gh} {a : Act} (s : SimG g0 pk g σ a) (Q : Exit → Act → World → Prop) :
    o.wp P a g.w (fun a' w' => ∃ σ', K σ' ∧ Sim g0 pk σ' a' w') Q := by
  obtain ⟨dst, op, type, pos, after, guard⟩ := o
  cases op
  case lookup t m x ok =>
    simp only [opN] at hc
    obtain ⟨rfl, hc⟩ := hc
    unfold lookN at hc
    split at hc
    · rename_i R ka kb hm hx
      obtain ⟨T, ha, hb, hK⟩ := hc
      have h1 := s.ev m
      have h2 := s.ev x
      rw [hm] at h1
      rw [hx] at h2
      obtain ⟨b, e1, hM⟩ := h1
      obtain ⟨cs, e2, h3⟩ := h2
      have e3 : cs = #[.int .i64 ka, .int .i64 kb] := by
        obtain ⟨l⟩ := cs
        match l, h3 with
        | [u, v], ⟨h4, h5, _⟩ =>
          simp only [RepC] at h4 h5
          rw [h4, h5]
        | [], h => exact h.elim
        | [_], ⟨_, h⟩ => exact h.elim
        | _ :: _ :: _ :: _, ⟨_, _, h⟩ => exact h.elim
      subst e3
      obtain ⟨es, ck, hbk, hG, _⟩ := s.heap.maps b _ hM
      obtain ⟨v, ok, hr, h5, h6⟩ := lookup_run T hbk hG ha hb
      unfold Oper.wp
      have hr' : (execOp a.eval ⟨dst, .lookup t m x true, type, pos, after, guard⟩).run P g.w = .ok (.value (.tuple #[.int .i64 v, .bool ok])) g.w := by simp [execOp, e1, e2, hr]
      rw [hr']
      exact ⟨_, hK v ok h5 h6, g, rfl, s.put s.heap s.wf (Ext.refl _ _) (pv := .t [.c (.v (.int .i64 v)), .c (.v (.bool ok))]) ⟨_, rfl, rfl, rfl, trivial⟩⟩
    · exact hc.elim
  case mapUpdate t m k x =>
    simp only [opN] at hc
    unfold updN at hc
    split at hc
    · rename_i R ka kb v hm hk hx
      obtain ⟨T, ha, hb, hR, hK⟩ := hc
      have h1 := s.ev m
      have h2 := s.ev k
      have h3 := s.ev x
      rw [hm] at h1
      rw [hk] at h2
      rw [hx] at h3
      obtain ⟨b, e1, hM⟩ := h1
      obtain ⟨cs, e2, h4⟩ := h2
      have e3 : cs = #[.int .i64 ka, .int .i64 kb] := by
        obtain ⟨l⟩ := cs
        match l, h4 with
        | [u, v], ⟨h4, h5, _⟩ =>
          simp only [RepC] at h4 h5
          rw [h4, h5]
        | [], h => exact h.elim
        | [_], ⟨_, h⟩ => exact h.elim
        | _ :: _ :: _ :: _, ⟨_, _, h⟩ => exact h.elim
      subst e3
      have e4 : a.eval x = .int .i64 v := h3
      obtain ⟨es, ck, hbk, hG, _⟩ := s.heap.maps b _ hM
      obtain ⟨es', ck', hr, hG'⟩ := update_run T hbk hG ha hb hR
      unfold Oper.wp
      have hr' : (execOp a.eval ⟨dst, .mapUpdate t m k x, type, pos, after, guard⟩).run P g.w = .ok .skip { g.w with heap := g.w.heap.setIfInBounds b (.map es' ck') } := by simp [execOp, e1, e2, e4, hr]
      rw [hr']
      obtain ⟨hk', he⟩ := s.heap.setMap hM es' ck' hG'
      exact ⟨_, hK, { g with w := { g.w with heap := g.w.heap.setIfInBounds b (.map es' ck') } }, rfl, s.put hk' (s.wf.ext he) he (pv := uV) rfl⟩
    · exact hc.elim
  case buildSlice t n ps =>
    simp only [opN] at hc
    obtain ⟨d, hd, hc⟩ := optK_ex hc
    subst hd
    cases hn : nestT P t with
    | false => rw [hn] at hc; exact opK_sound (o := ⟨some d, .buildSlice t n ps, type, pos, after, guard⟩) hc s Q
    | true =>
      rw [hn] at hc
      have hc : nestN P σ t n ps.toList d fun h pv => K ({ σ with h := h }.put (some d) pv) := hc
      unfold nestN at hc
      obtain ⟨ei, hei, hc⟩ := optK_ex hc
      obtain ⟨xs, hxs, ⟨hseq, hlen, hall, hone, h1, hle, hdk⟩, hK⟩ := optK_ex hc
      subst hlen
      have hsz : ∀ x ∈ xs, x.cells.size = ei.2.1 := by simpa using hall
      obtain ⟨hrun, hmax⟩ := bs_run hei hxs hseq hsz (by omega) hle a.eval (fun p _ => s.ev p.2)
      obtain ⟨g', hw, hbx, hov, hk', he⟩ := s.heap.addBox hdk (cs := (flat xs).map .v) (arr := (flat xs).toArray) ei.1 (by simpa using All2.of_v _) (by simpa using hone)
      unfold Oper.wp
      have hr' : (execOp a.eval ⟨some d, .buildSlice t xs.length ps, type, pos, after, guard⟩).run P g.w = .ok (.value (.slice (some ⟨g.w.heap.size, 0, none⟩) xs.length xs.length)) g'.w := by rw [hw]; simp [execOp, hrun]
      rw [hr']
      exact ⟨_, hK, g', rfl, s.put hk' ⟨fun id lo hm => by rw [hov]; exact s.wf.ov id lo hm, s.wf.nd⟩ he (pv := .s (.c (.sb d xs.length xs.length))) ⟨⟨_, List.mem_cons_self ..⟩, by rw [hbx]⟩⟩
  case call c =>
    simp only [opN] at hc
    split at hc
    · rename_i sx x t t' d hce hargs htys
      unfold apN at hc
      split at hc
      · rename_i id n cap id2 n2 cap2 hs hx
        obtain ⟨e, b, cs, cs2, it, hei, hit, hiz, ht, h63, hby, hf, hf2, hl, hnc, hl2, hdk, hA, hB⟩ := hc
        subst ht
        obtain ⟨i, z, hu, hi, hz, hsz, hb, hzs⟩ := eInf_ex hei
        simp only at hu hi hsz hb hzs
        obtain rfl : it = i := Option.some.inj (hit.symm.trans hi)
        obtain rfl : z = .slice none 0 0 := Option.some.inj (hz.symm.trans hiz)
        have h1 := s.ev sx
        have h2 := s.ev x
        rw [hs] at h1
        rw [hx] at h2
        obtain ⟨_, e1⟩ := h1
        obtain ⟨_, e2⟩ := h2
        have hm := fnd_mem hf
        have hm2 := fnd_mem hf2
        obtain ⟨arr, bty, hbk, hrep, hon⟩ := (s.heap.boxes id cs hm).cells
        obtain ⟨arr2, bty2, hbk2, hrep2, hon2⟩ := (s.heap.boxes id2 cs2 hm2).cells
        have la : arr.size = cap := by have := hrep.length; simp at this; omega
        have la2 : arr2.toList.length = n2 := by rw [← hrep2.length]; exact hl2
        have ha : c.args = #[sx, x] := by apply Array.ext'; simpa using hargs
        have hty : c.argTypes = #[t', t'] := by apply Array.ext'; simpa using htys
        obtain ⟨r1, r2⟩ := run_append_box (P := P) g.w t' type e it _ hu hi hz hsz hzs (g.bx id) n cap arr bty hbk la hnc ⟨g.bx id2, 0, none⟩ n2 cap2 arr2.toList la2
          (fun j u hj => by rw [Addr.add_lit, Nat.zero_add, cell_of_row _ _ _ _ _ _ hbk2]; simpa using hj) hon2 h63 (by rw [hb]; exact hby)
        unfold Oper.wp
        by_cases hroom : n + n2 ≤ cap
        · have hr := r1 hroom
          have hr' : (execOp a.eval ⟨some d, .call c, type, pos, after, guard⟩).run P g.w = .ok (.value (.slice (some ⟨g.bx id, 0, none⟩) (n + n2) cap)) (g.w.setRow (g.bx id) (arr.toList.take n ++ arr2.toList ++ arr.toList.drop (n + n2)).toArray) := by
            simp [execOp, resolve, hce, invoke, builtin, ha, hty, e1, e2, hr]
          rw [hr']
          obtain ⟨hk', he⟩ := s.heap.setBox (cs := cs.take n ++ cs2 ++ cs.drop (n + n2)) (arr := (arr.toList.take n ++ arr2.toList ++ arr.toList.drop (n + n2)).toArray) hm hbk
            (((hrep.take n).append hrep2).append (hrep.drop (n + n2))) (fun u hu => by
              rcases List.mem_append.1 hu with hu | hu
              · rcases List.mem_append.1 hu with hu | hu
                · exact hon u (List.mem_of_mem_take hu)
                · exact hon2 u hu
              · exact hon u (List.mem_of_mem_drop hu))
          exact ⟨_, hA hroom, _, rfl, s.put hk' ⟨s.wf.ov, s.wf.nd⟩ he (pv := .s (.c (.sb id (n + n2) cap))) ⟨mem_upd_key hm, rfl⟩⟩
        · have hr := r2 (by omega)
          have hge := grownCap_ge g.w (n + n2) cap e
          have hmx := grownCap_le_maxLen g.w (n + n2) cap e (by simp only [maxLen]; omega)
          have hr' : (execOp a.eval ⟨some d, .call c, type, pos, after, guard⟩).run P g.w = .ok (.value (.slice (some ⟨g.w.heap.size, 0, none⟩) (n + n2) (grownCap g.w (n + n2) cap e))) (g.w.drew.alloc (.cells ((arr.toList.take n).toArray ++ arr2.toList.toArray ++ Builtin.zeroCells (Value.slice none 0 0).cells (grownCap g.w (n + n2) cap e - (n + n2))) e)) := by
            simp [execOp, resolve, hce, invoke, builtin, ha, hty, e1, e2, hr]
          rw [hr']
          obtain ⟨hk1, he1⟩ := s.heap.drew
          generalize grownCap g.w (n + n2) cap e = cap' at *
          have hzl : (Builtin.zeroCells (Value.slice none 0 0).cells (cap' - (n + n2))).toList.length = cap' - (n + n2) := by rw [Array.length_toList, size_zeroCells, hzs, Nat.mul_one]
          have hz1 : ∀ u ∈ (Builtin.zeroCells (Value.slice none 0 0).cells (cap' - (n + n2))).toList, u.oneCell' = true := fun u hu => by
            simp only [Builtin.zeroCells, Array.toList_map, Array.toList_range, List.mem_map, List.mem_range] at hu
            obtain ⟨k, _, rfl⟩ := hu
            have e0 : k % (Value.slice none 0 0).cells.size = 0 := Nat.mod_one k
            rw [e0]
            rfl
          obtain ⟨g', hw, hbx, hov, hk', he⟩ := hk1.addBox hdk (cs := cs.take n ++ cs2 ++ List.replicate (cap' - (n + n2)) .any) (arr := (arr.toList.take n).toArray ++ arr2.toList.toArray ++ Builtin.zeroCells (Value.slice none 0 0).cells (cap' - (n + n2))) e
            (by
              have q : All2 (RepC { g with w := g.w.drew } σ.h) (List.replicate (cap' - (n + n2)) .any) (Builtin.zeroCells (Value.slice none 0 0).cells (cap' - (n + n2))).toList := all2_any hzl
              have q1 := ((hrep.mono fun _ _ => RepC.ext he1).take n)
              have q2 := (hrep2.mono fun _ _ => RepC.ext he1)
              simpa using (q1.append q2).append q)
            (fun u hu => by
              simp only [Array.toList_append, List.mem_append] at hu
              rcases hu with (hu | hu) | hu
              · exact hon u (List.mem_of_mem_take (by simpa using hu))
              · exact hon2 u (by simpa using hu)
              · exact hz1 u hu)
          have he' := he1.trans he
          refine ⟨_, hB (by omega) cap' hge hmx, g', hw, s.put hk' ⟨fun id lo hm => by rw [hov]; exact s.wf.ov id lo hm, s.wf.nd⟩ he' (pv := .s (.c (.sb d (n + n2) cap'))) ⟨⟨_, List.mem_cons_self ..⟩, by rw [hbx]; rfl⟩⟩
      · exact opK_sound (o := ⟨some d, .call c, type, pos, after, guard⟩) hc s Q
    · exact opK_sound (o := ⟨_, .call c, type, pos, after, guard⟩) hc s Q
  all_goals (refine opK_sound (K := K) (σ := σ) ?_ s Q; exact hc)

/-! ### a region in the order of the text -/
def gv (ops : Array Oper) (σ : St) (j : Nat) : PV :=
  match (ops[j]?).bind (·.dst) with
  | some d => σ.get d
  | none => .s (.c .any)
def guardK : PV → Bool → Prop → Prop → Prop
  | .s (.c (.v (.bool t))), want, A, B => (t = want → A) ∧ (t = !want → B)
  | .s (.c (.v (.tuple _))), _, _, B => B
  | _, _, _, _ => False
def opsK (P : Program) (ops : Array Oper) : List Oper → St → (St → Prop) → Prop
  | [], σ, K => K σ
  | o :: rest, σ, K => match o.guard with
    | none => opN P o.op o.dst σ fun σ' => opsK P ops rest σ' K
    | some (j, want) => guardK (gv ops σ j) want (opN P o.op o.dst σ fun σ' => opsK P ops rest σ' K) (opsK P ops rest (σ.put o.dst uV) K)

theorem gv_yield {g0 : Gh} {pk : Pk} {g : Gh} {σ : St} {a : Act} (s : SimG g0 pk g σ a) {ops : Array Oper} {j : Nat} :
    (∀ t, gv ops σ j = vB t → yielded ops a.tmps j = some t) ∧ (∀ vs, gv ops σ j = vV (.tuple vs) → yielded ops a.tmps j = none) := by
  unfold gv yielded
  cases hd : (ops[j]?).bind (·.dst) with
  | none => exact ⟨fun t h => by simp at h, fun vs h => by simp at h⟩
  | some d =>
    simp only [Option.bind_some]
    by_cases hlt : d < σ.n
    · have hlt' : d < a.tmps.size := by rw [s.size]; exact hlt
      have hr := s.env d hlt
      have he : a.tmps[d]? = some (a.tmps.getD d undef) := by simp [hlt', Array.getD]
      rw [he]
      refine ⟨fun t h => ?_, fun vs h => ?_⟩
      · rw [h] at hr
        simp only [RepPV, RepV1, RepC] at hr
        rw [hr]
      · rw [h] at hr
        simp only [RepPV, RepV1, RepC] at hr
        rw [hr]
    · have : σ.get d = .s (.c .any) := by simp [St.get, hlt]
      rw [this]
      exact ⟨fun t h => by simp at h, fun vs h => by simp at h⟩

theorem guardK_cases {pv : PV} {want : Bool} {A B : Prop} (h : guardK pv want A B) : (∃ t, pv = vB t ∧ ((t = want ∧ A) ∨ (t ≠ want ∧ B))) ∨ (∃ vs, pv = vV (.tuple vs) ∧ B) := by
  unfold guardK at h
  split at h
  · rename_i t
    refine .inl ⟨_, rfl, ?_⟩
    cases t <;> cases want <;> simp_all
  · exact .inr ⟨_, rfl, h⟩
  · exact h.elim

theorem opsK_sound {P : Program} {ops : Array Oper} {Q : Exit → Act → World → Prop} {g0 : Gh} {pk : Pk} : ∀ (l : List Oper) (σ : St) (K : St → Prop) (a : Act) (w : World), opsK P ops l σ K → Sim g0 pk σ a w →
    (∀ σ' a' w', K σ' → Sim g0 pk σ' a' w' → Q .normal a' w') → wpList P ops Q l a w
  | [], σ, K, a, w, h, s, hQ => hQ σ a w h s
  | o :: rest, σ, K, a, w, h, s, hQ => by
    obtain ⟨g, rfl, s⟩ := s
    unfold opsK at h
    unfold wpList
    cases hg : o.guard with
    | none =>
      simp only [hg] at h
      rw [if_pos (by simp [Region.wanted, hg])]
      left
      exact Oper.wp_mono (fun a' w' ⟨σ', h1, h2⟩ => opsK_sound rest σ' K a' w' h1 h2 hQ) (opN_sound h s Q)
    | some jw =>
      obtain ⟨j, want⟩ := jw
      simp only [hg] at h
      obtain ⟨hy1, hy2⟩ := gv_yield s (ops := ops) (j := j)
      rcases guardK_cases h with ⟨t, hgv, ⟨ht, h⟩ | ⟨ht, h⟩⟩ | ⟨vs, hgv, h⟩
      · have hy := hy1 t hgv
        rw [if_pos (by simp [Region.wanted, hg, hy, ht])]
        left
        exact Oper.wp_mono (fun a' w' ⟨σ', h1, h2⟩ => opsK_sound rest σ' K a' w' h1 h2 hQ) (opN_sound h s Q)
      · have hy := hy1 t hgv
        rw [if_neg (by simp [Region.wanted, hg, hy, ht])]
        exact opsK_sound rest _ K _ _ h ⟨g, rfl, s.put s.heap s.wf (Ext.refl _ _) (pv := uV) rfl⟩ hQ
      · have hy := hy2 vs hgv
        rw [if_neg (by simp [Region.wanted, hg, hy])]
        exact opsK_sound rest _ K _ _ h ⟨g, rfl, s.put s.heap s.wf (Ext.refl _ _) (pv := uV) rfl⟩ hQ

end Go.PL
