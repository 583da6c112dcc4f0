/-
  The state of a call on abstract values, and the operations that change boxes and own lists: defined, and proved against the model.
-/
import Derived.Test.YtncdcgaaeclhiaaE6
namespace Go.PL
open Go.RowKit
set_option linter.unusedSimpArgs false
set_option linter.unusedVariables false

def uV : PV := .s (.c (.v undef))
def constPV : Value → PV
  | .agg cs => .s (.a (cs.toList.map .v))
  | v => .s (.c (.v v))
def St.get (σ : St) (t : Nat) : PV := if t < σ.n then (fnd σ.env t).getD (.s (.c .any)) else .s (.c .any)
def St.put (σ : St) : Option Nat → PV → St
  | some d, pv => { σ with env := (d, pv) :: σ.env }
  | none, _ => σ
def St.ev (σ : St) : Operand → PV
  | .tmp t => σ.get t
  | .const v => constPV v
  | .global g => vV (.pointer (some ⟨g, 0, none⟩))
  | .func f => vV (.func (.func f) #[] #[])
theorem noDup.uniq {α : Type} : ∀ {l : List (Nat × α)}, noDup l → ∀ k x y, (k, x) ∈ l → (k, y) ∈ l → x = y
  | [], _, _, _, _, h, _ => by simp at h
  | (k', z) :: r, ⟨h1, h2⟩, k, x, y, hx, hy => by
    rcases List.mem_cons.1 hx with hx | hx <;> rcases List.mem_cons.1 hy with hy | hy
    · rw [(Prod.mk.inj hx).2, (Prod.mk.inj hy).2]
    · exact absurd (Prod.mk.inj hx).1 (ne_of_noKey h1 hy)
    · exact absurd (Prod.mk.inj hy).1 (ne_of_noKey h1 hx)
    · exact noDup.uniq h2 k x y hx hy
theorem hasKey_upd {α : Type} (l : List (Nat × α)) (t k : Nat) (y : α) : hasKey (upd l t y) k = hasKey l k := by
  induction l with
  | nil => rfl
  | cons z r ih =>
    obtain ⟨k', z⟩ := z
    simp only [upd]
    split <;> simp only [hasKey, ih]
theorem noDup.upd {α : Type} {l : List (Nat × α)} (h : noDup l) (t : Nat) (y : α) : noDup (upd l t y) := by
  induction l with
  | nil => trivial
  | cons z r ih =>
    obtain ⟨k', z⟩ := z
    simp only [PL.upd]
    split <;> exact ⟨by rw [hasKey_upd]; exact h.1, ih h.2⟩
theorem hasKey_pubAll (l : List (Nat × LO)) (k : Nat) : hasKey (pubAll l) k = hasKey l k := by
  induction l with
  | nil => rfl
  | cons z r ih => obtain ⟨k', z⟩ := z; simp only [pubAll, hasKey, ih]
theorem noDup.pubAll {l : List (Nat × LO)} (h : noDup l) : noDup (pubAll l) := by
  induction l with
  | nil => trivial
  | cons z r ih => obtain ⟨k', z⟩ := z; exact ⟨by rw [hasKey_pubAll]; exact h.1, ih h.2⟩

structure SimG (g0 : Gh) (pk : Pk) (g : Gh) (σ : St) (a : Act) : Prop where
  defers : a.defers = []
  size : a.tmps.size = σ.n
  heap : HeapOk g0 pk g σ.h
  wf : WfG g σ.h
  env : ∀ t, t < σ.n → RepPV g σ.h (σ.get t) (a.tmps.getD t undef)
def Sim (g0 : Gh) (pk : Pk) (σ : St) (a : Act) (w : World) : Prop := ∃ g, g.w = w ∧ SimG g0 pk g σ a

theorem RepPV.any {g : Gh} {h : Hp} (u : Value) : RepPV g h (.s (.c .any)) u := trivial
theorem SimG.ev {g0 : Gh} {pk : Pk} {g : Gh} {σ : St} {a : Act} (s : SimG g0 pk g σ a) (x : Operand) : RepPV g σ.h (σ.ev x) (a.eval x) := by
  cases x with
  | tmp t =>
    by_cases ht : t < σ.n
    · exact s.env t ht
    · simp only [St.ev, St.get, ht, if_false]; trivial
  | const v => cases v <;> simp only [St.ev, constPV, Act.eval] <;> first | rfl | exact ⟨_, rfl, All2.of_v _⟩
  | global g => rfl
  | func f => rfl
theorem SimG.put {g0 : Gh} {pk : Pk} {g : Gh} {σ : St} {a : Act} (s : SimG g0 pk g σ a) {g' : Gh} {h' : Hp} (hk : HeapOk g0 pk g' h') (wf : WfG g' h') (he : Ext g σ.h g' h') {dst : Option Nat} {pv : PV} {v : Value}
    (hr : RepPV g' h' pv v) : SimG g0 pk g' ({ σ with h := h' }.put dst pv) (a.put dst v) := by
  cases dst with
  | none => exact ⟨s.defers, s.size, hk, wf, fun t ht => (s.env t ht).ext he⟩
  | some d =>
    refine ⟨s.defers, by simpa [Act.put, St.put] using s.size, hk, wf, fun t ht => ?_⟩
    have ht' : t < σ.n := ht
    by_cases htd : t = d
    · subst htd
      have h1 : (a.put (some t) v).tmps.getD t undef = v := by
        have : t < a.tmps.size := by rw [s.size]; exact ht'
        simp [Act.put, this]
      have h2 : ({ σ with h := h' }.put (some t) pv).get t = pv := by simp [St.put, St.get, ht', fnd]
      rw [h1, h2]
      exact hr
    · have h1 : (a.put (some d) v).tmps.getD t undef = a.tmps.getD t undef := by
        simp [Act.put, Array.getElem?_setIfInBounds_ne (Ne.symm htd)]
      have h2 : ({ σ with h := h' }.put (some d) pv).get t = σ.get t := by simp [St.put, St.get, ht', fnd, Ne.symm htd]
      rw [h1, h2]
      exact (s.env t ht').ext he

def zeroCs (P : Program) (t : TypeId) : Option (List Value) :=
  match P.info? t with
  | some i => i.zero.map fun z => z.cells.toList
  | none => none
def szOf (P : Program) (t : TypeId) : Option Nat := (P.info? t).map (·.size)
/-- a slice type's element: its number, its cells, its bytes -/
def eInf (P : Program) (t : TypeId) : Option (TypeId × Nat × Nat) :=
  match P.underlying t with
  | some (.slice e) => match P.info? e with
    | some i => match i.zero with
      | some z => if z.cells.size = i.size then some (e, i.size, i.bytes) else none
      | none => none
    | none => none
  | _ => none

def exactPV : PV → Option Value
  | .s y => exactV1 y
  | _ => none
/-- an element with one of its cells replaced -/
def setCellV : Value → Nat → Value → Value
  | .agg arr, off, u => .agg (arr.setIfInBounds off u)
  | _, _, u => u
def storeK (h : Hp) (p : C) (y : V1) (cs : List C) (K : Hp → Prop) : Prop :=
  match p with
  | .p id off => optK (fnd h.boxes id) fun old => off + cs.length ≤ old.length ∧ K { h with boxes := upd h.boxes id (setAll old off cs) }
  | .e id sz idx off => optK (fnd h.lists id) fun lo => (lo.live = true ∧ lo.pub = false ∧ lo.sz = sz) ∧ optK (exactV1 y) fun u => optK lo.xs[idx]? fun x =>
      if off = 0 ∧ cs.length = sz then K { h with lists := upd h.lists id { lo with xs := lo.xs.set idx u } }
      else (u.oneCell' = true ∧ cs.length = 1 ∧ off < sz ∧ 1 < sz) ∧ K { h with lists := upd h.lists id { lo with xs := lo.xs.set idx (setCellV x off u) } }
  | _ => False

/-- the elements of a slice literal -/
def partsV (ρ : Operand → PV) : List (Nat × Operand) → Option (List Value)
  | [] => some []
  | (_, x) :: r => match exactPV (ρ x), partsV ρ r with
    | some u, some us => some (u :: us)
    | _, _ => none
def placesN (n sz : Nat) : List (Nat × Nat) := (List.range n).map fun i => (i * sz, sz)

def srcOf (h : Hp) (es : Nat) : C → Option (Nat × List Value)
  | .l sz ys => some (sz, ys)
  | .o id => match fnd h.lists id with
    | some lo => if lo.live = true then some (lo.sz, lo.xs) else none
    | none => none
  | .v (.slice none 0 0) => some (es, [])
  | _ => none
def appendK (h : Hp) (ei : TypeId × Nat × Nat) (d : Nat) (s : C) (ys : List Value) (K : Hp → Prop) : Prop :=
  match s with
  | .o id => optK (fnd h.lists id) fun lo => (lo.live = true ∧ lo.e = ei.1 ∧ lo.sz = ei.2.1 ∧ lo.xs.length + ys.length ≤ 9223372036854775807 ∧ (lo.xs.length + ys.length) * ei.2.2 ≤ 140737488355328) ∧
      K { h with lists := (d, { lo with xs := lo.xs ++ ys }) :: upd h.lists id { lo with live := false } }
  | .v (.slice none 0 0) => (0 < ei.2.1 ∧ ys.length ≤ 9223372036854775807 ∧ ys.length * ei.2.2 ≤ 140737488355328) ∧
      K { h with lists := (d, { e := ei.1, sz := ei.2.1, xs := ys, pub := false, live := true }) :: h.lists }
  | _ => False

/-! ### what an append does to the world -/
theorem run_append_own' {P : Program} (w : World) (base : Nat) (t ty e : TypeId) (i : TypeInfo) (z : Value) (size bytes : Nat) (ht : P.underlying t = some (.slice e)) (hi : P.info? e = some i) (hz : i.zero = some z)
    (hsize : i.size = size) (hby : i.bytes = bytes) (hzs : z.cells.size = size) (hsz : 0 < size)
    (v : Value) (n : Nat) (xs : List Value) (hown : w.ownsRow base e size v n xs)
    (a : Addr) (m c : Nat) (news : List Value) (hl : news.length = m * size) (hnews : ∀ j u, news[j]? = some u → w.cell? (a.add j) = some u) (h1 : ∀ u ∈ news, u.oneCell' = true)
    (h63 : n + m ≤ maxLen) (hbytes : (n + m) * bytes ≤ 140737488355328) (hbase : base ≤ w.heap.size) :
    ∃ v' w', (Builtin.append_ #[t, t] ty #[v, .slice (some a) m c]).run P w = .ok v' w' ∧ w'.ownsRow base e size v' (n + m) (xs ++ news) ∧ w.grownBy w' v.ownBlock ∧
      (∀ b, v'.ownBlock = some b → v.ownBlock = some b ∨ w.heap.size ≤ b) ∧ (∀ b, v.ownBlock = some b → ∀ o, o < xs.length → w'.cell? ⟨b, o, none⟩ = w.cell? ⟨b, o, none⟩) ∧ v'.oneCell' = true := by
  subst hsize
  subst hby
  have hsmall : n + m ≤ 9223372036854775807 := by simp only [maxLen] at h63; omega
  have hlen : (xs ++ news).length = (n + m) * i.size := by rw [List.length_append, hown.1, hl, Nat.add_mul]
  have grown : ∀ (old : Nat), old < n + m → ∀ (row : Option Nat),
      (w.drew.alloc (.cells (xs.toArray ++ news.toArray ++ Builtin.zeroCells z.cells (grownCap w (n + m) old e - (n + m))) e)).ownsRow base e i.size
        (.slice (some ⟨w.heap.size, 0, none⟩) (n + m) (grownCap w (n + m) old e)) (n + m) (xs ++ news) ∧
      w.grownBy (w.drew.alloc (.cells (xs.toArray ++ news.toArray ++ Builtin.zeroCells z.cells (grownCap w (n + m) old e - (n + m))) e)) row := by
    intro old ho row
    have hge := grownCap_ge w (n + m) old e
    have hcm : grownCap w (n + m) old e ≤ maxLen := grownCap_le_maxLen w (n + m) old e h63
    refine ⟨⟨hlen, .inr ⟨w.heap.size, _, _, rfl, hbase, heap_alloc_new w.drew _, hge, hcm, ?_, ?_⟩⟩, ⟨rfl, rfl, rfl, by simp, fun k hk _ => heap_alloc_old w.drew _ hk⟩⟩
    · simp only [Array.size_append, List.size_toArray, size_zeroCells, hzs, hown.1, hl, ← Nat.add_mul]
      congr 1
      omega
    · simp only [Array.toList_append, List.append_assoc]
      rw [← List.append_assoc, ← hlen]
      exact List.take_left
  rcases hown.2 with ⟨rfl, rfl⟩ | ⟨g, cap, cur, rfl, hbg, hg, hnc, hcm, hcs, htake⟩
  · have hx : xs = [] := List.eq_nil_of_length_eq_zero (by simpa using hown.1)
    subst hx
    by_cases hm : m = 0
    · subst hm
      have hn : news = [] := List.eq_nil_of_length_eq_zero (by simpa using hl)
      subst hn
      refine ⟨.slice none 0 0, w, ?_, World.ownsRow_nil w base e i.size, ⟨rfl, rfl, rfl, Nat.le_refl _, fun _ _ _ => rfl⟩, by simp [Value.ownBlock], by simp [Value.ownBlock], rfl⟩
      simp [Builtin.append_, run_underlying ht, sizeOf, typeInfo, hi, Builtin.lenOf, Builtin.firstCells, loadCells, loadCellsFrom]
    · have hr := run_append_nil (P := P) w t ty e i z ht hi hz a m c news hl hnews (by omega) (by omega) (by have hb := hbytes; simp only [Nat.zero_add] at hb; omega)
      have hgr := grown 0 (by omega) (Value.ownBlock (.slice none 0 0))
      simp only [Nat.zero_add, List.nil_append, Array.empty_append] at hgr ⊢
      exact ⟨_, _, hr, hgr.1, hgr.2, by simp [Value.ownBlock], by simp, rfl⟩
  · by_cases hroom : n + m ≤ cap
    · have hfit : n * i.size + news.length ≤ cur.size := by rw [hl, hcs, ← Nat.add_mul]; exact Nat.mul_le_mul_right _ hroom
      have hr := run_append_room (P := P) w t ty e i ht hi g n cap cur hg a m c news hl hnews h1 hroom hfit
      refine ⟨_, _, hr, ⟨hlen, .inr ⟨g, cap, _, rfl, hbg, setRow_heap w g cur _ e _ hg, hroom, hcm, ?_, ?_⟩⟩, ⟨rfl, rfl, rfl, by simp, fun k _ hk => setRow_other w g k _ (fun e => hk (by simp [Value.ownBlock, e]))⟩, fun b hb => .inl hb, ?_, rfl⟩
      · simp only [List.size_toArray, List.length_append, List.length_take, List.length_drop, Array.length_toList]
        omega
      · rw [htake, ← hlen]
        exact List.take_left
      · intro b hb o ho
        simp [Value.ownBlock] at hb
        subst hb
        rw [cell_setRow_same w g o cur _ e (0, 0) hg, cell_of_row w g o cur e (0, 0) hg, htake]
        simp only [List.getElem?_toArray, List.append_assoc]
        rw [List.getElem?_append_left ho, ← htake, List.getElem?_take]
        have : o < n * i.size := by rw [← hown.1]; exact ho
        simp [this]
    · have holds : ∀ j u, xs[j]? = some u → w.cell? ((⟨g, 0, none⟩ : Addr).add j) = some u := hown.cells (g := g) rfl
      have hr := run_append_grow (P := P) w t ty e i z ht hi hz ⟨g, 0, none⟩ n cap xs hown.1 holds a m c news hl hnews (by omega) (by omega) (growslice_fits (by omega) hbytes)
      have hgr := grown cap (by omega) (Value.ownBlock (.slice (some ⟨g, 0, none⟩) n cap))
      refine ⟨_, _, hr, hgr.1, hgr.2, fun b hb => .inr (by simp [Value.ownBlock] at hb; omega), ?_, rfl⟩
      intro b hb o _
      simp [Value.ownBlock] at hb
      subst hb
      exact World.cell?_of_block (w := w) (heap_alloc_old w.drew _ (by simpa using (Array.getElem?_eq_some_iff.1 hg).1))

/-- a source of an append, in its world -/
theorem src_read {g0 : Gh} {pk : Pk} {g : Gh} {h : Hp} (hk : HeapOk g0 pk g h) {es : Nat} {x : C} {sz : Nat} {ys : List Value} (hs : srcOf h es x = some (sz, ys)) {u : Value} (hr : RepC g h x u) :
    (∀ y ∈ ys, y.cells.size = sz) ∧ (∀ c ∈ flat ys, c.oneCell' = true) ∧ ((ys = [] ∧ u = .slice none 0 0) ∨ ∃ ad cap, u = .slice (some ad) ys.length cap ∧ ∀ j c, (flat ys)[j]? = some c → g.w.cell? (ad.add j) = some c) := by
  unfold srcOf at hs
  split at hs
  · simp at hs
    obtain ⟨rfl, rfl⟩ := hs
    obtain ⟨a, cap, rfl, hlc, _, ⟨_, hone⟩, hsz, ha, hrow⟩ := hr
    refine ⟨hsz, hone, ?_⟩
    cases a with
    | none =>
      have := ha rfl
      subst this
      have hn : _ = [] := List.eq_nil_of_length_eq_zero (Nat.le_zero.1 hlc)
      exact .inl ⟨hn, by rw [hn]; rfl⟩
    | some ad =>
      obtain ⟨hsp, hrow⟩ := hrow ad rfl
      obtain ⟨b, off, sp⟩ := ad
      simp at hsp
      subst hsp
      refine .inr ⟨_, cap, rfl, fun j c hc => ?_⟩
      rw [Addr.add_lit]
      obtain ⟨hj, e⟩ := List.getElem?_eq_some_iff.1 hc
      rw [(hrow j hj).1, e]
  · rename_i id
    split at hs
    · rename_i lo hlo
      split at hs
      · rename_i hl
        simp at hs
        obtain ⟨rfl, rfl⟩ := hs
        obtain ⟨_, rfl⟩ := hr
        have hL := hk.lists id lo (fnd_mem hlo) hl
        refine ⟨hL.sz, hL.one, ?_⟩
        rcases hL.own.2 with ⟨hv, hz⟩ | ⟨gg, cap, cur, hv, _⟩
        · exact .inl ⟨List.eq_nil_of_length_eq_zero hz, hv⟩
        · exact .inr ⟨_, cap, hv, fun j c hc => hL.own.cells (g := gg) (by rw [hv]; rfl) j c hc⟩
      · cases hs
    · cases hs
  · simp at hs
    obtain ⟨rfl, rfl⟩ := hs
    simp only [RepC] at hr
    exact ⟨by simp, by simp [flat], .inl ⟨rfl, hr⟩⟩
  · cases hs

theorem flat_append (xs ys : List Value) : flat (xs ++ ys) = flat xs ++ flat ys := by simp [flat]

theorem eInf_ex {P : Program} {t : TypeId} {ei : TypeId × Nat × Nat} (h : eInf P t = some ei) : ∃ i z, P.underlying t = some (.slice ei.1) ∧ P.info? ei.1 = some i ∧ i.zero = some z ∧ i.size = ei.2.1 ∧ i.bytes = ei.2.2 ∧ z.cells.size = ei.2.1 := by
  unfold eInf at h
  split at h
  · rename_i e hu
    split at h
    · rename_i i hi
      split at h
      · rename_i z hz
        split at h
        · rename_i hs
          simp at h
          subst h
          exact ⟨i, z, hu, hi, hz, rfl, rfl, hs⟩
        · cases h
      · cases h
    · cases h
  · cases h

/-- the run of an append, for a row that is owned and a source that is read -/
theorem append_run {P : Program} {w : World} {base : Nat} {t ty : TypeId} {ei : TypeId × Nat × Nat} (he : eInf P t = some ei) (hpos : 0 < ei.2.1) {v : Value} {n : Nat} {fx : List Value} (hv1 : v.oneCell' = true)
    (hown : w.ownsRow base ei.1 ei.2.1 v n fx) {u : Value} {ys : List Value} (hsz : ∀ y ∈ ys, y.cells.size = ei.2.1) (hone : ∀ c ∈ flat ys, c.oneCell' = true)
    (hsrc : (ys = [] ∧ u = .slice none 0 0) ∨ ∃ ad cap, u = .slice (some ad) ys.length cap ∧ ∀ j c, (flat ys)[j]? = some c → w.cell? (ad.add j) = some c)
    (h63 : n + ys.length ≤ 9223372036854775807) (hbytes : (n + ys.length) * ei.2.2 ≤ 140737488355328) (hbase : base ≤ w.heap.size) :
    ∃ v' w', (Builtin.append_ #[t, t] ty #[v, u]).run P w = .ok v' w' ∧ w'.ownsRow base ei.1 ei.2.1 v' (n + ys.length) (fx ++ flat ys) ∧ w.grownBy w' v.ownBlock ∧
      (∀ b, v'.ownBlock = some b → v.ownBlock = some b ∨ w.heap.size ≤ b) ∧ (∀ b, v.ownBlock = some b → ∀ o, o < fx.length → w'.cell? ⟨b, o, none⟩ = w.cell? ⟨b, o, none⟩) ∧ v'.oneCell' = true := by
  obtain ⟨i, z, hu, hi, hz, hs1, hb1, hzs⟩ := eInf_ex he
  rcases hsrc with ⟨rfl, rfl⟩ | ⟨ad, cap, rfl, hread⟩
  · have hr := run_append_owned_none (P := P) w base t ty ei.1 i ei.2.1 hu hi v n fx hown
    exact ⟨v, w, hr, by simpa [flat] using hown, ⟨rfl, rfl, rfl, Nat.le_refl _, fun _ _ _ => rfl⟩, fun b hb => .inl hb, fun _ _ _ _ => rfl, hv1⟩
  · exact run_append_own' w base t ty ei.1 i z ei.2.1 ei.2.2 hu hi hz hs1 hb1 hzs hpos v n fx hown ad ys.length cap (flat ys) (flat_len hsz) hread hone (by simpa [maxLen] using h63) hbytes hbase

theorem appendK_sound {P : Program} {h : Hp} {ei : TypeId × Nat × Nat} {d : Nat} {s x : C} {sz : Nat} {ys : List Value} {K : Hp → Prop} {t ty : TypeId} (he : eInf P t = some ei) (hd : hasKey h.lists d = false)
    (hs : srcOf h ei.2.1 x = some (sz, ys)) (hsz : sz = ei.2.1) (hc : appendK h ei d s ys K) :
    ∃ h', K h' ∧ ∀ g0 pk g cs cx, HeapOk g0 pk g h → WfG g h → RepC g h s cs → RepC g h x cx → ∃ v g', (Builtin.append_ #[t, t] ty #[cs, cx]).run P g.w = .ok v g'.w ∧
      HeapOk g0 pk g' h' ∧ WfG g' h' ∧ Ext g h g' h' ∧ RepC g' h' (.o d) v := by
  subst hsz
  unfold appendK at hc
  split at hc
  · rename_i K id
    obtain ⟨lo, hlo, ⟨hl, hle, hls, h63, hb⟩, hK⟩ := optK_ex hc
    refine ⟨_, hK, fun g0 pk g cs cx hk hwf hrs hrx => ?_⟩
    obtain ⟨_, rfl⟩ := hrs
    have hL := hk.lists id lo (fnd_mem hlo) hl
    obtain ⟨h1, h2, h3⟩ := src_read hk hs hrx
    obtain ⟨v', w', hr, how, hgr, hnb, hcell, hone'⟩ := append_run (ty := ty) he (hls ▸ hL.pos) (hwf.ov id lo (fnd_mem hlo)) (by rw [← hle, ← hls]; exact hL.own) h1 h2 h3 h63 hb (Nat.zero_le _)
    have hmem : ∀ id' lo', (id', lo') ∈ upd h.lists id { lo with live := false } → lo'.live = true → (id', lo') ∈ h.lists ∧ id' ≠ id := fun id' lo' hm hl' => by
      rcases mem_upd hm with ⟨_, rfl⟩ | ⟨hne, hm⟩
      · cases hl'
      · exact ⟨hm, hne⟩
    obtain ⟨g', hg1, hg2, hk', hext, hovs⟩ := hk.putList hd (upd h.lists id { lo with live := false }) (blk g id)
      (fun id' lo' hm hl' => ⟨(hmem id' lo' hm hl').1, fun b hb => hk.sepL id lo id' lo' (fnd_mem hlo) (hmem id' lo' hm hl').1 hl hl' (Ne.symm (hmem id' lo' hm hl').2) b hb⟩)
      (fun id' lo' hm => mem_upd_key hm)
      (fun id' lo' hm => by
        rcases mem_upd hm with ⟨rfl, _⟩ | ⟨_, hm⟩
        · exact ⟨lo, fnd_mem hlo⟩
        · exact ⟨lo', hm⟩)
      (fun b hb => ⟨(hL.lt hb).1, (hL.lt hb).2, fun id' cs hm e => hk.sepX id lo id' cs (fnd_mem hlo) hm hl (by rw [hb, e])⟩)
      (v := v') (w' := w') (lo := { lo with xs := lo.xs ++ ys }) hl (by rw [flat_append, List.length_append]; simp only; rw [hle, hls]; exact how)
      (fun y hy => by
        rcases List.mem_append.1 hy with hy | hy
        · exact hL.sz y hy
        · rw [hls]; exact h1 y hy) hL.pos
      (fun c hc => by
        rw [flat_append] at hc
        rcases List.mem_append.1 hc with hc | hc
        · exact hL.one c hc
        · exact h2 c hc) hgr.os hgr.tape hgr.output hgr.size hgr.block
      (fun b hb o hv => by
        have := (hL.vis b hb o).1 hv
        exact ⟨hcell b hb o this.2, this.1, by rw [flat_append, List.length_append]; omega⟩) hnb
    refine ⟨v', g', by rw [hr, hg1], hk', ⟨fun id' lo' hm => ?_, ⟨by rw [hasKey_upd]; exact hd, hwf.nd.upd _ _⟩⟩, hext, ⟨_, List.mem_cons_self ..⟩, hg2.symm⟩
    rcases List.mem_cons.1 hm with hm | hm
    · rw [(Prod.mk.inj hm).1, hg2]; exact hone'
    · by_cases hid : id' = d
      · rw [hid, hg2]; exact hone'
      · rw [hovs id' hid]
        rcases mem_upd hm with ⟨rfl, _⟩ | ⟨_, hm⟩
        · exact hwf.ov _ lo (fnd_mem hlo)
        · exact hwf.ov id' lo' hm
  · rename_i K
    obtain ⟨⟨hpos, h63, hb⟩, hK⟩ := hc
    refine ⟨_, hK, fun g0 pk g cs cx hk hwf hrs hrx => ?_⟩
    simp only [RepC] at hrs
    subst hrs
    obtain ⟨h1, h2, h3⟩ := src_read hk hs hrx
    obtain ⟨v', w', hr, how, hgr, hnb, hcell, hone'⟩ := append_run (ty := ty) (w := g.w) (base := 0) he hpos (v := .slice none 0 0) (n := 0) (fx := []) rfl (World.ownsRow_nil _ _ _ _) h1 h2 h3 (by omega) (by simpa using hb) (Nat.zero_le _)
    have hb0 : (Value.slice none 0 0).ownBlock = none := rfl
    obtain ⟨g', hg1, hg2, hk', hext, hovs⟩ := hk.putList hd h.lists none (fun id' lo' hm hl' => ⟨hm, by simp⟩) (fun id' lo' hm => ⟨lo', hm⟩) (fun id' lo' hm => ⟨lo', hm⟩) (by simp)
      (v := v') (w' := w') (lo := { e := ei.1, sz := ei.2.1, xs := ys, pub := false, live := true }) rfl (by simpa using how) h1 hpos h2 hgr.os hgr.tape hgr.output hgr.size
      (fun k hk' hne => hgr.block k hk' (by rw [hb0]; exact hne)) (by simp) (fun b hb => .inr ((hnb b hb).resolve_left (by rw [hb0]; simp)))
    refine ⟨v', g', by rw [hr, hg1], hk', ⟨fun id' lo' hm => ?_, ⟨hd, hwf.nd⟩⟩, hext, ⟨_, List.mem_cons_self ..⟩, hg2.symm⟩
    rcases List.mem_cons.1 hm with hm | hm
    · rw [(Prod.mk.inj hm).1, hg2]; exact hone'
    · by_cases hid : id' = d
      · rw [hid, hg2]; exact hone'
      · rw [hovs id' hid]; exact hwf.ov id' lo' hm
  · exact hc.elim

end Go.PL
