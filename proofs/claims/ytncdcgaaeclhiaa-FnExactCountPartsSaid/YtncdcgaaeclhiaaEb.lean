/-
  Calls that hand back own lists or boxes, or write boxes that they were given.
-/
import Derived.Test.YtncdcgaaeclhiaaEa
namespace Go.PL
open Go.RowKit
set_option linter.unusedSimpArgs false
set_option linter.unusedVariables false

def dropK {α : Type} (ks : List Nat) : List (Nat × α) → List (Nat × α)
  | [] => []
  | (k, x) :: r => if k ∈ ks then dropK ks r else (k, x) :: dropK ks r
theorem mem_dropK {α : Type} {ks : List Nat} {l : List (Nat × α)} {k : Nat} {x : α} : (k, x) ∈ dropK ks l ↔ (k, x) ∈ l ∧ k ∉ ks := by
  induction l with
  | nil => simp [dropK]
  | cons y r ih =>
    obtain ⟨k', y⟩ := y
    simp only [dropK]
    split
    · rename_i hk
      rw [ih]
      constructor
      · exact fun h => ⟨List.mem_cons_of_mem _ h.1, h.2⟩
      · rintro ⟨h1, h2⟩
        rcases List.mem_cons.1 h1 with h | h
        · rw [(Prod.mk.inj h).1] at h2; exact absurd hk h2
        · exact ⟨h, h2⟩
    · rename_i hk
      rw [List.mem_cons, ih]
      constructor
      · rintro (h | h)
        · rw [h]; exact ⟨by simp, by rw [(Prod.mk.inj h).1]; exact hk⟩
        · exact ⟨List.mem_cons_of_mem _ h.1, h.2⟩
      · rintro ⟨h1, h2⟩
        rcases List.mem_cons.1 h1 with h | h
        · exact .inl h
        · exact .inr ⟨h, h2⟩
theorem dropK_nil {α : Type} (l : List (Nat × α)) : dropK [] l = l := by
  induction l with
  | nil => rfl
  | cons y r ih => obtain ⟨k', y⟩ := y; simp [dropK, ih]
theorem hasKey_append {α : Type} (l m : List (Nat × α)) (k : Nat) : hasKey (l ++ m) k = (hasKey l k || hasKey m k) := by
  induction l with
  | nil => simp [hasKey]
  | cons y r ih =>
    obtain ⟨k', y⟩ := y
    simp only [List.cons_append, hasKey]
    split
    · simp
    · exact ih
theorem noDup_append {α : Type} : ∀ {l m : List (Nat × α)}, noDup l → noDup m → (∀ k x, (k, x) ∈ l → hasKey m k = false) → noDup (l ++ m)
  | [], _, _, h, _ => h
  | (k, x) :: l, m, ⟨h1, h2⟩, hm, hd => by
    refine ⟨?_, noDup_append h2 hm fun k' x' h => hd k' x' (List.mem_cons_of_mem _ h)⟩
    show hasKey (l ++ m) k = false
    rw [hasKey_append, h1, hd k x (by simp)]
    rfl
theorem key_of_has {α : Type} {l : List (Nat × α)} {k : Nat} (h : hasKey l k = true) : ∃ x, (k, x) ∈ l := by
  induction l with
  | nil => simp [hasKey] at h
  | cons y r ih =>
    obtain ⟨k', y⟩ := y
    simp only [hasKey] at h
    split at h
    · rename_i hk; exact ⟨y, by simp [hk]⟩
    · obtain ⟨x, hx⟩ := ih h; exact ⟨x, List.mem_cons_of_mem _ hx⟩

/-- the own lists of the caller behind a call: those that were handed in are the callee's now; the others are as they were, or published -/
def restL (tmp : Bool) (ks : List Nat) (l : List (Nat × LO)) : List (Nat × LO) := if tmp = true then dropK ks l else pubAll (dropK ks l)
theorem mem_restL {tmp : Bool} {ks : List Nat} {l : List (Nat × LO)} {id : Nat} {lo : LO} (h : (id, lo) ∈ restL tmp ks l) : ∃ lo0, (id, lo0) ∈ l ∧ id ∉ ks ∧ lo = if tmp = true then lo0 else { lo0 with pub := true } := by
  unfold restL at h
  cases tmp with
  | true => obtain ⟨h1, h2⟩ := mem_dropK.1 h; exact ⟨lo, h1, h2, rfl⟩
  | false =>
    obtain ⟨lo0, h1, rfl⟩ := mem_pubAll h
    obtain ⟨h1, h2⟩ := mem_dropK.1 h1
    exact ⟨lo0, h1, h2, rfl⟩
theorem mem_restL' {tmp : Bool} {ks : List Nat} {l : List (Nat × LO)} {id : Nat} {lo : LO} (h : (id, lo) ∈ l) (hn : id ∉ ks) : ∃ lo', (id, lo') ∈ restL tmp ks l := by
  unfold restL
  cases tmp with
  | true => exact ⟨lo, mem_dropK.2 ⟨h, hn⟩⟩
  | false => exact ⟨_, mem_pubAll' (mem_dropK.2 ⟨h, hn⟩)⟩
theorem hasKey_dropK {α : Type} {ks : List Nat} {l : List (Nat × α)} {k : Nat} : hasKey (dropK ks l) k = (hasKey l k && !decide (k ∈ ks)) := by
  induction l with
  | nil => rfl
  | cons x r ih =>
    obtain ⟨i, x⟩ := x
    simp only [dropK]
    by_cases hi : i ∈ ks
    · rw [if_pos hi, ih]
      by_cases e : i = k
      · subst e; simp [hi]
      · simp [hasKey, e]
    · rw [if_neg hi]
      by_cases e : i = k
      · subst e; simp [hasKey, hi]
      · simp [hasKey, e, ih]
theorem noDup_dropK {α : Type} {ks : List Nat} : ∀ {l : List (Nat × α)}, noDup l → noDup (dropK ks l)
  | [], h => h
  | (i, x) :: r, ⟨h1, h2⟩ => by
    simp only [dropK]
    split
    · exact noDup_dropK h2
    · exact ⟨by rw [hasKey_dropK, h1]; rfl, noDup_dropK h2⟩
theorem hasKey_restL {tmp : Bool} {ks : List Nat} {l : List (Nat × LO)} {k : Nat} : hasKey (restL tmp ks l) k = (hasKey l k && !decide (k ∈ ks)) := by
  unfold restL
  cases tmp with
  | true => exact hasKey_dropK
  | false => simp only [Bool.false_eq_true, if_false]; rw [hasKey_pubAll]; exact hasKey_dropK
theorem noDup_restL {tmp : Bool} {ks : List Nat} {l : List (Nat × LO)} (h : noDup l) : noDup (restL tmp ks l) := by
  unfold restL
  cases tmp with
  | true => exact noDup_dropK h
  | false => exact (noDup_dropK h).pubAll
/-- the memory behind a call -/
def mergeH (tmp : Bool) (h : Hp) (bs ks : List Nat) (h' : Hp) : Hp :=
  { boxes := h'.boxes ++ dropK bs h.boxes, lists := h'.lists ++ restL tmp ks h.lists }
def plainC : C → Bool
  | .v _ => true
  | .l .. => true
  | .q _ => true
  | .any => true
  | _ => false
theorem plainC_rep {g : Gh} {h h' : Hp} {x : C} {u : Value} (hp : plainC x = true) (hr : RepC g h x u) : RepC g h' x u := by
  cases x <;> first | exact hr | (simp [plainC] at hp)
/-- a value that shows no cells -/
def nvC : C → Bool
  | .l .. => false
  | .q _ => false
  | _ => true
def nvV1 : V1 → Bool
  | .c x => nvC x
  | .a xs => xs.all nvC
def nvPV : PV → Bool
  | .s x => nvV1 x
  | .t xs => xs.all nvV1

theorem callG_ok {P : Program} {f : FuncId} {bxs : List (Nat × List C)} {ins : List (Nat × LO)} {vs : List V1} {r : PV} {h h' : Hp} {args : List PV} (tmp : Bool) (hc : PCalls P f bxs ins vs r h')
    (hbx : ∀ id cs, (id, cs) ∈ bxs → (id, cs) ∈ h.boxes ∧ cs.all plainC = true)
    (hin : ∀ id lo, (id, lo) ∈ ins → (id, lo) ∈ h.lists ∧ lo.live = true ∧ lo.pub = false) (hnd : noDup ins)
    (hv : viewArgs h (ins.map Prod.fst) vs args = some vs) (hok : vs.all (okV1 (bxs.map Prod.fst) (ins.map Prod.fst)) = true)
    (hfl : ∀ id lo, (id, lo) ∈ h'.lists → id ∈ ins.map Prod.fst ∨ hasKey h.lists id = false) (hfb : ∀ id cs, (id, cs) ∈ h'.boxes → id ∈ bxs.map Prod.fst ∨ hasKey h.boxes id = false)
    (htmp : tmp = true → nvPV r = true ∧ ∀ id cs, (id, cs) ∈ h'.boxes → cs.all nvC = true)
    {g0 : Gh} {pk : Pk} {g : Gh} {cargs : Array Value} (hk : HeapOk g0 pk g h) (wf : WfG g h) (ha : All2 (RepPV g h) args cargs.toList) :
    Calls P f cargs g.w fun e w' => ∃ g' v, e = .returned v ∧ g'.w = w' ∧ HeapOk g0 pk g' (mergeH tmp h (bxs.map Prod.fst) (ins.map Prod.fst) h') ∧ WfG g' (mergeH tmp h (bxs.map Prod.fst) (ins.map Prod.fst) h') ∧
      Ext g h g' (mergeH tmp h (bxs.map Prod.fst) (ins.map Prod.fst) h') ∧ RepPV g' (mergeH tmp h (bxs.map Prod.fst) (ins.map Prod.fst) h') r v := by
  have hargs := viewArgs_rep hk wf hv hok ha
  generalize hksd : ins.map Prod.fst = ks at *
  generalize hbsd : bxs.map Prod.fst = bs at *
  obtain ⟨hk1, he1⟩ := hk.pubQ' (p := fun i => !memN ks i) wf
  have hpf : ∀ id, id ∈ ks → (!memN ks id) = false := fun id h => by simp [memN_iff.2 h]
  have hpt : ∀ id, id ∉ ks → (!memN ks id) = true := fun id h => by simp [memN_not.2 h]
  have insk : ∀ id ∈ ks, ∃ lo, (id, lo) ∈ ins := fun id hm => by
    rw [← hksd] at hm
    obtain ⟨⟨i, lo⟩, h5, rfl⟩ := List.mem_map.1 hm
    exact ⟨lo, h5⟩
  have kins : ∀ id lo, (id, lo) ∈ ins → id ∈ ks := fun id lo hm => by rw [← hksd]; exact List.mem_map.2 ⟨_, hm, rfl⟩
  have bxk : ∀ id ∈ bs, ∃ cs, (id, cs) ∈ bxs := fun id hm => by
    rw [← hbsd] at hm
    obtain ⟨⟨i, cs⟩, h5, rfl⟩ := List.mem_map.1 hm
    exact ⟨cs, h5⟩
  have kbx : ∀ id cs, (id, cs) ∈ bxs → id ∈ bs := fun id cs hm => by rw [← hbsd]; exact List.mem_map.2 ⟨_, hm, rfl⟩
  have in1 : ∀ id lo, (id, lo) ∈ ins → (id, lo) ∈ pubP (fun i => !memN ks i) h.lists := fun id lo hm => by
    have := mem_pubP' (p := fun i => !memN ks i) (hin id lo hm).1
    simpa [hpf id (kins id lo hm)] using this
  have ou1 : ∀ id lo, (id, lo) ∈ h.lists → id ∉ ks → (id, { lo with pub := true }) ∈ pubP (fun i => !memN ks i) h.lists := fun id lo hm hn => by
    have := mem_pubP' (p := fun i => !memN ks i) hm
    simpa [hpt id hn] using this
  have hgov : (PL.pubQ (fun i => !memN ks i) g h).ov = g.ov := rfl
  have hgbx : (PL.pubQ (fun i => !memN ks i) g h).bx = g.bx := rfl
  have hgw : (PL.pubQ (fun i => !memN ks i) g h).w = g.w := rfl
  have hgV : ∀ b o, g.V b o → (PL.pubQ (fun i => !memN ks i) g h).V b o := fun b o hv => .inl hv
  generalize hg1 : PL.pubQ (fun i => !memN ks i) g h = g1 at *
  have hent : HeapOk g1 ⟨bs, ks⟩ g1 ⟨bxs, ins⟩ := by
    refine ⟨rfl, rfl, rfl, Nat.le_refl _, fun _ _ _ _ => rfl, fun _ _ h => ⟨h, rfl⟩, fun _ _ _ _ h => h, hk1.vin, bxk, fun id hid => ⟨insk id hid, rfl⟩, fun id cs hm => ?_, fun id lo hm hl => ?_, fun id cs id' cs' hm hm' hne => ?_, fun id lo id' lo' hm hm' hl hl' hne b hb => ?_, fun id lo id' cs hm hm' hl => ?_⟩
    · have hb := hk1.boxes id cs (hbx id cs hm).1
      obtain ⟨arr, ty, h1, h2, h3⟩ := hb.cells
      exact ⟨.inr ⟨kbx id cs hm, rfl⟩, hb.hid, arr, ty, h1, all2_all (fun _ _ => plainC_rep) (hbx id cs hm).2 h2, h3⟩
    · have hb := hk1.lists id lo (in1 id lo hm) hl
      exact ⟨hb.own, fun b hb' => .inr ⟨id, kins id lo hm, hb'⟩, hb.sz, hb.pos, hb.one, hb.vis⟩
    · exact hk1.sepB id cs id' cs' (hbx id cs hm).1 (hbx id' cs' hm').1 hne
    · exact hk1.sepL id lo id' lo' (in1 id lo hm) (in1 id' lo' hm') hl hl' hne b hb
    · exact hk1.sepX id lo id' cs (in1 id lo hm) (hbx id' cs hm').1 hl
  have hwe : WfG g1 ⟨bxs, ins⟩ := ⟨fun id lo hm => by rw [hgov]; exact wf.ov id lo (hin id lo hm).1, hnd⟩
  have hcc := hc.2 g1 cargs (by rw [hksd, hbsd]; exact hent) hwe hargs
  rw [hgw, hksd, hbsd] at hcc
  refine hcc.mono fun e w' hx => ?_
  obtain ⟨g', v, rfl, rfl, h1, h2, h3⟩ := hx
  clear hcc
  let S : Nat → Prop := fun b => tmp = true ∧ ∃ id lo, (id, lo) ∈ h.lists ∧ id ∉ ks ∧ lo.live = true ∧ lo.pub = false ∧ blk g id = some b
  let gm : Gh := { w := g'.w, V := fun b o => g'.V b o ∧ ¬ S b, bx := fun id => if hasKey h'.boxes id = true then g'.bx id else g1.bx id, ov := fun id => if hasKey h'.lists id = true then g'.ov id else g1.ov id }
  have gbx' : ∀ id cs, (id, cs) ∈ h'.boxes → gm.bx id = g'.bx id := fun id cs hm => by simp [gm, hasKey_of_mem hm]
  have gov' : ∀ id lo, (id, lo) ∈ h'.lists → gm.ov id = g'.ov id := fun id lo hm => by simp [gm, hasKey_of_mem hm]
  have gov : ∀ id lo, (id, lo) ∈ h.lists → id ∉ ks → gm.ov id = g.ov id ∧ hasKey h'.lists id = false := fun id lo hm0 hn => by
    have : hasKey h'.lists id = false := by
      cases hh : hasKey h'.lists id with
      | false => rfl
      | true =>
        obtain ⟨x, hx⟩ := key_of_has hh
        rcases hfl id x hx with h5 | h5
        · exact absurd h5 hn
        · rw [hasKey_of_mem hm0] at h5; cases h5
    exact ⟨by simp [gm, this, hgov], this⟩
  have gbx : ∀ id cs, (id, cs) ∈ h.boxes → id ∉ bs → gm.bx id = g.bx id := fun id cs hm hn => by
    have : hasKey h'.boxes id = false := by
      cases hh : hasKey h'.boxes id with
      | false => rfl
      | true =>
        obtain ⟨x, hx⟩ := key_of_has hh
        rcases hfb id x hx with h5 | h5
        · exact absurd h5 hn
        · rw [hasKey_of_mem hm] at h5; cases h5
    simp [gm, this, hgbx]
  have gbxk : ∀ id cs, (id, cs) ∈ h'.boxes → id ∈ bs → g'.bx id = g.bx id := fun id cs hm hin => by
    rcases (h1.boxes id cs hm).own with ⟨h5, _⟩ | ⟨_, h5⟩
    · exact absurd hin h5
    · rw [h5, hgbx]
  have blk' : ∀ id lo, (id, lo) ∈ h'.lists → blk gm id = blk g' id := fun id lo hm => by simp only [blk, gov' id lo hm]
  have blk1 : ∀ id lo, (id, lo) ∈ h.lists → id ∉ ks → blk gm id = blk g id := fun id lo hm hn => by simp only [blk, (gov id lo hm hn).1]
  have blkg : ∀ id, blk g1 id = blk g id := fun id => by simp only [blk, hgov]
  -- the blocks of the lists that were handed in
  have inB : ∀ id ∈ ks, ∀ b, blk g id = some b → Mine g0 pk b ∧ b < g.w.heap.size := fun id hid b hb => by
    obtain ⟨lo, hm⟩ := insk id hid
    exact (hk.lists id lo (hin id lo hm).1 (hin id lo hm).2.1).lt hb
  have inN : ∀ id ∈ ks, ∀ b, blk g id = some b → ∀ id' lo', (id', lo') ∈ h.lists → id' ∉ ks → lo'.live = true → blk g id' ≠ some b := fun id hid b hb id' lo' hm' hn hl' => by
    obtain ⟨lo, hm⟩ := insk id hid
    exact hk.sepL id lo id' lo' (hin id lo hm).1 hm' (hin id lo hm).2.1 hl' (fun e => hn (e ▸ hid)) b hb
  have inX : ∀ id ∈ ks, ∀ b, blk g id = some b → ∀ id' cs, (id', cs) ∈ h.boxes → g.bx id' ≠ b := fun id hid b hb id' cs hm' e => by
    obtain ⟨lo, hm⟩ := insk id hid
    exact hk.sepX id lo id' cs (hin id lo hm).1 hm' (hin id lo hm).2.1 (by rw [hb, e])
  have hsame : ∀ k, k < g.w.heap.size → (∀ id ∈ bs, g.bx id ≠ k) → (∀ id ∈ ks, blk g id ≠ some k) → g'.w.heap[k]? = g.w.heap[k]? := fun k hlt h5 h6 => by
    have := h1.frame k (by rw [hgw]; exact hlt) (fun id hid => by rw [hgbx]; exact h5 id hid) (fun id hid => by rw [blkg]; exact h6 id hid)
    rw [hgw] at this; exact this
  have hold : ∀ b o, b < g.w.heap.size → (∀ id ∈ ks, blk g id ≠ some b) → (g'.V b o ↔ g1.V b o) := fun b o hb hn => ⟨h1.old b o (by rw [hgw]; exact hb) (fun id hid => by rw [blkg]; exact hn id hid), fun hv => (h1.vis b o hv).1⟩
  have hmB : ∀ id cs, (id, cs) ∈ (mergeH tmp h bs ks h').boxes → (id, cs) ∈ h'.boxes ∨ ((id, cs) ∈ h.boxes ∧ id ∉ bs) := fun id cs hm => by
    rcases List.mem_append.1 hm with h5 | h5
    · exact .inl h5
    · exact .inr (mem_dropK.1 h5)
  have hmL : ∀ id lo, (id, lo) ∈ (mergeH tmp h bs ks h').lists → (id, lo) ∈ h'.lists ∨ ∃ lo0, (id, lo0) ∈ h.lists ∧ id ∉ ks ∧ lo = if tmp = true then lo0 else { lo0 with pub := true } := fun id lo hm => by
    rcases List.mem_append.1 hm with h5 | h5
    · exact .inl h5
    · exact .inr (mem_restL h5)
  have hlv : ∀ (lo0 : LO), (if tmp = true then lo0 else { lo0 with pub := true }).live = lo0.live := fun lo0 => by split <;> rfl
  -- what the callee shows is shown
  have heC : ∀ x u, (tmp = true → nvC x = true) → RepC g' h' x u → RepC gm (mergeH tmp h bs ks h') x u := by
    intro x u hnv hr
    cases htm : tmp with
    | false =>
      have he' : Ext g' h' gm (mergeH tmp h bs ks h') := ⟨fun b o hv => ⟨⟨hv, fun hs => by have := hs.1; rw [htm] at this; cases this⟩, rfl⟩, fun id cs hm => ⟨⟨cs, List.mem_append_left _ hm⟩, gbx' id cs hm⟩, fun id lo hm => ⟨⟨lo, List.mem_append_left _ hm⟩, gov' id lo hm⟩⟩
      rw [← htm]
      exact hr.ext he'
    | true =>
      rw [← htm]
      have hnv := hnv htm
      cases x with
      | v x => exact hr
      | l sz xs => simp [nvC] at hnv
      | o id => obtain ⟨⟨lo, hm⟩, e⟩ := hr; exact ⟨⟨lo, List.mem_append_left _ hm⟩, e.trans (gov' id lo hm).symm⟩
      | p id off => obtain ⟨⟨cs, hm⟩, e⟩ := hr; exact ⟨⟨cs, List.mem_append_left _ hm⟩, by rw [gbx' id cs hm]; exact e⟩
      | q cs => simp [nvC] at hnv
      | e id sz idx off => obtain ⟨⟨lo, hm⟩, b, n, cap, e1, e2⟩ := hr; exact ⟨⟨lo, List.mem_append_left _ hm⟩, b, n, cap, by rw [gov' id lo hm]; exact e1, e2⟩
      | any => trivial
  have heL : ∀ (xs : List C) (us : List Value), (tmp = true → xs.all nvC = true) → All2 (RepC g' h') xs us → All2 (RepC gm (mergeH tmp h bs ks h')) xs us := by
    intro xs
    induction xs with
    | nil => intro us _ hr; cases us with | nil => trivial | cons _ _ => exact hr.elim
    | cons x xs ih =>
      intro us hnv hr
      cases us with
      | nil => exact hr.elim
      | cons u us =>
        exact ⟨heC x u (fun e => by have := hnv e; simp only [List.all_cons, Bool.and_eq_true] at this; exact this.1) hr.1, ih us (fun e => by have := hnv e; simp only [List.all_cons, Bool.and_eq_true] at this; exact this.2) hr.2⟩
  have heV : ∀ (x : V1) (u : Value), (tmp = true → nvV1 x = true) → RepV1 g' h' x u → RepV1 gm (mergeH tmp h bs ks h') x u := by
    intro x u hnv hr
    cases x with
    | c x => exact heC x u hnv hr
    | a xs => obtain ⟨cs, e, h5⟩ := hr; exact ⟨cs, e, heL xs _ hnv h5⟩
  have heVs : ∀ (xs : List V1) (us : List Value), (tmp = true → xs.all nvV1 = true) → All2 (RepV1 g' h') xs us → All2 (RepV1 gm (mergeH tmp h bs ks h')) xs us := by
    intro xs
    induction xs with
    | nil => intro us _ hr; cases us with | nil => trivial | cons _ _ => exact hr.elim
    | cons x xs ih =>
      intro us hnv hr
      cases us with
      | nil => exact hr.elim
      | cons u us =>
        exact ⟨heV x u (fun e => by have := hnv e; simp only [List.all_cons, Bool.and_eq_true] at this; exact this.1) hr.1, ih us (fun e => by have := hnv e; simp only [List.all_cons, Bool.and_eq_true] at this; exact this.2) hr.2⟩
  have heP : RepPV gm (mergeH tmp h bs ks h') r v := by
    cases r with
    | s x => exact heV x v (fun e => (htmp e).1) h3
    | t xs => obtain ⟨us, e, h5⟩ := h3; exact ⟨us, e, heVs xs _ (fun e => (htmp e).1) h5⟩
  -- what was shown before the call is shown
  have he2 : Ext g h gm (mergeH tmp h bs ks h') := by
    refine ⟨fun b o hv => ?_, fun id cs hm => ?_, fun id lo hm => ?_⟩
    · have h5 := h1.vis b o (hgV b o hv)
      refine ⟨⟨h5.1, fun hs => ?_⟩, by rw [hgw] at h5; exact h5.2⟩
      obtain ⟨_, id, lo, hm, _, hl, hp, hb⟩ := hs
      have := (((hk.lists id lo hm hl).vis b hb o).1 hv).1
      rw [hp] at this; cases this
    · by_cases hib : id ∈ bs
      · obtain ⟨cs', hm'⟩ := h1.pkin id hib
        exact ⟨⟨cs', List.mem_append_left _ hm'⟩, (gbx' id cs' hm').trans (gbxk id cs' hm' hib)⟩
      · exact ⟨⟨cs, List.mem_append_right _ (mem_dropK.2 ⟨hm, hib⟩)⟩, gbx id cs hm hib⟩
    · by_cases hik : id ∈ ks
      · obtain ⟨⟨lo', hm'⟩, e⟩ := h1.lsin id hik
        exact ⟨⟨lo', List.mem_append_left _ hm'⟩, by rw [gov' id lo' hm', e, hgov]⟩
      · obtain ⟨lo', hm'⟩ := mem_restL' (tmp := tmp) hm hik
        exact ⟨⟨lo', List.mem_append_right _ hm'⟩, (gov id lo hm hik).1⟩
  have keepB : ∀ id cs, (id, cs) ∈ h.boxes → id ∉ bs → g'.w.heap[g.bx id]? = g.w.heap[g.bx id]? := fun id cs hm hn => by
    refine hsame _ (hk.boxes id cs hm).lt (fun id' hid' e => ?_) (fun id' hid' e => inX id' hid' _ e id cs hm rfl)
    obtain ⟨cs', h5⟩ := bxk id' hid'
    exact hk.sepB id' cs' id cs (hbx id' cs' h5).1 hm (fun e' => hn (e' ▸ hid')) e
  have keepL : ∀ id lo, (id, lo) ∈ h.lists → id ∉ ks → lo.live = true → ∀ b, blk g id = some b → g'.w.heap[b]? = g.w.heap[b]? := fun id lo hm hn hl b hb => by
    refine hsame _ ((hk.lists id lo hm hl).lt hb).2 (fun id' hid' e => ?_) (fun id' hid' e => inN id' hid' b e id lo hm hn hl hb)
    obtain ⟨cs', h5⟩ := bxk id' hid'
    exact hk.sepX id lo id' cs' hm (hbx id' cs' h5).1 hl (by rw [hb, e])
  have bxcase : ∀ id cs, (id, cs) ∈ h'.boxes → g.w.heap.size ≤ g'.bx id ∨ ∃ cs0, (id, cs0) ∈ bxs ∧ g'.bx id = g.bx id := fun id cs hm => by
    rcases (h1.boxes id cs hm).own with ⟨_, h5⟩ | ⟨h5, h6⟩
    · rw [hgw] at h5; exact .inl h5
    · obtain ⟨cs0, h7⟩ := bxk id h5
      exact .inr ⟨cs0, h7, by rw [h6, hgbx]⟩
  have lscase : ∀ id lo, (id, lo) ∈ h'.lists → lo.live = true → ∀ b, blk g' id = some b → g.w.heap.size ≤ b ∨ ∃ id' ∈ ks, blk g id' = some b := fun id lo hm hl b hb => by
    rcases (h1.lists id lo hm hl).mine b hb with h5 | ⟨id', h5, h6⟩
    · rw [hgw] at h5; exact .inl h5
    · exact .inr ⟨id', h5, by rw [← blkg]; exact h6⟩
  have hsz1 : g.w.heap.size ≤ g'.w.heap.size := by have := h1.size; rw [hgw] at this; exact this
  have hkm : HeapOk g0 pk gm (mergeH tmp h bs ks h') := by
    refine ⟨h1.os.trans (by rw [hgw]; exact hk.os), h1.tape.trans (by rw [hgw]; exact hk.tape), h1.output.trans (by rw [hgw]; exact hk.output), Nat.le_trans hk.size hsz1, ?_, ?_, ?_, fun b o hv => h1.vin b o hv.1, ?_, ?_, ?_, ?_, ?_, ?_, ?_⟩
    · intro k hlt hne hne2
      rw [← hk.frame k hlt hne hne2]
      refine hsame k (Nat.lt_of_lt_of_le hlt hk.size) (fun id hid e => ?_) (fun id hid e => ?_)
      · obtain ⟨cs', h5⟩ := bxk id hid
        rcases (hk.boxes id cs' (hbx id cs' h5).1).own with ⟨_, h6⟩ | ⟨h6, h7⟩
        · omega
        · exact hne id h6 (by rw [← h7, e])
      · rcases (inB id hid k e).1 with h5 | ⟨id', h5, h6⟩
        · omega
        · exact hne2 id' h5 h6
    · intro b o hv
      have h5 := hk.vis b o hv
      have h6 := he2.vis b o h5.1
      exact ⟨h6.1, h6.2.trans h5.2⟩
    · intro b o hb hn hv
      have h5 : ∀ id ∈ ks, blk g id ≠ some b := fun id hid e => by
        rcases (inB id hid b e).1 with h5 | ⟨id', h5, h6⟩
        · omega
        · exact hn id' h5 h6
      exact hk1.old b o hb hn ((hold b o (Nat.lt_of_lt_of_le hb hk.size) h5).1 hv.1)
    · intro id hid
      obtain ⟨cs, hm⟩ := hk.pkin id hid
      exact (he2.box id cs hm).1
    · intro id hid
      obtain ⟨⟨lo, hm⟩, e⟩ := hk.lsin id hid
      exact ⟨(he2.lst id lo hm).1, (he2.lst id lo hm).2.trans e⟩
    · intro id cs hm
      rcases hmB id cs hm with hm | ⟨hm, hn⟩
      · have hb := h1.boxes id cs hm
        obtain ⟨arr, ty, h5, h6, h7⟩ := hb.cells
        refine ⟨?_, ?_, arr, ty, ?_, heL cs _ (fun e => (htmp e).2 id cs hm) h6, h7⟩
        · rw [gbx' id cs hm]
          rcases bxcase id cs hm with h8 | ⟨cs0, h8, h9⟩
          · left
            refine ⟨fun hin => ?_, Nat.le_trans hk.size h8⟩
            obtain ⟨cs1, hm1⟩ := hk.pkin id hin
            rcases hfb id cs hm with h10 | h10
            · rw [gbxk id cs hm h10] at h8
              have := (hk.boxes id cs1 hm1).lt
              omega
            · rw [hasKey_of_mem hm1] at h10; cases h10
          · rw [h9]
            exact (hk.boxes id cs0 (hbx id cs0 h8).1).own
        · rw [gbx' id cs hm]; exact fun o hv => hb.hid o hv.1
        · rw [gbx' id cs hm]; exact h5
      · have hb := hk.boxes id cs hm
        refine hb.keep he2 (gbx id cs hm hn) (keepB id cs hm hn) fun o hv => ?_
        have := (hk1.boxes id cs hm).hid o
        rw [hgbx] at this
        exact this ((hold _ o hb.lt fun id' hid' e => inX id' hid' _ e id cs hm rfl).1 hv.1)
    · intro id lo hm hl
      rcases hmL id lo hm with hm | ⟨lo0, hm0, hn, rfl⟩
      · have hb := h1.lists id lo hm hl
        refine ⟨by rw [gov' id lo hm]; exact hb.own, fun b hb' => ?_, hb.sz, hb.pos, hb.one, fun b hb' o => ?_⟩
        · rw [blk' id lo hm] at hb'
          rcases lscase id lo hm hl b hb' with h5 | ⟨id', h5, h6⟩
          · exact .inl (Nat.le_trans hk.size h5)
          · exact (inB id' h5 b h6).1
        · rw [blk' id lo hm] at hb'
          rw [← hb.vis b hb' o]
          refine ⟨fun h => h.1, fun h => ⟨h, fun hs => ?_⟩⟩
          obtain ⟨_, id2, lo2, hm2, hn2, hl2, _, hb2⟩ := hs
          rcases lscase id lo hm hl b hb' with h5 | ⟨id', h5, h6⟩
          · have := ((hk.lists id2 lo2 hm2 hl2).lt hb2).2; omega
          · exact inN id' h5 b h6 id2 lo2 hm2 hn2 hl2 hb2
      · clear hm
        have hm := hm0
        rw [hlv] at hl
        have hb := hk.lists id lo0 hm hl
        have hb1 := hk1.lists id { lo0 with pub := true } (ou1 id lo0 hm hn) hl
        have hkeep : ∀ b, blk gm id = some b → blk g id = some b := fun b hb' => by rw [← blk1 id lo0 hm hn]; exact hb'
        have base := hb.keep (g' := { gm with V := g.V }) (gov id lo0 hm hn).1 (keepL id lo0 hm hn hl) fun _ _ _ => Iff.rfl
        cases htm : tmp with
        | true =>
          simp only [if_true]
          refine ⟨base.own, base.mine, base.sz, base.pos, base.one, fun b hb' o => ?_⟩
          have hb2 := hkeep b hb'
          constructor
          · rintro ⟨hv, hns⟩
            have hp : lo0.pub = true := by
              cases hp : lo0.pub with
              | true => rfl
              | false => exact absurd ⟨htm, id, lo0, hm, hn, hl, hp, hb2⟩ hns
            have := (hold b o (hb.lt hb2).2 fun id' hid' e => inN id' hid' b e id lo0 hm hn hl hb2).1 hv
            exact ⟨hp, ((hb1.vis b (by rw [blkg]; exact hb2) o).1 this).2⟩
          · exact fun h => (he2.vis b o ((hb.vis b hb2 o).2 h)).1
        | false =>
          simp only [Bool.false_eq_true, if_false]
          refine ⟨base.own, base.mine, base.sz, base.pos, base.one, fun b hb' o => ?_⟩
          have hb2 := hkeep b hb'
          rw [← hb1.vis b (by rw [blkg]; exact hb2) o, ← hold b o (hb.lt hb2).2 fun id' hid' e => inN id' hid' b e id lo0 hm hn hl hb2]
          exact ⟨fun h => h.1, fun h => ⟨h, fun hs => by have := hs.1; rw [htm] at this; cases this⟩⟩
    · intro id cs id' cs' hm hm' hne
      rcases hmB id cs hm with h5 | ⟨h5, hn⟩ <;> rcases hmB id' cs' hm' with h6 | ⟨h6, hn'⟩
      · rw [gbx' _ _ h5, gbx' _ _ h6]; exact h1.sepB id cs id' cs' h5 h6 hne
      · rw [gbx' _ _ h5, gbx _ _ h6 hn']
        rcases bxcase id cs h5 with h7 | ⟨cs0, h7, h8⟩
        · have := (hk.boxes id' cs' h6).lt; omega
        · rw [h8]; exact hk.sepB id cs0 id' cs' (hbx id cs0 h7).1 h6 hne
      · rw [gbx _ _ h5 hn, gbx' _ _ h6]
        rcases bxcase id' cs' h6 with h7 | ⟨cs0, h7, h8⟩
        · have := (hk.boxes id cs h5).lt; omega
        · rw [h8]; exact hk.sepB id cs id' cs0 h5 (hbx id' cs0 h7).1 hne
      · rw [gbx _ _ h5 hn, gbx _ _ h6 hn']; exact hk.sepB id cs id' cs' h5 h6 hne
    · intro id lo id' lo' hm hm' hl hl' hne b hb
      rcases hmL id lo hm with h5 | ⟨lo0, h5, hn, rfl⟩ <;> rcases hmL id' lo' hm' with h6 | ⟨lo1, h6, hn', rfl⟩
      · rw [blk' _ _ h5] at hb; rw [blk' _ _ h6]; exact h1.sepL id lo id' lo' h5 h6 hl hl' hne b hb
      · rw [hlv] at hl'
        rw [blk' _ _ h5] at hb
        rw [blk1 _ _ h6 hn']
        intro e
        rcases lscase id lo h5 hl b hb with h7 | ⟨id2, h7, h8⟩
        · have := ((hk.lists id' lo1 h6 hl').lt e).2; omega
        · exact inN id2 h7 b h8 id' lo1 h6 hn' hl' e
      · rw [hlv] at hl
        rw [blk1 _ _ h5 hn] at hb
        rw [blk' _ _ h6]
        intro e
        rcases lscase id' lo' h6 hl' b e with h7 | ⟨id2, h7, h8⟩
        · have := ((hk.lists id lo0 h5 hl).lt hb).2; omega
        · exact inN id2 h7 b h8 id lo0 h5 hn hl hb
      · rw [hlv] at hl hl'
        rw [blk1 _ _ h5 hn] at hb; rw [blk1 _ _ h6 hn']; exact hk.sepL id lo0 id' lo1 h5 h6 hl hl' hne b hb
    · intro id lo id' cs hm hm' hl
      rcases hmL id lo hm with h5 | ⟨lo0, h5, hn, rfl⟩ <;> rcases hmB id' cs hm' with h6 | ⟨h6, hn'⟩
      · rw [blk' _ _ h5, gbx' _ _ h6]; exact h1.sepX id lo id' cs h5 h6 hl
      · rw [blk' _ _ h5, gbx _ _ h6 hn']
        intro e
        rcases lscase id lo h5 hl _ e with h7 | ⟨id2, h7, h8⟩
        · have := (hk.boxes id' cs h6).lt; omega
        · exact inX id2 h7 _ h8 id' cs h6 rfl
      · rw [hlv] at hl
        rw [blk1 _ _ h5 hn, gbx' _ _ h6]
        intro e
        rcases bxcase id' cs h6 with h7 | ⟨cs0, h7, h8⟩
        · have h9 := ((hk.lists id lo0 h5 hl).lt e).2
          omega
        · exact hk.sepX id lo0 id' cs0 h5 (hbx id' cs0 h7).1 hl (by rw [e, h8])
      · rw [hlv] at hl
        rw [blk1 _ _ h5 hn, gbx _ _ h6 hn']; exact hk.sepX id lo0 id' cs h5 h6 hl
  have hwf : WfG gm (mergeH tmp h bs ks h') := by
    refine ⟨fun id lo hm => ?_, noDup_append h2.nd (noDup_restL wf.nd) fun k x hm => ?_⟩
    · rcases hmL id lo hm with h5 | ⟨lo0, h5, hn, _⟩
      · rw [gov' id lo h5]; exact h2.ov id lo h5
      · rw [(gov id lo0 h5 hn).1]; exact wf.ov id lo0 h5
    · rw [hasKey_restL]
      rcases hfl k x hm with h5 | h5
      · simp [h5]
      · simp [h5]
  exact ⟨gm, v, rfl, rfl, hkm, hwf, he2, heP⟩

end Go.PL
