import Derived.Test.YtppolfmipkjdhaaLa
/-! L1, part b: the state: what is owned, how a world stands for it, how a step changes it. -/
set_option linter.all false
namespace Go.L1
open Go.RowKit
variable [Zero Prop]

/-- What an owned block holds: a row of elements (each a list of cells), or a map's entries. -/
inductive Blk where
  | row (e : Nat) (els : List (List V))
  | map (es : List (V × V))
  deriving Inhabited

abbrev Heap := List (Nat × Nat × Blk)

/-- Owned cells hold them. -/
def OCells (c : Ctx) : List V → Nat → Nat → Prop
  | [], _, _ => True
  | x :: xs, b, o => (∃ v, c.w.cell? ⟨b, o, none⟩ = some v ∧ One v ∧ R c x v) ∧ OCells c xs b (o + 1)

/-- Owned rows hold them. -/
def OEls (c : Ctx) (sz : Nat) : List (List V) → Nat → Nat → Prop
  | [], _, _ => True
  | el :: els, b, o => el.length = sz ∧ OCells c el b o ∧ OEls c sz els b (o + sz)

def Ents (c : Ctx) : List (V × V) → List MapEntry → Prop
  | [], ms => ms = []
  | (k, x) :: es, ms => ∃ m ms', ms = m :: ms' ∧ R c k m.key ∧ R c x m.val ∧ Ents c es ms'

def Shape (w : World) (L : Loc) : Prop := ∃ cells, w.heap[L.blk]? = some (.cells cells L.e (0, 0)) ∧ cells.size = L.base + L.cap * L.sz

def BlkRel (c : Ctx) (L : Loc) : Blk → Prop
  | .row e els => L.e = e ∧ L.base = 0 ∧ 0 < L.sz ∧ els.length ≤ L.cap ∧ L.cap ≤ maxLen ∧ (0 < L.cap → Shape c.w L) ∧ OEls c L.sz els L.blk L.base
  | .map es => L.cap = 1 ∧ ∃ ents clock, c.w.heap[L.blk]? = some (.map ents clock) ∧ Ents c es ents.toList ∧
      (∀ m ∈ ents.toList, m.born < clock) ∧ (ents.toList.map (·.born)).Nodup

def owns (ρ : Names) (H : Heap) (b : Nat) : Prop := ∃ e ∈ H, ∃ L, ρ e.1 e.2.1 = some L ∧ 0 < L.cap ∧ L.blk = b

def ctx (F : Nat → Prop) (ρ : Names) (H : Heap) (w : World) : Ctx := ⟨w, fun b => F b ∨ owns ρ H b, ρ⟩

structure St (F : Nat → Prop) (ρ : Names) (H : Heap) (nx : Nat) (w : World) : Prop where
  rel : ∀ e ∈ H, ∃ L, ρ e.1 e.2.1 = some L ∧ (0 < L.cap → ¬ F L.blk ∧ L.blk < w.heap.size) ∧ BlkRel (ctx F ρ H w) L e.2.2
  ids : (H.map (·.1)).Nodup
  apart : ∀ e ∈ H, ∀ e' ∈ H, e.1 ≠ e'.1 → ∀ L L', ρ e.1 e.2.1 = some L → ρ e'.1 e'.2.1 = some L' → 0 < L.cap → 0 < L'.cap → L.blk ≠ L'.blk
  fresh : ∀ l u, nx ≤ l → ρ l u = none
  vers : ∀ e ∈ H, ∀ u, e.2.1 < u → ρ e.1 u = none
  fr : ∀ b, F b → b < w.heap.size

/-- Whether it is told that no answer of the tape is taken back. (A plain class of the language's own carries it along.) -/
def Tight : Prop := Zero.zero

structure Evo (ρ : Names) (H : Heap) (nx : Nat) (w : World) (ρ' : Names) (H' : Heap) (nx' : Nat) (w' : World) : Prop where
  os : w'.os = w.os
  tape : w'.tape = w.tape
  output : w'.output = w.output
  drawn : Tight → w.drawn ≤ w'.drawn
  size : w.heap.size ≤ w'.heap.size
  keep : ∀ b, b < w.heap.size → ¬ owns ρ H b → w'.heap[b]? = w.heap[b]?
  own : ∀ b, owns ρ' H' b → owns ρ H b ∨ w.heap.size ≤ b
  name : ∀ l u L, ρ l u = some L → ρ' l u = some L
  newn : ∀ l u L, ρ' l u = some L → ρ l u = some L ∨ (∃ e ∈ H, e.1 = l) ∨ nx ≤ l
  ids : ∀ e ∈ H', (∃ e0 ∈ H, e0.1 = e.1) ∨ nx ≤ e.1
  nx : nx ≤ nx'

theorem St.lt {F ρ H nx w} (h : St F ρ H nx w) {e} (he : e ∈ H) : e.1 < nx := by
  obtain ⟨L, hL, _⟩ := h.rel e he
  rcases Nat.lt_or_ge e.1 nx with k | k
  · exact k
  · rw [h.fresh _ _ k] at hL; cases hL

theorem St.ids_eq {F ρ H nx w} (h : St F ρ H nx w) {e e'} (he : e ∈ H) (he' : e' ∈ H) (k : e.1 = e'.1) : e = e' := by
  have := h.ids
  clear h
  induction H with
  | nil => cases he
  | cons x xs ih =>
    simp only [List.map_cons, List.nodup_cons, List.mem_map, not_exists, not_and] at this
    rcases List.mem_cons.1 he with h1 | h1 <;> rcases List.mem_cons.1 he' with h2 | h2
    · exact h1.trans h2.symm
    · exact absurd (k.symm.trans (congrArg _ h1)) (this.1 _ h2)
    · exact absurd (k.trans (congrArg _ h2)) (this.1 _ h1)
    · exact ih h1 h2 this.2

theorem Evo.refl (ρ H nx w) : Evo ρ H nx w ρ H nx w :=
  ⟨rfl, rfl, rfl, fun _ => Nat.le_refl _, Nat.le_refl _, fun _ _ _ => rfl, fun _ h => .inl h, fun _ _ _ h => h, fun _ _ _ h => .inl h, fun e he => .inl ⟨e, he, rfl⟩, Nat.le_refl _⟩

theorem Evo.trans {ρ H nx w ρ1 H1 nx1 w1 ρ2 H2 nx2 w2} (h : Evo ρ H nx w ρ1 H1 nx1 w1) (k : Evo ρ1 H1 nx1 w1 ρ2 H2 nx2 w2) : Evo ρ H nx w ρ2 H2 nx2 w2 where
  os := k.os.trans h.os
  tape := k.tape.trans h.tape
  output := k.output.trans h.output
  drawn d := Nat.le_trans (h.drawn d) (k.drawn d)
  size := Nat.le_trans h.size k.size
  keep b hb hn := by
    rw [k.keep b (Nat.lt_of_lt_of_le hb h.size) (fun ho => (h.own b ho).elim hn (fun hs => by omega)), h.keep b hb hn]
  own b hb := (k.own b hb).elim (h.own b) (fun hs => .inr (Nat.le_trans h.size hs))
  name l u L x := k.name l u L (h.name l u L x)
  newn l u L x := by
    rcases k.newn l u L x with x | ⟨e, he, rfl⟩ | x
    · exact h.newn l u L x
    · rcases h.ids e he with ⟨e0, h0, h1⟩ | h1
      · exact .inr (.inl ⟨e0, h0, h1⟩)
      · exact .inr (.inr h1)
    · exact .inr (.inr (Nat.le_trans h.nx x))
  ids e he := by
    rcases k.ids e he with ⟨e0, h0, h1⟩ | h1
    · rcases h.ids e0 h0 with ⟨e1, h2, h3⟩ | h3
      · exact .inl ⟨e1, h2, h3.trans h1⟩
      · exact .inr (h1 ▸ h3)
    · exact .inr (Nat.le_trans h.nx h1)
  nx := Nat.le_trans h.nx k.nx

theorem Evo.lasts {F ρ H nx w ρ' H' nx' w'} (h : Evo ρ H nx w ρ' H' nx' w') : Lasts (ctx F ρ H w) (ctx F ρ' H' w') where
  cell b o v hc ho := by
    simp only [ctx] at hc ho ⊢
    have hlt : b < w.heap.size := World.block_lt_of_cell? w ⟨b, o, none⟩ hc
    refine ⟨?_, ?_⟩
    · rw [← hc]; exact World.cell?_of_block (w := w) (h.keep b hlt fun k => ho (.inr k))
    · rintro (k | k)
      · exact ho (.inl k)
      · rcases h.own b k with k | k
        · exact ho (.inr k)
        · omega
  name := h.name

theorem OCells.imp {c c' : Ctx} {b : Nat} (hc : ∀ o v, c.w.cell? ⟨b, o, none⟩ = some v → c'.w.cell? ⟨b, o, none⟩ = some v) (hr : Lasts c c') :
    ∀ (xs : List V) (o : Nat), OCells c xs b o → OCells c' xs b o
  | [], _, _ => trivial
  | x :: xs, o, h => by
    obtain ⟨⟨v, h1, h2, h3⟩, h4⟩ := h
    exact ⟨⟨v, hc _ _ h1, h2, R.lasts hr _ _ h3⟩, OCells.imp hc hr xs (o + 1) h4⟩

theorem OEls.imp {c c' : Ctx} {b sz : Nat} (hc : ∀ o v, c.w.cell? ⟨b, o, none⟩ = some v → c'.w.cell? ⟨b, o, none⟩ = some v) (hr : Lasts c c') :
    ∀ (els : List (List V)) (o : Nat), OEls c sz els b o → OEls c' sz els b o
  | [], _, _ => trivial
  | x :: xs, o, h => ⟨h.1, OCells.imp hc hr x o h.2.1, OEls.imp hc hr xs (o + sz) h.2.2⟩

theorem Ents.lasts {c c' : Ctx} (hr : Lasts c c') : ∀ (es : List (V × V)) (ms : List MapEntry), Ents c es ms → Ents c' es ms
  | [], _, h => h
  | (k, x) :: es, ms, h => by
    obtain ⟨m, ms', e, h1, h2, h3⟩ := h
    exact ⟨m, ms', e, R.lasts hr _ _ h1, R.lasts hr _ _ h2, Ents.lasts hr es ms' h3⟩

/-- A block that is as it was holds what it held. -/
theorem BlkRel.lasts {c c' : Ctx} {L : Loc} {blk : Blk} (hb : 0 < L.cap → c'.w.heap[L.blk]? = c.w.heap[L.blk]?) (hr : Lasts c c') (h : BlkRel c L blk) : BlkRel c' L blk := by
  cases blk with
  | row e els =>
    obtain ⟨h1, h0, h2, h3, h4, h5, h6⟩ := h
    refine ⟨h1, h0, h2, h3, h4, fun hp => ?_, ?_⟩
    · obtain ⟨cells, hc, hs⟩ := h5 hp
      exact ⟨cells, (hb hp).trans hc, hs⟩
    · rcases Nat.eq_zero_or_pos L.cap with h0 | hp
      · have : els = [] := List.length_eq_zero_iff.1 (by omega)
        subst this; trivial
      · exact OEls.imp (fun o v hv => by rw [← hv]; exact World.cell?_of_block (w := c.w) (hb hp)) hr els L.base h6
  | map es =>
    obtain ⟨h1, ents, clock, h2, h3, h4⟩ := h
    exact ⟨h1, ents, clock, (hb (by omega)).trans h2, Ents.lasts hr es _ h3, h4⟩

theorem owns_append {ρ H1 H2 b} : owns ρ (H1 ++ H2) b ↔ owns ρ H1 b ∨ owns ρ H2 b := by
  constructor
  · rintro ⟨e, he, L, h⟩
    rcases List.mem_append.1 he with he | he
    · exact .inl ⟨e, he, L, h⟩
    · exact .inr ⟨e, he, L, h⟩
  · rintro (⟨e, he, L, h⟩ | ⟨e, he, L, h⟩)
    · exact ⟨e, List.mem_append.2 (.inl he), L, h⟩
    · exact ⟨e, List.mem_append.2 (.inr he), L, h⟩

theorem owns_perm {ρ H H' b} (hp : H.Perm H') : owns ρ H b ↔ owns ρ H' b :=
  ⟨fun ⟨e, he, L, h⟩ => ⟨e, hp.mem_iff.1 he, L, h⟩, fun ⟨e, he, L, h⟩ => ⟨e, hp.mem_iff.2 he, L, h⟩⟩

theorem ctx_perm {F ρ H H' w} (hp : H.Perm H') : ctx F ρ H w = ctx F ρ H' w := by
  unfold ctx
  congr 1
  funext b
  rw [owns_perm hp]

theorem St.perm {F ρ H H' nx w} (h : St F ρ H nx w) (hp : H.Perm H') : St F ρ H' nx w where
  rel e he := by rw [← ctx_perm hp]; exact h.rel e (hp.mem_iff.2 he)
  ids := ((hp.map _).nodup_iff).1 h.ids
  apart e he e' he' := h.apart e (hp.mem_iff.2 he) e' (hp.mem_iff.2 he')
  fresh := h.fresh
  vers e he := h.vers e (hp.mem_iff.2 he)
  fr := h.fr

theorem Evo.perm {ρ H H2 nx w ρ' H' H2' nx' w'} (h : Evo ρ H nx w ρ' H' nx' w') (hp : H.Perm H2) (hp' : H'.Perm H2') : Evo ρ H2 nx w ρ' H2' nx' w' where
  os := h.os
  tape := h.tape
  output := h.output
  drawn := h.drawn
  size := h.size
  keep b hb hn := h.keep b hb fun k => hn ((owns_perm hp).1 k)
  own b hb := (h.own b ((owns_perm hp').2 hb)).imp (owns_perm hp).1 id
  name := h.name
  newn l u L x := (h.newn l u L x).imp id (.imp (fun ⟨e, he, k⟩ => ⟨e, hp.mem_iff.1 he, k⟩) id)
  ids e he := (h.ids e (hp'.mem_iff.2 he)).imp (fun ⟨e, he, k⟩ => ⟨e, hp.mem_iff.1 he, k⟩) id
  nx := h.nx

/-- What a callee is handed: its own part; the rest is a frame. -/
theorem St.part {F ρ H1 H2 nx w} (h : St F ρ (H1 ++ H2) nx w) : St (fun b => F b ∨ owns ρ H2 b) ρ H1 nx w where
  rel e he := by
    obtain ⟨L, hL, hF, hB⟩ := h.rel e (List.mem_append.2 (.inl he))
    refine ⟨L, hL, fun hp => ⟨?_, (hF hp).2⟩, ?_⟩
    · rintro (k | ⟨e', he', L', hL', hp', hb⟩)
      · exact (hF hp).1 k
      · refine h.apart e (List.mem_append.2 (.inl he)) e' (List.mem_append.2 (.inr he')) ?_ L L' hL hL' hp hp' hb.symm
        have := h.ids
        simp only [List.map_append, List.nodup_append] at this
        exact this.2.2 _ (List.mem_map.2 ⟨e, he, rfl⟩) _ (List.mem_map.2 ⟨e', he', rfl⟩)
    · have : ctx F ρ (H1 ++ H2) w = ctx (fun b => F b ∨ owns ρ H2 b) ρ H1 w := by
        unfold ctx
        congr 1
        funext b
        rw [owns_append]
        apply propext
        constructor
        · rintro (x | x | x) <;> simp [x]
        · rintro ((x | x) | x) <;> simp [x]
      rw [← this]; exact hB
  ids := by have := h.ids; simp only [List.map_append, List.nodup_append] at this; exact this.1
  apart e he e' he' := h.apart e (List.mem_append.2 (.inl he)) e' (List.mem_append.2 (.inl he'))
  fresh := h.fresh
  vers e he := h.vers e (List.mem_append.2 (.inl he))
  fr b hb := by
    rcases hb with hb | ⟨e, he, L, hL, hp, rfl⟩
    · exact h.fr b hb
    · obtain ⟨L', hL', hF, _⟩ := h.rel e (List.mem_append.2 (.inr he))
      obtain rfl := Option.some.inj (hL.symm.trans hL')
      exact (hF hp).2

theorem ctx_part {F ρ H1 H2 w} : ctx (fun b => F b ∨ owns ρ H2 b) ρ H1 w = ctx F ρ (H1 ++ H2) w := by
  unfold ctx
  congr 1
  funext b
  rw [owns_append]
  apply propext
  constructor
  · rintro ((x | x) | x) <;> simp [x]
  · rintro (x | x | x) <;> simp [x]

theorem Evo.whole {ρ H1 H2 nx w ρ' H1' nx' w'} (h : Evo ρ H1 nx w ρ' H1' nx' w') (h2 : ∀ e ∈ H2, ∃ L, ρ e.1 e.2.1 = some L) : Evo ρ (H1 ++ H2) nx w ρ' (H1' ++ H2) nx' w' where
  os := h.os
  tape := h.tape
  output := h.output
  drawn := h.drawn
  size := h.size
  keep b hb hn := h.keep b hb fun k => hn (owns_append.2 (.inl k))
  own b hb := by
    rcases owns_append.1 hb with k | ⟨e, he, L, hL, hp, hb⟩
    · exact (h.own b k).imp (fun k => owns_append.2 (.inl k)) id
    · obtain ⟨L', hL'⟩ := h2 e he
      obtain rfl := Option.some.inj (hL.symm.trans (h.name _ _ _ hL'))
      exact .inl (owns_append.2 (.inr ⟨e, he, L, hL', hp, hb⟩))
  name := h.name
  newn l u L x := (h.newn l u L x).imp id (.imp (fun ⟨e, he, k⟩ => ⟨e, List.mem_append.2 (.inl he), k⟩) id)
  ids e he := by
    rcases List.mem_append.1 he with he | he
    · exact (h.ids e he).imp (fun ⟨e, he, k⟩ => ⟨e, List.mem_append.2 (.inl he), k⟩) id
    · exact .inl ⟨e, List.mem_append.2 (.inr he), rfl⟩
  nx := h.nx

/-- What comes back, put together with the frame. -/
theorem St.whole {F ρ H1 H2 nx w ρ' H1' nx' w'} (h0 : St F ρ (H1 ++ H2) nx w) (h : St (fun b => F b ∨ owns ρ H2 b) ρ' H1' nx' w')
    (hv : Evo ρ H1 nx w ρ' H1' nx' w') : St F ρ' (H1' ++ H2) nx' w' := by
  have h2 : ∀ e ∈ H2, ∃ L, ρ e.1 e.2.1 = some L := fun e he => let ⟨L, hL, _⟩ := h0.rel e (List.mem_append.2 (.inr he)); ⟨L, hL⟩
  have hw := hv.whole h2
  have ho2 : ∀ b, owns ρ' H2 b ↔ owns ρ H2 b := fun b => by
    constructor
    · rintro ⟨e, he, L, hL, hp, hb⟩
      obtain ⟨L', hL'⟩ := h2 e he
      obtain rfl := Option.some.inj (hL.symm.trans (hv.name _ _ _ hL'))
      exact ⟨e, he, L, hL', hp, hb⟩
    · rintro ⟨e, he, L, hL, hp, hb⟩
      exact ⟨e, he, L, hv.name _ _ _ hL, hp, hb⟩
  have hsep : ∀ e ∈ H2, ∀ L, ρ e.1 e.2.1 = some L → 0 < L.cap → ¬ owns ρ H1 L.blk := by
    rintro e he L hL hp ⟨e', he', L', hL', hp', hb⟩
    refine h0.apart e (List.mem_append.2 (.inr he)) e' (List.mem_append.2 (.inl he')) ?_ L L' hL hL' hp hp' hb.symm
    have := h0.ids
    simp only [List.map_append, List.nodup_append] at this
    exact fun k => this.2.2 _ (List.mem_map.2 ⟨e', he', rfl⟩) _ (List.mem_map.2 ⟨e, he, rfl⟩) k.symm
  refine ⟨fun e he => ?_, ?_, ?_, h.fresh, fun e he u hu => ?_, fun b hb => Nat.lt_of_lt_of_le (h0.fr b hb) hv.size⟩
  · rcases List.mem_append.1 he with he | he
    · obtain ⟨L, hL, hF, hB⟩ := h.rel e he
      refine ⟨L, hL, fun hp => ⟨fun k => (hF hp).1 (.inl k), (hF hp).2⟩, ?_⟩
      have : ctx (fun b => F b ∨ owns ρ H2 b) ρ' H1' w' = ctx F ρ' (H1' ++ H2) w' := by
        unfold ctx
        congr 1
        funext b
        rw [owns_append, ho2]
        apply propext
        constructor
        · rintro ((x | x) | x) <;> simp [x]
        · rintro (x | x | x) <;> simp [x]
      rw [← this]; exact hB
    · obtain ⟨L, hL, hF, hB⟩ := h0.rel e (List.mem_append.2 (.inr he))
      refine ⟨L, hv.name _ _ _ hL, fun hp => ⟨(hF hp).1, Nat.lt_of_lt_of_le (hF hp).2 hv.size⟩, ?_⟩
      exact BlkRel.lasts (c := ctx F ρ (H1 ++ H2) w) (fun hp => hv.keep L.blk (hF hp).2 (hsep e he L hL hp)) hw.lasts hB
  · have i0 := h0.ids
    simp only [List.map_append, List.nodup_append] at i0 ⊢
    refine ⟨h.ids, i0.2.1, fun a ha b hb hab => ?_⟩
    obtain ⟨e, he, rfl⟩ := List.mem_map.1 ha
    obtain ⟨e', he', rfl⟩ := List.mem_map.1 hb
    rcases hv.ids e he with ⟨e0, h1, h3⟩ | h1
    · exact i0.2.2 _ (List.mem_map.2 ⟨e0, h1, rfl⟩) _ (List.mem_map.2 ⟨e', he', rfl⟩) (h3.trans hab)
    · have := h0.lt (List.mem_append.2 (.inr he'))
      omega
  · intro e he e' he' hne L L' hL hL' hp hp' hb
    rcases List.mem_append.1 he with he | he <;> rcases List.mem_append.1 he' with he' | he'
    · exact h.apart e he e' he' hne L L' hL hL' hp hp' hb
    · obtain ⟨L2, hL2, hF, _⟩ := h.rel e he
      obtain rfl := Option.some.inj (hL.symm.trans hL2)
      refine (hF hp).1 (.inr ?_)
      exact (ho2 _).1 ⟨e', he', L', hL', hp', hb.symm⟩
    · obtain ⟨L2, hL2, hF, _⟩ := h.rel e' he'
      obtain rfl := Option.some.inj (hL'.symm.trans hL2)
      refine (hF hp').1 (.inr ?_)
      exact (ho2 _).1 ⟨e, he, L, hL, hp, hb⟩
    · obtain ⟨L1, hL1⟩ := h2 e he
      obtain ⟨L2, hL2⟩ := h2 e' he'
      obtain rfl := Option.some.inj (hL.symm.trans (hv.name _ _ _ hL1))
      obtain rfl := Option.some.inj (hL'.symm.trans (hv.name _ _ _ hL2))
      exact h0.apart e (List.mem_append.2 (.inr he)) e' (List.mem_append.2 (.inr he')) hne L L' hL1 hL2 hp hp' hb
  · rcases List.mem_append.1 he with he | he
    · exact h.vers e he u hu
    · cases hr : ρ' e.1 u with
      | none => rfl
      | some L =>
        rcases hv.newn _ _ _ hr with k | ⟨e0, h1, h3⟩ | k
        · rw [h0.vers e (List.mem_append.2 (.inr he)) u hu] at k; cases k
        · have i0 := h0.ids
          simp only [List.map_append, List.nodup_append] at i0
          exact absurd h3 (i0.2.2 _ (List.mem_map.2 ⟨e0, h1, rfl⟩) _ (List.mem_map.2 ⟨e, he, rfl⟩))
        · have := h0.lt (List.mem_append.2 (.inr he))
          omega

end Go.L1
