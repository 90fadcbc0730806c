import Derived.Test.YtppolfmipkjdhaaLg
/-! L1, part h: owned memory: found, written, made. -/
set_option linter.all false
namespace Go.L1
open Go.RowKit
variable [Zero Prop]

/-- What is owned under a name. -/
def hget : Heap → Nat → Nat → Option Blk
  | [], _, _ => none
  | (l', u', b) :: r, l, u => if l' = l then (if u' = u then some b else none) else hget r l u

/-- Another block (and version) in a name's place. -/
def hput : Heap → Nat → Nat → Blk → Heap
  | [], _, _, _ => []
  | (l', u', b') :: r, l, u, b => if l' = l then (l, u, b) :: r else (l', u', b') :: hput r l u b

theorem hget_mem : ∀ {H : Heap} {l u : Nat} {b : Blk}, hget H l u = some b → (l, u, b) ∈ H
  | [], _, _, _, h => by simp [hget] at h
  | (l', u', b') :: r, l, u, b, h => by
    simp only [hget] at h
    split at h
    · rename_i h1
      split at h
      · rename_i h2
        simp only [Option.some.injEq] at h
        subst h1 h2 h
        exact List.mem_cons_self
      · cases h
    · exact List.mem_cons_of_mem _ (hget_mem h)

theorem hput_ids : ∀ (H : Heap) (l u : Nat) (b : Blk), (hput H l u b).map (·.1) = H.map (·.1)
  | [], _, _, _ => rfl
  | (l', u', b') :: r, l, u, b => by
    simp only [hput]
    split
    · rename_i h; subst h; rfl
    · simp [hput_ids r l u b]

theorem hput_mem : ∀ {H : Heap} {l u : Nat} {b : Blk}, (H.map (·.1)).Nodup → (∃ e ∈ H, e.1 = l) → ∀ e, e ∈ hput H l u b ↔ (e = (l, u, b) ∨ (e ∈ H ∧ e.1 ≠ l))
  | [], _, _, _, _, ⟨e, he, _⟩, _ => by cases he
  | (l', u', b') :: r, l, u, b, hn, hl, e => by
    simp only [List.map_cons, List.nodup_cons, List.mem_map, not_exists, not_and] at hn
    simp only [hput]
    split
    · rename_i h
      subst h
      simp only [List.mem_cons]
      constructor
      · rintro (h | h)
        · exact .inl h
        · exact .inr ⟨.inr h, fun hh => hn.1 e h hh⟩
      · rintro (h | ⟨h | h, h2⟩)
        · exact .inl h
        · subst h; exact absurd rfl h2
        · exact .inr h
    · rename_i h
      have hl2 : ∃ e ∈ r, e.1 = l := by
        obtain ⟨e0, h0, h1⟩ := hl
        rcases List.mem_cons.1 h0 with rfl | h0
        · exact absurd h1 h
        · exact ⟨e0, h0, h1⟩
      have ih := hput_mem hn.2 hl2 (u := u) (b := b) e
      simp only [List.mem_cons, ih]
      constructor
      · rintro (h1 | h1 | ⟨h1, h2⟩)
        · subst h1; exact .inr ⟨.inl rfl, h⟩
        · exact .inl h1
        · exact .inr ⟨.inr h1, h2⟩
      · rintro (h1 | ⟨h1 | h1, h2⟩)
        · exact .inr (.inl h1)
        · exact .inl h1
        · exact .inr (.inr ⟨h1, h2⟩)

def nset (ρ : Names) (l u : Nat) (L : Loc) : Names := fun a b => if a = l ∧ b = u then some L else ρ a b

theorem St.upd {F ρ H nx w} (hs : St F ρ H nx w) {l u' : Nat} {blk' : Blk} {L' : Loc} {nx' : Nat} {H' : Heap} {w' : World}
    (hH : ∀ e, e ∈ H' ↔ (e = (l, u', blk') ∨ (e ∈ H ∧ e.1 ≠ l))) (hids : (H'.map (·.1)).Nodup)
    (hname : ρ l u' = some L' ∨ ρ l u' = none) (hver : ∀ u, u' < u → ρ l u = none) (hnx : nx ≤ nx') (hl : l < nx') (hold : l < nx → ∃ e ∈ H, e.1 = l)
    (os : w'.os = w.os) (tape : w'.tape = w.tape) (output : w'.output = w.output) (drawn : w.drawn ≤ w'.drawn) (size : w.heap.size ≤ w'.heap.size)
    (keep : ∀ b, b < w.heap.size → (∀ e ∈ H, e.1 = l → ∀ L, ρ e.1 e.2.1 = some L → 0 < L.cap → L.blk ≠ b) → w'.heap[b]? = w.heap[b]?)
    (hblk : 0 < L'.cap → (w.heap.size ≤ L'.blk ∧ L'.blk < w'.heap.size) ∨ (∃ e ∈ H, e.1 = l ∧ ∃ L, ρ e.1 e.2.1 = some L ∧ 0 < L.cap ∧ L.blk = L'.blk))
    (hB : Lasts (ctx F ρ H w) (ctx F (nset ρ l u' L') H' w') → BlkRel (ctx F (nset ρ l u' L') H' w') L' blk') :
    St F (nset ρ l u' L') H' nx' w' ∧ Evo ρ H nx w (nset ρ l u' L') H' nx' w' := by
  have hn1 : nset ρ l u' L' l u' = some L' := by simp [nset]
  have hn2 : ∀ a b, a ≠ l → nset ρ l u' L' a b = ρ a b := fun a b h => by simp [nset, h]
  have hmono : ∀ a b L, ρ a b = some L → nset ρ l u' L' a b = some L := fun a b L h => by
    by_cases hab : a = l ∧ b = u'
    · obtain ⟨rfl, rfl⟩ := hab
      rcases hname with hname | hname
      · rw [hn1]; exact hname.symm.trans h
      · rw [hname] at h; cases h
    · simp only [nset, if_neg hab]; exact h
  have hown : ∀ b, owns (nset ρ l u' L') H' b → owns ρ H b ∨ w.heap.size ≤ b := by
    rintro b ⟨e, he, L, hL, hp, rfl⟩
    rcases (hH e).1 he with rfl | ⟨he, hne⟩
    · obtain rfl := Option.some.inj (hn1.symm.trans hL)
      rcases hblk hp with h | ⟨e0, h0, _, L0, h1, h2, h3⟩
      · exact .inr h.1
      · exact .inl ⟨e0, h0, L0, h1, h2, h3⟩
    · rw [hn2 _ _ hne] at hL
      exact .inl ⟨e, he, L, hL, hp, rfl⟩
  have hev : Evo ρ H nx w (nset ρ l u' L') H' nx' w' := by
    refine ⟨os, tape, output, fun _ => drawn, size, fun b hb hno => keep b hb fun e he _ L hL hp hbb => hno ⟨e, he, L, hL, hp, hbb⟩, hown, hmono, fun a b L h => ?_, fun e he => ?_, hnx⟩
    · by_cases hab : a = l ∧ b = u'
      · obtain ⟨rfl, rfl⟩ := hab
        rcases Nat.lt_or_ge a nx with k | k
        · exact .inr (.inl (hold k))
        · exact .inr (.inr k)
      · simp only [nset, if_neg hab] at h; exact .inl h
    · rcases (hH e).1 he with rfl | ⟨he, hne⟩
      · rcases Nat.lt_or_ge l nx with k | k
        · obtain ⟨e0, h0, h1⟩ := hold k
          exact .inl ⟨e0, h0, h1⟩
        · exact .inr k
      · exact .inl ⟨e, he, rfl⟩
  refine ⟨⟨fun e he => ?_, hids, ?_, fun a b hab => ?_, fun e he u hu => ?_, fun b hb => Nat.lt_of_lt_of_le (hs.fr b hb) size⟩, hev⟩
  · rcases (hH e).1 he with rfl | ⟨he, hne⟩
    · refine ⟨L', hn1, fun hp => ?_, hB hev.lasts⟩
      rcases hblk hp with h | ⟨e0, h0, _, L0, h1, h2, h3⟩
      · exact ⟨fun hF => by have := hs.fr _ hF; omega, h.2⟩
      · obtain ⟨L1, h4, h5, _⟩ := hs.rel e0 h0
        obtain rfl := Option.some.inj (h1.symm.trans h4)
        rw [← h3]
        exact ⟨(h5 h2).1, Nat.lt_of_lt_of_le (h5 h2).2 size⟩
    · obtain ⟨L, hL, hF, hBl⟩ := hs.rel e he
      refine ⟨L, by rw [hn2 _ _ hne]; exact hL, fun hp => ⟨(hF hp).1, Nat.lt_of_lt_of_le (hF hp).2 size⟩, ?_⟩
      refine BlkRel.lasts (c := ctx F ρ H w) (fun hp => keep _ (hF hp).2 fun e0 h0 h1 L0 hL0 hp0 => ?_) hev.lasts hBl
      exact hs.apart e0 h0 e he (fun hh => hne (hh.symm.trans h1)) L0 L hL0 hL hp0 hp
  · have key : ∀ e ∈ H, e.1 ≠ l → ∀ L, ρ e.1 e.2.1 = some L → 0 < L'.cap → 0 < L.cap → L'.blk ≠ L.blk := by
      intro e he hne L hL hp hp2 hb
      obtain ⟨L1, h1, h2, _⟩ := hs.rel e he
      obtain rfl := Option.some.inj (hL.symm.trans h1)
      rcases hblk hp with h | ⟨e0, h0, h01, L0, h3, h4, h5⟩
      · have := (h2 hp2).2; omega
      · exact hs.apart e0 h0 e he (fun hh => hne (hh.symm.trans h01)) L0 L h3 hL h4 hp2 (h5.trans hb)
    intro e he e' he' hne L L2 hL hL2 hp hp2
    rcases (hH e).1 he with rfl | ⟨he, hne1⟩ <;> rcases (hH e').1 he' with rfl | ⟨he', hne2⟩
    · exact absurd rfl hne
    · obtain rfl := Option.some.inj (hn1.symm.trans hL)
      rw [hn2 _ _ hne2] at hL2
      exact key e' he' hne2 L2 hL2 hp hp2
    · obtain rfl := Option.some.inj (hn1.symm.trans hL2)
      rw [hn2 _ _ hne1] at hL
      exact fun hh => key e he hne1 L hL hp2 hp hh.symm
    · rw [hn2 _ _ hne1] at hL
      rw [hn2 _ _ hne2] at hL2
      exact hs.apart e he e' he' hne L L2 hL hL2 hp hp2
  · have : a ≠ l := by omega
    rw [hn2 _ _ this]
    exact hs.fresh _ _ (Nat.le_trans hnx hab)
  · rcases (hH e).1 he with rfl | ⟨he, hne⟩
    · have : ¬ (l = l ∧ u = u') := by rintro ⟨_, h⟩; simp only at hu; omega
      show nset ρ l u' L' l u = none
      unfold nset
      rw [if_neg this]
      exact hver u hu
    · rw [hn2 _ _ hne]
      exact hs.vers e he u hu

/-- A new block. -/
theorem St.new {F ρ H nx w} (hs : St F ρ H nx w) {blk : Blk} {obj : Obj} {L : Loc} (hb : L.blk = w.heap.size)
    (hB : Lasts (ctx F ρ H w) (ctx F (nset ρ nx 0 L) ((nx, 0, blk) :: H) (w.alloc obj)) → BlkRel (ctx F (nset ρ nx 0 L) ((nx, 0, blk) :: H) (w.alloc obj)) L blk) :
    St F (nset ρ nx 0 L) ((nx, 0, blk) :: H) (nx + 1) (w.alloc obj) ∧ Evo ρ H nx w (nset ρ nx 0 L) ((nx, 0, blk) :: H) (nx + 1) (w.alloc obj) := by
  refine hs.upd (fun e => ?_) ?_ (.inr (hs.fresh _ _ (Nat.le_refl _))) (fun u _ => hs.fresh _ _ (Nat.le_refl _)) (Nat.le_succ _) (Nat.lt_succ_self _) (fun h => absurd h (Nat.lt_irrefl _)) rfl rfl rfl (Nat.le_refl _)
    (by show w.heap.size ≤ (w.heap.push obj).size; simp) (fun b hb _ => Below.heap_alloc w obj b hb) (fun _ => .inl ⟨by omega, by rw [hb]; show w.heap.size < (w.heap.push obj).size; simp⟩) hB
  · simp only [List.mem_cons]
    constructor
    · rintro (h | h)
      · exact .inl h
      · exact .inr ⟨h, fun hh => by have := hs.lt h; omega⟩
    · rintro (h | h)
      · exact .inl h
      · exact .inr h.1
  · simp only [List.map_cons, List.nodup_cons, List.mem_map, not_exists, not_and]
    exact ⟨fun e he hh => by have := hs.lt he; omega, hs.ids⟩

/-- Another content of a block that is owned. -/
theorem St.set {F ρ H nx w} (hs : St F ρ H nx w) {l u : Nat} {blk blk' : Blk} {L : Loc} {w' : World} (hg : hget H l u = some blk) (hL : ρ l u = some L) (hp : 0 < L.cap)
    (os : w'.os = w.os) (tape : w'.tape = w.tape) (output : w'.output = w.output) (drawn : w.drawn ≤ w'.drawn) (size : w'.heap.size = w.heap.size)
    (keep : ∀ b, b ≠ L.blk → w'.heap[b]? = w.heap[b]?)
    (hB : Lasts (ctx F ρ H w) (ctx F ρ (hput H l u blk') w') → BlkRel (ctx F ρ (hput H l u blk') w') L blk') :
    St F ρ (hput H l u blk') nx w' ∧ Evo ρ H nx w ρ (hput H l u blk') nx w' := by
  have hm := hget_mem hg
  have hρ : nset ρ l u L = ρ := by
    funext a b
    simp only [nset]
    split
    · rename_i h; obtain ⟨rfl, rfl⟩ := h; exact hL.symm
    · rfl
  have := hs.upd (l := l) (u' := u) (blk' := blk') (L' := L) (nx' := nx) (H' := hput H l u blk') (w' := w') (fun e => hput_mem hs.ids ⟨_, hm, rfl⟩ e) (by rw [hput_ids]; exact hs.ids) (.inl hL)
    (fun v hv => hs.vers _ hm v hv) (Nat.le_refl _) (hs.lt hm) (fun _ => ⟨_, hm, rfl⟩) os tape output drawn (by omega)
    (fun b _ hb => keep b fun hh => hb _ hm rfl L hL hp hh.symm) (fun hp => .inr ⟨_, hm, rfl, L, hL, hp, rfl⟩)
  rw [hρ] at this
  exact this hB

/-! ### Rows that are owned, cell by cell -/

theorem OCells.read {c : Ctx} : ∀ {xs : List V} {b f : Nat}, OCells c xs b f → ∃ vs, Rs c xs vs ∧ ∀ j v, vs[j]? = some v → c.w.cell? ⟨b, f + j, none⟩ = some v
  | [], _, _, _ => ⟨[], by simp [Rs], fun j v h => by simp at h⟩
  | x :: xs, b, f, r => by
    obtain ⟨⟨v, h1, h3, h4⟩, rr⟩ := r
    obtain ⟨vs, hr, hc⟩ := OCells.read rr
    refine ⟨v :: vs, by simp only [Rs]; exact ⟨v, vs, rfl, h3, h4, hr⟩, fun j u hj => ?_⟩
    cases j with
    | zero => simp at hj; subst hj; exact h1
    | succ j =>
      have := hc j u (by simpa using hj)
      rwa [show f + 1 + j = f + (j + 1) from by omega] at this

theorem OCells.write {c : Ctx} {b : Nat} : ∀ {xs : List V} {us : List Value} {f : Nat}, Rs c xs us → (∀ j v, us[j]? = some v → c.w.cell? ⟨b, f + j, none⟩ = some v) → OCells c xs b f
  | [], _, _, _, _ => trivial
  | x :: xs, _, f, hr, hc => by
    simp only [Rs] at hr
    obtain ⟨v, us, rfl, h1, hx, hr⟩ := hr
    refine ⟨⟨v, by simpa using hc 0 v rfl, h1, hx⟩, OCells.write hr fun j u hj => ?_⟩
    have := hc (j + 1) u (by simpa using hj)
    rwa [show f + (j + 1) = f + 1 + j from by omega] at this

theorem OEls.read {c : Ctx} {sz : Nat} : ∀ {els : List (List V)} {b f : Nat}, OEls c sz els b f →
    (∀ el ∈ els, el.length = sz) ∧ ∃ vs, Rs c (flat els) vs ∧ ∀ j v, vs[j]? = some v → c.w.cell? ⟨b, f + j, none⟩ = some v
  | [], _, _, _ => ⟨by simp, [], by simp [flat, Rs], fun j v h => by simp at h⟩
  | x :: xs, b, f, r => by
    obtain ⟨h1, h2, h3⟩ := r
    obtain ⟨vs, g1, g2⟩ := h2.read
    obtain ⟨k1, us, k2, k3⟩ := OEls.read h3
    have hl := g1.length
    refine ⟨fun el he => ?_, vs ++ us, g1.append k2, fun j v hj => ?_⟩
    · rcases List.mem_cons.1 he with rfl | he
      · exact h1
      · exact k1 el he
    · rw [List.getElem?_append] at hj
      split at hj
      · exact g2 j v hj
      · have := k3 _ v hj
        rwa [show f + sz + (j - vs.length) = f + j from by omega] at this

theorem OEls.write {c : Ctx} {b sz : Nat} : ∀ {els : List (List V)} {us : List Value} {f : Nat}, (∀ el ∈ els, el.length = sz) → Rs c (flat els) us →
    (∀ j v, us[j]? = some v → c.w.cell? ⟨b, f + j, none⟩ = some v) → OEls c sz els b f
  | [], _, _, _, _, _ => trivial
  | x :: xs, us, f, hl, hr, hc => by
    have hx := hl x List.mem_cons_self
    have h1 := hr.take x.length
    have h2 := hr.drop x.length
    simp only [flat, List.take_left', List.drop_left'] at h1 h2
    refine ⟨hx, OCells.write h1 fun j v hj => hc j v ?_, OEls.write (fun e he => hl e (List.mem_cons_of_mem _ he)) h2 fun j v hj => ?_⟩
    · rw [List.getElem?_take] at hj
      split at hj
      · exact hj
      · cases hj
    · rw [List.getElem?_drop] at hj
      have := hc _ v hj
      rwa [show f + (x.length + j) = f + sz + j from by omega] at this

/-- An owned row, opened: its cells. -/
theorem BlkRel.open_row {c : Ctx} {L : Loc} {e : Nat} {els : List (List V)} (h : BlkRel c L (.row e els)) (hp : 0 < L.cap) :
    ∃ cur, c.w.heap[L.blk]? = some (.cells cur e (0, 0)) ∧ cur.size = L.cap * L.sz ∧ L.base = 0 ∧ 0 < L.sz ∧ els.length ≤ L.cap ∧ L.cap ≤ maxLen ∧ L.e = e ∧ (∀ el ∈ els, el.length = L.sz) ∧
      Rs c (flat els) (cur.toList.take (els.length * L.sz)) := by
  obtain ⟨h1, h0, h2, h3, h4, h5, h6⟩ := h
  obtain ⟨cur, g1, g2⟩ := h5 hp
  obtain ⟨k1, vs, k2, k3⟩ := h6.read
  rw [h1] at g1
  rw [h0, Nat.zero_add] at g2
  refine ⟨cur, g1, g2, h0, h2, h3, h4, h1, k1, ?_⟩
  have hl := k2.length
  rw [flat_length k1] at hl
  have : cur.toList.take (els.length * L.sz) = vs := by
    apply List.ext_getElem?
    intro j
    rw [List.getElem?_take]
    split
    · rename_i hj
      have hv : vs[j]? = some (vs[j]'(by omega)) := List.getElem?_eq_getElem _
      have := k3 j _ hv
      rw [h0, Nat.zero_add] at this
      rw [hv]
      simp only [World.cell?, g1] at this
      simpa using this
    · rw [List.getElem?_eq_none (by omega)]
  rw [this]; exact k2

/-- An owned row, shut again. -/
theorem BlkRel.shut_row {c : Ctx} {L : Loc} {e : Nat} {els : List (List V)} {cur : Array Value} (h1 : c.w.heap[L.blk]? = some (.cells cur e (0, 0))) (h2 : cur.size = L.cap * L.sz) (h3 : L.base = 0) (h4 : 0 < L.sz)
    (h5 : els.length ≤ L.cap) (h6 : L.cap ≤ maxLen) (h7 : L.e = e) (h8 : ∀ el ∈ els, el.length = L.sz) (h9 : Rs c (flat els) (cur.toList.take (els.length * L.sz))) : BlkRel c L (.row e els) := by
  refine ⟨h7, h3, h4, h5, h6, fun _ => ⟨cur, by rw [h7]; exact h1, by rw [h3, Nat.zero_add]; exact h2⟩, OEls.write h8 h9 fun j v hj => ?_⟩
  rw [List.getElem?_take] at hj
  split at hj
  · rw [h3, Nat.zero_add]
    simp only [World.cell?, h1]
    simpa using hj
  · cases hj

end Go.L1
