import Derived.Test.YtppolfmipkjdhaaLx
import Derived.Shelf.SlSortCmp.WholeK
import Derived.Shelf.SlSortCmp.NoneTotal
import Derived.Lib.QuietBelow
/-! L1, part y: slices.SortFunc, by the shelf's contract: a row of nameless elements, sorted. -/
set_option linter.all false
namespace Go.L1
open Go.RowKit Go.Proofs Go.Shelf Go.Sort

/-- The elements sorted: where no two unlike ones are alike in the order, there is one way. -/
def sortL {γ : Type} (cf : γ → γ → Int) (xs : List γ) : List γ := xs.mergeSort fun x y => !ltOf cf y x

theorem perm_sorted_eq {γ : Type} {le : γ → γ → Prop} (anti : ∀ x y, le x y → le y x → x = y) : ∀ {xs ys : List γ}, xs.Perm ys → xs.Pairwise le → ys.Pairwise le → xs = ys
  | [], ys, h, _, _ => by simpa using h.symm
  | x :: xs, [], h, _, _ => by simp at h
  | x :: xs, y :: ys, h, hx, hy => by
    have hxy : x = y := by
      have h1 : x ∈ y :: ys := h.mem_iff.1 List.mem_cons_self
      have h2 : y ∈ x :: xs := h.mem_iff.2 List.mem_cons_self
      rcases List.mem_cons.1 h1 with h1 | h1
      · exact h1
      · rcases List.mem_cons.1 h2 with h2 | h2
        · exact h2.symm
        · exact anti _ _ ((List.pairwise_cons.1 hx).1 y h2) ((List.pairwise_cons.1 hy).1 x h1)
    subst hxy
    rw [perm_sorted_eq anti (List.perm_cons x |>.1 h) (List.pairwise_cons.1 hx).2 (List.pairwise_cons.1 hy).2]

theorem sortL_perm {γ : Type} (cf : γ → γ → Int) (xs : List γ) : (sortL cf xs).Perm xs := List.mergeSort_perm _ _
theorem sortL_sorted {γ : Type} {cf : γ → γ → Int} (hO : SWO (ltOf cf)) (xs : List γ) : (sortL cf xs).Pairwise fun x y => ltOf cf y x = false := by
  have := List.pairwise_mergeSort (le := fun x y => !ltOf cf y x) (fun a b c h1 h2 => by
      simp only [Bool.not_eq_true'] at h1 h2 ⊢
      exact hO.ntrans _ _ _ h2 h1) (fun a b => by
      simp only [Bool.or_eq_true, Bool.not_eq_true']
      cases h : ltOf cf b a with
      | false => exact .inl rfl
      | true =>
        right
        cases h2 : ltOf cf a b with
        | false => rfl
        | true => have := hO.trans _ _ _ h h2; rw [hO.irrefl] at this; cases this) xs
  exact this.imp fun h => by simpa using h
theorem sortL_of {γ : Type} {cf : γ → γ → Int} (hO : SWO (ltOf cf)) (hT : ∀ x y, ltOf cf x y = false → ltOf cf y x = false → x = y) {xs ys : List γ} (hp : ys.Perm xs) (hs : ys.Pairwise fun x y => ltOf cf y x = false) : ys = sortL cf xs :=
  perm_sorted_eq (fun x y h1 h2 => hT _ _ h2 h1) (hp.trans (sortL_perm cf xs).symm) hs (sortL_sorted hO xs)

section
variable [Zero Prop]
variable {P : Program} {γ : Type}

/-- The elements of a row that is owned, with what stands for them. -/
theorem OEls.pick {c c0 : Ctx} {cells : γ → List V} {k : Nat} (hb : c.bare = c0) (hnl : ∀ x, nls (cells x) = true) : ∀ (xs : List γ) (b f : Nat), OEls c k (xs.map cells) b f →
    ∃ ds : List { p : γ × List Value // Rs c0 (cells p.1) p.2 }, ds.map (fun d => d.1.1) = xs ∧ ∀ i d, ds[i]? = some d → ∀ j v, d.1.2[j]? = some v → c.w.cell? ⟨b, f + i * k + j, none⟩ = some v
  | [], _, _, _ => ⟨[], rfl, fun i d h => by simp at h⟩
  | x :: xs, b, f, h => by
    simp only [List.map_cons, OEls] at h
    obtain ⟨hl, hc, hr⟩ := h
    obtain ⟨vs, hv, hcell⟩ := OCells.read hc
    obtain ⟨ds, h1, h2⟩ := OEls.pick hb hnl xs b (f + k) hr
    refine ⟨⟨(x, vs), by rw [← hb]; exact Rs.nameless _ _ (hnl x) hv⟩ :: ds, by simp [h1], fun i d hd j v hj => ?_⟩
    cases i with
    | zero =>
      simp only [List.getElem?_cons_zero, Option.some.injEq] at hd
      subst hd
      simpa using hcell j v hj
    | succ i =>
      have := h2 i d (by simpa using hd) j v hj
      rwa [show f + k + i * k + j = f + (i + 1) * k + j from by rw [Nat.add_mul]; omega] at this

theorem OEls.place {c c0 : Ctx} {cells : γ → List V} {k : Nat} (la : Lasts c0 c) (hlen : ∀ x, (cells x).length = k) : ∀ (ds : List { p : γ × List Value // Rs c0 (cells p.1) p.2 }) (b f : Nat),
    (∀ i d, ds[i]? = some d → ∀ j v, d.1.2[j]? = some v → c.w.cell? ⟨b, f + i * k + j, none⟩ = some v) → OEls c k ((ds.map fun d => d.1.1).map cells) b f
  | [], b, f, _ => trivial
  | d :: ds, b, f, h => by
    simp only [List.map_cons, OEls]
    refine ⟨hlen _, OCells.write (Rs.lasts la _ _ d.2) fun j v hj => ?_, OEls.place la hlen ds b (f + k) fun i d' hi j v hj => ?_⟩
    · have := h 0 d rfl j v hj
      simpa using this
    · have := h (i + 1) d' (by simpa using hi) j v hj
      rwa [show f + (i + 1) * k + j = f + k + i * k + j from by rw [Nat.add_mul]; omega] at this

theorem c_sort {ρn : Ren} (L : SlLaysF0.n6 P ρn) {k : Nat} (hk0 : 0 < k) (aE : ∀ w, (isAgg (ρn.t 24)).run P w = .ok true w) (zE : ∀ w, (Go.sizeOf (ρn.t 24)).run P w = .ok k w) {g : Nat} {cells : γ → List V} (hlen : ∀ x, (cells x).length = k) (hnl : ∀ x, nls (cells x) = true)
    {cf : γ → γ → Int} (hO : SWO (ltOf cf)) (hT : ∀ x y, ltOf cf x y = false → ltOf cf y x = false → x = y) (hcmp : ∀ x y, @CV ⟨True⟩ P g [.agg (cells x), .agg (cells y)] (.i .i64 (cf x y)))
    (eg : ∀ args w, (callFunc g args).run P w = .ok (.enter g args) w) (ent : Ent P (ρn.f 6)) (xs : List γ) (hsz : xs.length < 4611686018427387904) (l u e nx : Nat) :
    C P (ρn.f 6) nx [.sl l u 0 xs.length k, .fn g []] [(l, u, .row e (xs.map cells))] (.tup []) [(l, u, .row e ((sortL cf xs).map cells))] nx := by
  refine ⟨ent, fun F ρ w vs hs hr => ?_⟩
  simp only [Rt, R, Rs] at hr
  obtain ⟨v, vs', rfl, ⟨Lc, a, cap, hL, hLz, rfl, hnc, hcm, hcap⟩, v2, vs2, rfl, ⟨us, rfl, hus⟩, rfl⟩ := hr
  have hus2 : us = #[] := by simpa using hus
  subst hus2
  obtain ⟨Lc', hL', hF, hB⟩ := hs.rel (l, u, .row e (xs.map cells)) (by simp)
  obtain rfl := Option.some.inj (hL.symm.trans hL')
  by_cases hx0 : xs = []
  · subst hx0
    have e0 : sortL cf [] = [] := by simp [sortL]
    rw [e0]
    refine (AnyF.slices_SortFunc_none L a cap _ w).mono ?_
    rintro e w' ⟨rfl, rfl⟩
    exact ⟨_, ρ, rfl, hs, Evo.refl _ _ _ _, by simp only [R, Rt]; exact ⟨_, rfl, rfl⟩⟩
  have hn0 : 0 < xs.length := List.length_pos_iff.2 hx0
  rcases hcap with hcap | ⟨rfl, hcl⟩
  · omega
  have hLp : 0 < Lc.cap := by omega
  obtain ⟨hFb, hblk⟩ := hF hLp
  have hB0 := hB
  simp only [BlkRel] at hB
  obtain ⟨hLe, hbase, _, hlc, hcm2, hsh, hO0⟩ := hB
  obtain ⟨cur, hcur, hcsz⟩ := hsh hLp
  subst hLz
  -- the elements
  generalize hc0 : (ctx F ρ [(l, u, .row e (xs.map cells))] w).bare = c0
  obtain ⟨ds, hds, hdc⟩ := OEls.pick hc0 hnl xs _ _ hO0
  have hdl : ds.length = xs.length := by rw [← hds, List.length_map]
  have hd0 : 0 < ds.length := by omega
  letI : Inhabited { p : γ × List Value // Rs c0 (cells p.1) p.2 } := ⟨ds[0]⟩
  have hk : ∀ x : { p : γ × List Value // Rs c0 (cells p.1) p.2 }, x.1.2.length = Lc.sz := fun x => by rw [← x.2.length, hlen]
  have h1 : ∀ x : { p : γ × List Value // Rs c0 (cells p.1) p.2 }, ∀ v ∈ x.1.2, v.oneCell' = true := fun x => Rs.ones x.2
  have hH : HoldsK (fun x : { p : γ × List Value // Rs c0 (cells p.1) p.2 } => x.1.2) Lc.sz w Lc.blk 0 ds.toArray := by
    intro t ht
    rw [size_flatK, List.size_toArray] at ht
    rw [get_flatK _ _ _ _ (by simpa using ht)]
    have hi : t / Lc.sz < ds.length := Nat.div_lt_of_lt_mul (by rw [Nat.mul_comm]; exact ht)
    have hj : t % Lc.sz < Lc.sz := Nat.mod_lt _ hk0
    have hdi : ds[t / Lc.sz]? = some ds[t / Lc.sz] := List.getElem?_eq_getElem hi
    have e1 : ds.toArray[t / Lc.sz]! = ds[t / Lc.sz] := by rw [getElem!_pos ds.toArray (t / Lc.sz) (by simpa using hi)]; simp
    have hl : t % Lc.sz < ds[t / Lc.sz].1.2.length := by rw [hk]; exact hj
    have := hdc _ _ hdi (t % Lc.sz) _ (List.getElem?_eq_getElem hl)
    rw [e1, getElem!_pos ds[t / Lc.sz].1.2 (t % Lc.sz) hl]
    have e2 : Lc.base + t / Lc.sz * Lc.sz + t % Lc.sz = 0 + t := by rw [hbase, Nat.zero_add, Nat.zero_add, Nat.mul_comm]; exact Nat.div_add_mod _ _
    rw [e2] at this
    refine ⟨this, ?_⟩
    have hcur' : w.heap[Lc.blk]? = some (.cells cur Lc.e (0, 0)) := hcur
    simp [World.frozen?, hcur']
  -- the call-back
  have hown : ∀ b, owns ρ [(l, u, .row e (xs.map cells))] b → b = Lc.blk := by
    rintro b ⟨e', he', L', hL', _, rfl⟩
    simp only [List.mem_singleton] at he'
    subst he'
    obtain rfl := Option.some.inj (hL.symm.trans hL')
    rfl
  have hLo : owns ρ [(l, u, .row e (xs.map cells))] Lc.blk := ⟨_, List.mem_singleton.2 rfl, Lc, hL, hLp, rfl⟩
  have lasts : ∀ (w1 : World) (G : Nat → Prop), (∀ b, G b → F b ∨ b = Lc.blk) → (∀ b o v, b ≠ Lc.blk → b < w.heap.size → w.cell? ⟨b, o, none⟩ = some v → w1.cell? ⟨b, o, none⟩ = some v) → Lasts c0 (ctx G (fun _ _ => none) [] w1) := by
    intro w1 G hG hw
    subst hc0
    refine ⟨fun b o v hc ho => ?_, fun _ _ _ h => by cases h⟩
    simp only [Ctx.bare, ctx] at hc ho ⊢
    have hbl : b ≠ Lc.blk := fun h => ho (.inr (h ▸ hLo))
    refine ⟨hw b o v hbl (World.block_lt_of_cell? w ⟨b, o, none⟩ hc) hc, ?_⟩
    rintro (k | ⟨e', he', _⟩)
    · rcases hG b k with k | k
      · exact ho (.inl k)
      · exact hbl k
    · cases he'
  have hcl : CmpLays P g #[] (fun x : { p : γ × List Value // Rs c0 (cells p.1) p.2 } => x.1.2) Lc.sz (fun x y => cf x.1.1 y.1.1) Lc.blk 0 ds.toArray.size w := by
    intro m os dk hdk x y
    generalize hw1 : sortWorldK (fun x : { p : γ × List Value // Rs c0 (cells p.1) p.2 } => x.1.2) Lc.sz w Lc.blk 0 m dk os = w1
    have hsz1 : w.heap.size ≤ w1.heap.size := by rw [← hw1]; simp [sortWorldK, putRowK]
    have hcell : ∀ b o v, b ≠ Lc.blk → b < w.heap.size → w.cell? ⟨b, o, none⟩ = some v → w1.cell? ⟨b, o, none⟩ = some v := by
      intro b o v hb hlt hc
      rw [← hw1]
      unfold sortWorldK
      rw [cell?_grow _ _ _ (by simpa [putRowK] using hlt), cell?_putRowK_other _ _ _ _ _ _ _ hb, cell?_ahead]
      exact hc
    have la := lasts w1 (fun b => F b ∨ b = Lc.blk) (fun b h => h) hcell
    have hst : St (fun b => F b ∨ b = Lc.blk) (fun _ _ => none) [] 0 w1 :=
      ⟨by simp, by simp, by simp, fun _ _ _ => rfl, by simp, fun b hb => by
        rcases hb with hb | rfl
        · exact Nat.lt_of_lt_of_le (hs.fr b hb) hsz1
        · exact Nat.lt_of_lt_of_le hblk hsz1⟩
    have hcall := (@hcmp x.1.1 y.1.1 0).2 _ _ w1 [.agg x.1.2.toArray, .agg y.1.2.toArray] hst (by
      simp only [Rt, R]
      exact ⟨_, _, rfl, ⟨_, rfl, Rs.lasts la _ _ x.2⟩, _, _, rfl, ⟨_, rfl, Rs.lasts la _ _ y.2⟩, rfl⟩)
    refine hcall.mono ?_
    rintro e2 w2 ⟨v', ρ', rfl, _, hev, hR⟩
    simp only [R] at hR
    obtain ⟨rfl, _⟩ := hR
    refine ⟨rfl, ?_⟩
    obtain ⟨g1, g2, g3, g4, g5, g6, _⟩ := hev
    obtain ⟨p, hp⟩ := regrown_of_below (w := w1) (w' := w2) ⟨g1, g2, g3, g5, fun b hb => g6 b hb (by rintro ⟨e', he', _⟩; cases he')⟩
    have hdr : w1.drawn ≤ w2.drawn := g4 trivial
    rw [hp] at hdr
    refine ⟨p.d - w1.drawn, p.os, ?_⟩
    rw [hp]
    have : w1.drawn + (p.d - w1.drawn) = p.d := by
      have : w1.drawn ≤ p.d := hdr
      omega
    unfold World.drewN redrawn
    rw [this]
  have hO2 : SWO (ltOf fun x y : { p : γ × List Value // Rs c0 (cells p.1) p.2 } => cf x.1.1 y.1.1) := ⟨fun x => hO.irrefl x.1.1, fun x y z => hO.trans x.1.1 y.1.1 z.1.1, fun x y z => hO.ntrans x.1.1 y.1.1 z.1.1⟩
  have hsort := AnyQ.slices_SortFunc L Lc.sz aE zE (fun x : { p : γ × List Value // Rs c0 (cells p.1) p.2 } => x.1.2) hk h1 (fun x y => cf x.1.1 y.1.1) hO2 g #[] Lc.blk 0 cap ds.toArray w eg hcl hH hblk (by simpa [hdl] using hsz)
  have hadr : (⟨Lc.blk, Lc.base + 0 * Lc.sz, none⟩ : Addr) = ⟨Lc.blk, 0, none⟩ := by rw [hbase, Nat.zero_mul]
  rw [hadr]
  have hszd : ds.toArray.size = xs.length := by simp [hdl]
  rw [hszd] at hsort
  refine hsort.mono ?_
  rintro e2 w2 ⟨rfl, d', n, os, hp, hsrt, rfl⟩
  -- what is held now
  have hd's : d'.size = xs.length := by rw [hp.1, hszd]
  have hperm : d'.toList.Perm ds := by
    have := hp.2.2
    rw [← hd's] at this
    rw [Array.extract_size] at this
    rw [hd's, ← hszd, Array.extract_size] at this
    simpa using this
  have hys : d'.toList.map (fun d => d.1.1) = sortL cf xs := by
    refine sortL_of hO hT (by rw [← hds]; exact hperm.map _) ?_
    rw [List.pairwise_map, List.pairwise_iff_getElem]
    intro i j hi hj hij
    have hi2 : i < d'.size := by simpa using hi
    have hj2 : j < d'.size := by simpa using hj
    have := hsrt i j (Nat.zero_le _) hij (by rw [← hd's]; exact hj2)
    rw [getElem!_pos d' i hi2, getElem!_pos d' j hj2] at this
    simpa [ltOf] using this
  have hszp : (putRowK (fun x : { p : γ × List Value // Rs c0 (cells p.1) p.2 } => x.1.2) Lc.sz (Sort.ahead w n) Lc.blk 0 d').heap.size = w.heap.size := by simp [putRowK]
  have hHd : HoldsK (fun x : { p : γ × List Value // Rs c0 (cells p.1) p.2 } => x.1.2) Lc.sz (putRowK (fun x : { p : γ × List Value // Rs c0 (cells p.1) p.2 } => x.1.2) Lc.sz (Sort.ahead w n) Lc.blk 0 d') Lc.blk 0 d' :=
    holdsK_putRowK _ _ _ _ _ ds.toArray d' (holdsK_ahead _ _ _ _ _ _ _ hH) (by rw [hd's, hszd])
  have hg : hget [(l, u, .row e (xs.map cells))] l u = some (.row e (xs.map cells)) := by simp [hget]
  have hpt : hput [(l, u, .row e (xs.map cells))] l u (.row e ((sortL cf xs).map cells)) = [(l, u, .row e ((sortL cf xs).map cells))] := by simp [hput]
  have hset := hs.set (blk' := .row e ((sortL cf xs).map cells)) (w' := putRowK (fun x : { p : γ × List Value // Rs c0 (cells p.1) p.2 } => x.1.2) Lc.sz (Sort.ahead w n) Lc.blk 0 d') hg hL hLp rfl rfl rfl (by show w.drawn ≤ w.drawn + n; omega) hszp
    (fun b hb => by
      show (mapBlock (Sort.ahead w n) Lc.blk _).heap[b]? = w.heap[b]?
      unfold mapBlock
      simp only [heap_ahead]
      rw [Array.getElem?_modify, if_neg (fun h => hb h.symm)])
    (fun la => by
      rw [hpt] at la ⊢
      refine ⟨hLe, hbase, hk0, ?_, hcm2, fun _ => ?_, ?_⟩
      · rw [List.length_map, (sortL_perm cf xs).length_eq]; simpa using hlc
      · have hcur' : w.heap[Lc.blk]? = some (.cells cur Lc.e (0, 0)) := hcur
        refine ⟨putCells id 0 (flatK (fun x : { p : γ × List Value // Rs c0 (cells p.1) p.2 } => x.1.2) Lc.sz d') cur, ?_, by rw [← hcsz]; simp [putCells]⟩
        show (mapBlock (Sort.ahead w n) Lc.blk _).heap[Lc.blk]? = _
        unfold mapBlock
        simp only [heap_ahead]
        rw [Array.getElem?_modify, if_pos rfl, hcur']
        rfl
      · rw [← hys]
        refine OEls.place (c0 := c0) ?_ hlen d'.toList _ _ fun i d hi j v hj => ?_
        · have hl := lasts (putRowK (fun x : { p : γ × List Value // Rs c0 (cells p.1) p.2 } => x.1.2) Lc.sz (Sort.ahead w n) Lc.blk 0 d') (fun b => F b ∨ b = Lc.blk) (fun b h => h) (fun b o v hb hlt hc => by
            rw [cell?_putRowK_other _ _ _ _ _ _ _ hb, cell?_ahead]; exact hc)
          refine ⟨fun b o v hc ho => ?_, fun l' u' L' h => by subst hc0; cases h⟩
          obtain ⟨k1, k2⟩ := hl.cell b o v hc ho
          refine ⟨k1, fun k3 => k2 ?_⟩
          rcases k3 with k3 | ⟨e', he', L', hL', _, rfl⟩
          · exact .inl (.inl k3)
          · simp only [List.mem_singleton] at he'
            subst he'
            obtain rfl := Option.some.inj (hL.symm.trans hL')
            exact .inl (.inr rfl)
        · have hi2 : i < d'.size := by simpa using (List.getElem?_eq_some_iff.1 hi).1
          have hj2 : j < Lc.sz := by rw [← hk d]; exact (List.getElem?_eq_some_iff.1 hj).1
          have hlt : i * Lc.sz + j < d'.size * Lc.sz := by
            have := Nat.mul_le_mul_right Lc.sz (show i + 1 ≤ d'.size from hi2)
            rw [Nat.add_mul, Nat.one_mul] at this
            omega
          have hc := (hHd (i * Lc.sz + j) (by rw [size_flatK]; exact hlt)).1
          rw [get_flatK _ _ _ _ hlt] at hc
          have q1 : (i * Lc.sz + j) / Lc.sz = i := by rw [Nat.mul_comm, Nat.mul_add_div hk0, Nat.div_eq_of_lt hj2, Nat.add_zero]
          have q2 : (i * Lc.sz + j) % Lc.sz = j := by rw [Nat.mul_comm, Nat.mul_add_mod, Nat.mod_eq_of_lt hj2]
          rw [q1, q2, getElem!_pos d' i hi2] at hc
          have hd : d'[i] = d := by
            have := (List.getElem?_eq_some_iff.1 hi).2
            simpa using this
          rw [hd, getElem!_pos d.1.2 j (List.getElem?_eq_some_iff.1 hj).1, (List.getElem?_eq_some_iff.1 hj).2] at hc
          show World.cell? _ _ = _
          rw [show Lc.base + i * Lc.sz + j = 0 + (i * Lc.sz + j) from by rw [hbase]; omega]
          exact hc)
  rw [hpt] at hset
  obtain ⟨hst1, hev1⟩ := hset
  have hgr := Evo.grow (w' := grow (putRowK (fun x : { p : γ × List Value // Rs c0 (cells p.1) p.2 } => x.1.2) Lc.sz (Sort.ahead w n) Lc.blk 0 d') os) hst1 rfl rfl rfl (Nat.le_refl _) (by rw [size_grow]; omega) (fun b hb => heap_grow_old _ _ hb)
  exact ⟨_, ρ, rfl, hgr.2, hev1.trans hgr.1, by simp only [R, Rt]; exact ⟨_, rfl, rfl⟩⟩
end
end Go.L1
