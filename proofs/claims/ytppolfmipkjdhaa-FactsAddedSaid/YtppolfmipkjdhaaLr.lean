import Derived.Test.YtppolfmipkjdhaaLq
/-! L1, part r: owned memory let go, frozen; names forgotten; nil as an empty row. -/
set_option linter.all false
namespace Go.L1
open Go.RowKit
variable [Zero Prop]

mutual
/-- Owned rows that are let go: from now on told by what they hold. -/
def frV (H : Heap) : V → V
  | .sl l u j n sz => match hget H l u with
    | some (.row _ els) => if els.all nls = true ∧ j + n ≤ els.length then .dsl sz ((els.drop j).take n) else .sl l u j n sz
    | _ => .sl l u j n sz
  | .ptr l u j o => match hget H l u with
    | some (.row _ els) => match els[j]? with
      | some el => if nls el = true then .dptr (el.drop o) else .ptr l u j o
      | none => .ptr l u j o
    | _ => .ptr l u j o
  | .fn f cs => .fn f (frVs H cs)
  | .agg cs => .agg (frVs H cs)
  | .tup vs => .tup (frVs H vs)
  | .b x => .b x
  | .i k n => .i k n
  | .s x => .s x
  | .nilP => .nilP
  | .dptr cs => .dptr cs
  | .nilS => .nilS
  | .dsl sz els => .dsl sz els
  | .mp l => .mp l
  | .nilM => .nilM
  | .it l => .it l
def frVs (H : Heap) : List V → List V
  | [] => []
  | x :: xs => frV H x :: frVs H xs
end

mutual
/-- All names are below n. -/
def bl (n : Nat) : V → Bool
  | .ptr l _ _ _ => decide (l < n)
  | .sl l _ _ _ _ => decide (l < n)
  | .mp l => decide (l < n)
  | .it l => decide (l < n)
  | .fn _ cs => bls n cs
  | .agg cs => bls n cs
  | .tup vs => bls n vs
  | _ => true
def bls (n : Nat) : List V → Bool
  | [] => true
  | x :: xs => bl n x && bls n xs
end

def blB (n : Nat) : Blk → Bool
  | .row _ els => els.all (bls n)
  | .map es => es.all fun e => bl n e.1 && bl n e.2

def Ctx.cut (c : Ctx) (n : Nat) : Ctx := ⟨c.w, c.own, fun l u => if l < n then c.ρ l u else none⟩

mutual
theorem R.cut {c : Ctx} (n : Nat) : ∀ (x : V) (v : Value), bl n x = true → R c x v → R (c.cut n) x v
  | .ptr l u j o, v, h, r => by
      simp only [bl, decide_eq_true_eq] at h; simp only [R] at r ⊢
      obtain ⟨L, hL, hv⟩ := r
      exact ⟨L, by simp [Ctx.cut, h, hL], hv⟩
  | .sl l u j m sz, v, h, r => by
      simp only [bl, decide_eq_true_eq] at h; simp only [R] at r ⊢
      obtain ⟨L, a, cap, hL, rest⟩ := r
      exact ⟨L, a, cap, by simp [Ctx.cut, h, hL], rest⟩
  | .mp l, v, h, r => by
      simp only [bl, decide_eq_true_eq] at h; simp only [R] at r ⊢
      obtain ⟨L, hL, hv⟩ := r
      exact ⟨L, by simp [Ctx.cut, h, hL], hv⟩
  | .it l, v, h, r => by
      simp only [bl, decide_eq_true_eq] at h; simp only [R] at r ⊢
      obtain ⟨L, hL, hv⟩ := r
      exact ⟨L, by simp [Ctx.cut, h, hL], hv⟩
  | .fn f cs, v, h, r => by
      simp only [bl] at h; simp only [R] at r ⊢
      obtain ⟨vs, hv, hc⟩ := r
      exact ⟨vs, hv, Rs.cut n cs _ h hc⟩
  | .agg cs, v, h, r => by
      simp only [bl] at h; simp only [R] at r ⊢
      obtain ⟨vs, hv, hc⟩ := r
      exact ⟨vs, hv, Rs.cut n cs _ h hc⟩
  | .tup cs, v, h, r => by
      simp only [bl] at h; simp only [R] at r ⊢
      obtain ⟨vs, hv, hc⟩ := r
      exact ⟨vs, hv, Rt.cut n cs _ h hc⟩
  | .b x, v, _, r => by simpa only [R] using r
  | .i k n, v, _, r => by simpa only [R] using r
  | .s x, v, _, r => by simpa only [R] using r
  | .nilP, v, _, r => by simpa only [R] using r
  | .dptr cs, v, _, r => by simp only [R] at r ⊢; exact r
  | .nilS, v, _, r => by simpa only [R] using r
  | .dsl sz els, v, _, r => by simp only [R] at r ⊢; exact r
  | .nilM, v, _, r => by simpa only [R] using r
theorem Rs.cut {c : Ctx} (n : Nat) : ∀ (xs : List V) (vs : List Value), bls n xs = true → Rs c xs vs → Rs (c.cut n) xs vs
  | [], vs, _, r => by simpa only [Rs] using r
  | x :: xs, vs, h, r => by
      simp only [bls, Bool.and_eq_true] at h; simp only [Rs] at r ⊢
      obtain ⟨v, vs', e, h1, rx, rr⟩ := r
      exact ⟨v, vs', e, h1, R.cut n x v h.1 rx, Rs.cut n xs vs' h.2 rr⟩
theorem Rt.cut {c : Ctx} (n : Nat) : ∀ (xs : List V) (vs : List Value), bls n xs = true → Rt c xs vs → Rt (c.cut n) xs vs
  | [], vs, _, r => by simpa only [Rt] using r
  | x :: xs, vs, h, r => by
      simp only [bls, Bool.and_eq_true] at h; simp only [Rt] at r ⊢
      obtain ⟨v, vs', e, rx, rr⟩ := r
      exact ⟨v, vs', e, R.cut n x v h.1 rx, Rt.cut n xs vs' h.2 rr⟩
end

theorem OCells.cut {c : Ctx} (n : Nat) : ∀ (xs : List V) (b f : Nat), bls n xs = true → OCells c xs b f → OCells (c.cut n) xs b f
  | [], _, _, _, _ => trivial
  | x :: xs, b, f, h, r => by
    simp only [bls, Bool.and_eq_true] at h
    obtain ⟨⟨v, h1, h2, h3⟩, h4⟩ := r
    exact ⟨⟨v, h1, h2, R.cut n x v h.1 h3⟩, OCells.cut n xs b (f + 1) h.2 h4⟩

theorem OEls.cut {c : Ctx} (n : Nat) {sz : Nat} : ∀ (els : List (List V)) (b f : Nat), els.all (bls n) = true → OEls c sz els b f → OEls (c.cut n) sz els b f
  | [], _, _, _, _ => trivial
  | x :: xs, b, f, h, r => by
    simp only [List.all_cons, Bool.and_eq_true] at h
    exact ⟨r.1, OCells.cut n x b f h.1 r.2.1, OEls.cut n xs b (f + sz) h.2 r.2.2⟩

theorem Ents.cut {c : Ctx} (n : Nat) : ∀ (es : List (V × V)) (ms : List MapEntry), (es.all fun e => bl n e.1 && bl n e.2) = true → Ents c es ms → Ents (c.cut n) es ms
  | [], _, _, h => h
  | (k, x) :: es, ms, hb, h => by
    simp only [List.all_cons, Bool.and_eq_true] at hb
    obtain ⟨m, ms', e, h1, h2, h3⟩ := h
    exact ⟨m, ms', e, R.cut n _ _ hb.1.1 h1, R.cut n _ _ hb.1.2 h2, Ents.cut n es ms' hb.2 h3⟩

theorem BlkRel.cut {c : Ctx} (n : Nat) {L : Loc} {blk : Blk} (hb : blB n blk = true) (h : BlkRel c L blk) : BlkRel (c.cut n) L blk := by
  cases blk with
  | row e els =>
    obtain ⟨h1, h2, h3, h4, h5, h6, h7⟩ := h
    exact ⟨h1, h2, h3, h4, h5, h6, OEls.cut n els _ _ hb h7⟩
  | map es =>
    obtain ⟨h1, ents, clock, h2, h3, h4⟩ := h
    exact ⟨h1, ents, clock, h2, Ents.cut n es _ hb h3, h4⟩

/-- Less owned. -/
theorem St.sub {F ρ H H' nx w} (hs : St F ρ H nx w) (hsub : ∀ e ∈ H', e ∈ H) (hids : (H'.map (·.1)).Nodup) : St F ρ H' nx w ∧ Evo ρ H nx w ρ H' nx w ∧ Lasts (ctx F ρ H w) (ctx F ρ H' w) := by
  have hown : ∀ b, owns ρ H' b → owns ρ H b := fun b ⟨e, he, h⟩ => ⟨e, hsub e he, h⟩
  have hev : Evo ρ H nx w ρ H' nx w := ⟨rfl, rfl, rfl, fun _ => Nat.le_refl _, Nat.le_refl _, fun _ _ _ => rfl, fun b h => .inl (hown b h), fun _ _ _ h => h, fun _ _ _ h => .inl h, fun e he => .inl ⟨e, hsub e he, rfl⟩, Nat.le_refl _⟩
  have hl : Lasts (ctx F ρ H w) (ctx F ρ H' w) := hev.lasts
  refine ⟨⟨fun e he => ?_, hids, fun e he e' he' => hs.apart e (hsub e he) e' (hsub e' he'), hs.fresh, fun e he => hs.vers e (hsub e he), hs.fr⟩, hev, hl⟩
  obtain ⟨L, hL, hF, hB⟩ := hs.rel e (hsub e he)
  exact ⟨L, hL, hF, BlkRel.lasts (c := ctx F ρ H w) (fun _ => rfl) hl hB⟩

/-- Names from n on are forgotten. -/
theorem St.forget {F ρ H nx w} (hs : St F ρ H nx w) {n : Nat} (hb : ∀ e ∈ H, e.1 < n ∧ blB n e.2.2 = true) :
    ∃ ρ', St F ρ' H n w ∧ ctx F ρ' H w = (ctx F ρ H w).cut n ∧ (∀ l u, l < n → ρ' l u = ρ l u) := by
  refine ⟨fun l u => if l < n then ρ l u else none, ?_⟩
  generalize hr : (fun l u => if l < n then ρ l u else none : Names) = ρ'
  have hin : ∀ l u, l < n → ρ' l u = ρ l u := fun l u h => by rw [← hr]; exact if_pos h
  have hout : ∀ l u, n ≤ l → ρ' l u = none := fun l u h => by rw [← hr]; exact if_neg (by omega)
  have hown : ∀ b, owns ρ' H b ↔ owns ρ H b := fun b => by
    constructor
    · rintro ⟨e, he, L, hL, h⟩
      rw [hin _ _ (hb e he).1] at hL
      exact ⟨e, he, L, hL, h⟩
    · rintro ⟨e, he, L, hL, h⟩
      exact ⟨e, he, L, by rw [hin _ _ (hb e he).1]; exact hL, h⟩
  have hctx : ctx F ρ' H w = (ctx F ρ H w).cut n := by
    unfold ctx Ctx.cut
    rw [← hr]
    congr 1
    funext b
    rw [hr, hown]
  refine ⟨⟨fun e he => ?_, hs.ids, fun e he e' he' hne L L' hL hL' => ?_, hout, fun e he u hu => ?_, hs.fr⟩, hctx, hin⟩
  · obtain ⟨L, hL, hF, hB⟩ := hs.rel e he
    refine ⟨L, by rw [hin _ _ (hb e he).1]; exact hL, hF, ?_⟩
    rw [hctx]
    exact BlkRel.cut n (hb e he).2 hB
  · rw [hin _ _ (hb e he).1] at hL
    rw [hin _ _ (hb e' he').1] at hL'
    exact hs.apart e he e' he' hne L L' hL hL'
  · rw [hin _ _ (hb e he).1]; exact hs.vers e he u hu

/-- What is let go: frozen. -/
theorem fr_cells {F ρ nx w} {Hk Hd : Heap} (hs : St F ρ (Hk ++ Hd) nx w) {l u e : Nat} {els : List (List V)} {L : Loc} (hg : hget Hd l u = some (.row e els)) (hL : ρ l u = some L) (hp : 0 < L.cap) :
    ¬ (ctx F ρ Hk w).own L.blk ∧ (∀ el ∈ els, el.length = L.sz) ∧ ∃ us, Rs (ctx F ρ (Hk ++ Hd) w) (flat els) us ∧ ∀ j v, us[j]? = some v → w.cell? ⟨L.blk, L.base + j, none⟩ = some v := by
  have hm := hget_mem hg
  obtain ⟨L', hL', hF, hB⟩ := hs.rel _ (List.mem_append.2 (.inr hm))
  obtain rfl := Option.some.inj (hL.symm.trans hL')
  refine ⟨?_, (hB.2.2.2.2.2.2.read).1, (hB.2.2.2.2.2.2.read).2⟩
  rintro (k | ⟨e', he', L2, hL2, hp2, hb⟩)
  · exact (hF hp).1 k
  · refine hs.apart e' (List.mem_append.2 (.inl he')) _ (List.mem_append.2 (.inr hm)) ?_ L2 L hL2 hL hp2 hp hb
    have := hs.ids
    simp only [List.map_append, List.nodup_append] at this
    exact this.2.2 _ (List.mem_map.2 ⟨e', he', rfl⟩) _ (List.mem_map.2 ⟨_, hm, rfl⟩)

theorem nls_append : ∀ xs ys, nls (xs ++ ys) = (nls xs && nls ys)
  | [], ys => by simp [nls]
  | x :: xs, ys => by simp [nls, nls_append xs ys, Bool.and_assoc]

theorem nls_flat : ∀ {els : List (List V)}, els.all nls = true → nls (flat els) = true
  | [], _ => rfl
  | x :: xs, h => by
    simp only [List.all_cons, Bool.and_eq_true] at h
    rw [flat, nls_append, h.1, nls_flat h.2]; rfl

mutual
theorem R.fr {F ρ nx w} {Hk Hd : Heap} (hs : St F ρ (Hk ++ Hd) nx w) (hl : Lasts (ctx F ρ (Hk ++ Hd) w) (ctx F ρ Hk w)) : ∀ (x : V) (v : Value), R (ctx F ρ (Hk ++ Hd) w) x v → R (ctx F ρ Hk w) (frV Hd x) v
  | .sl l u j n sz, v, r => by
      simp only [frV]
      split
      · rename_i e els hg
        split
        · rename_i hc
          simp only [R] at r ⊢
          obtain ⟨L, a, cap, hL, hz, rfl, hle, hm, hcap⟩ := r
          have hlen : ((els.drop j).take n).length = n := by simp; omega
          refine ⟨a, cap, by rw [hlen], by omega, hm, ?_⟩
          rcases hcap with rfl | ⟨rfl, hcap⟩
          · left
            exact List.eq_nil_of_length_eq_zero (by omega)
          · rcases Nat.eq_zero_or_pos L.cap with h0 | hp
            · left
              exact List.eq_nil_of_length_eq_zero (by omega)
            · obtain ⟨h1, h2, us, h3, h4⟩ := fr_cells hs hg hL hp
              right
              refine ⟨L.blk, L.base + j * L.sz, rfl, ?_⟩
              have h5 := Rs.lasts hl.bare _ _ (Rs.nameless _ _ (nls_flat hc.1) h3)
              have h6 := (h5.drop (j * L.sz)).take (n * L.sz)
              rw [flat_drop j h2, flat_take n (fun el he => h2 el (List.mem_of_mem_drop he))] at h6
              rw [← hz]
              refine Els.of_block (c := (ctx F ρ Hk w).bare) h1 (fun el he => h2 el (List.mem_of_mem_drop (List.mem_of_mem_take he))) h6 fun i x hi => ?_
              rw [List.getElem?_take] at hi
              split at hi
              · rw [List.getElem?_drop] at hi
                have := h4 _ x hi
                rwa [← Nat.add_assoc] at this
              · cases hi
        · exact R.lasts hl _ _ r
      · exact R.lasts hl _ _ r
  | .ptr l u j o, v, r => by
      simp only [frV]
      split
      · rename_i e els hg
        split
        · rename_i el hj
          split
          · rename_i hn
            simp only [R] at r ⊢
            obtain ⟨L, hL, rfl⟩ := r
            have hjl := (List.getElem?_eq_some_iff.1 hj).1
            obtain ⟨L', hL', _, hB⟩ := hs.rel _ (List.mem_append.2 (.inr (hget_mem hg)))
            obtain rfl := Option.some.inj (hL.symm.trans hL')
            have hp : 0 < L.cap := by have := hB.2.2.2.1; omega
            obtain ⟨h1, h2, _⟩ := fr_cells hs hg hL hp
            obtain ⟨h3, h4⟩ := hB.2.2.2.2.2.2.at hj
            obtain ⟨us, h5, h6⟩ := h4.read
            have h7 := Rs.lasts hl.bare _ _ (Rs.nameless _ _ hn h5)
            refine ⟨L.blk, _, rfl, ?_⟩
            have h8 := Cells.of_block (c := (ctx F ρ Hk w).bare) (vals := []) (f := L.base + j * L.sz) h1 h7 h6
            exact h8.drop o
          · exact R.lasts hl _ _ r
        · exact R.lasts hl _ _ r
      · exact R.lasts hl _ _ r
  | .fn f cs, v, r => by
      simp only [frV]; simp only [R] at r ⊢
      obtain ⟨vs, hv, hc⟩ := r
      exact ⟨vs, hv, Rs.fr hs hl cs _ hc⟩
  | .agg cs, v, r => by
      simp only [frV]; simp only [R] at r ⊢
      obtain ⟨vs, hv, hc⟩ := r
      exact ⟨vs, hv, Rs.fr hs hl cs _ hc⟩
  | .tup cs, v, r => by
      simp only [frV]; simp only [R] at r ⊢
      obtain ⟨vs, hv, hc⟩ := r
      exact ⟨vs, hv, Rt.fr hs hl cs _ hc⟩
  | .b x, v, r => by simp only [frV]; exact R.lasts hl _ _ r
  | .i k n, v, r => by simp only [frV]; exact R.lasts hl _ _ r
  | .s x, v, r => by simp only [frV]; exact R.lasts hl _ _ r
  | .nilP, v, r => by simp only [frV]; exact R.lasts hl _ _ r
  | .dptr cs, v, r => by simp only [frV]; exact R.lasts hl _ _ r
  | .nilS, v, r => by simp only [frV]; exact R.lasts hl _ _ r
  | .dsl sz els, v, r => by simp only [frV]; exact R.lasts hl _ _ r
  | .mp l, v, r => by simp only [frV]; exact R.lasts hl _ _ r
  | .nilM, v, r => by simp only [frV]; exact R.lasts hl _ _ r
  | .it l, v, r => by simp only [frV]; exact R.lasts hl _ _ r
theorem Rs.fr {F ρ nx w} {Hk Hd : Heap} (hs : St F ρ (Hk ++ Hd) nx w) (hl : Lasts (ctx F ρ (Hk ++ Hd) w) (ctx F ρ Hk w)) : ∀ (xs : List V) (vs : List Value), Rs (ctx F ρ (Hk ++ Hd) w) xs vs → Rs (ctx F ρ Hk w) (frVs Hd xs) vs
  | [], vs, r => by simpa only [frVs, Rs] using r
  | x :: xs, vs, r => by
      simp only [frVs, Rs] at r ⊢
      obtain ⟨v, vs', e, h1, rx, rr⟩ := r
      exact ⟨v, vs', e, h1, R.fr hs hl x v rx, Rs.fr hs hl xs vs' rr⟩
theorem Rt.fr {F ρ nx w} {Hk Hd : Heap} (hs : St F ρ (Hk ++ Hd) nx w) (hl : Lasts (ctx F ρ (Hk ++ Hd) w) (ctx F ρ Hk w)) : ∀ (xs : List V) (vs : List Value), Rt (ctx F ρ (Hk ++ Hd) w) xs vs → Rt (ctx F ρ Hk w) (frVs Hd xs) vs
  | [], vs, r => by simpa only [frVs, Rt] using r
  | x :: xs, vs, r => by
      simp only [frVs, Rt] at r ⊢
      obtain ⟨v, vs', e, rx, rr⟩ := r
      exact ⟨v, vs', e, R.fr hs hl x v rx, Rt.fr hs hl xs vs' rr⟩
end

/-- nil, seen as an empty row that is owned. -/
theorem St.empty {F ρ H nx w} (hs : St F ρ H nx w) (e sz : Nat) (hz : 0 < sz) :
    St F (nset ρ nx 0 ⟨0, 0, sz, 0, e⟩) ((nx, 0, .row e []) :: H) (nx + 1) w ∧ Evo ρ H nx w (nset ρ nx 0 ⟨0, 0, sz, 0, e⟩) ((nx, 0, .row e []) :: H) (nx + 1) w ∧
      R (ctx F (nset ρ nx 0 ⟨0, 0, sz, 0, e⟩) ((nx, 0, .row e []) :: H) w) (.sl nx 0 0 0 sz) (.slice none 0 0) := by
  have hmem : ∀ e0, e0 ∈ ((nx, 0, Blk.row e []) :: H : Heap) ↔ (e0 = (nx, 0, .row e []) ∨ (e0 ∈ H ∧ e0.1 ≠ nx)) := fun e0 => by
    simp only [List.mem_cons]
    constructor
    · rintro (h | h)
      · exact .inl h
      · exact .inr ⟨h, fun hh => by have := hs.lt h; omega⟩
    · rintro (h | h)
      · exact .inl h
      · exact .inr h.1
  have hids : (((nx, 0, Blk.row e []) :: H : Heap).map (·.1)).Nodup := by
    simp only [List.map_cons, List.nodup_cons, List.mem_map, not_exists, not_and]
    exact ⟨fun e he hh => by have := hs.lt he; omega, hs.ids⟩
  have := hs.upd (L' := ⟨0, 0, sz, 0, e⟩) (w' := w) hmem hids (.inr (hs.fresh _ _ (Nat.le_refl _))) (fun u _ => hs.fresh _ _ (Nat.le_refl _)) (Nat.le_succ nx) (Nat.lt_succ_self nx) (fun h => absurd h (Nat.lt_irrefl _)) rfl rfl rfl (Nat.le_refl _) (Nat.le_refl _) (fun _ _ _ => rfl)
      (fun h => absurd h (Nat.lt_irrefl _)) (fun _ => ⟨rfl, rfl, hz, Nat.le_refl _, by unfold maxLen; show 0 ≤ _; omega, fun h => absurd h (Nat.lt_irrefl _), trivial⟩)
  refine ⟨this.1, this.2, ?_⟩
  simp only [R]
  exact ⟨⟨0, 0, sz, 0, e⟩, none, 0, by simp [ctx, nset], rfl, rfl, Nat.le_refl _, by unfold maxLen; omega, .inl rfl⟩

end Go.L1
