import Derived.Test.YtppolfmipkjdhaaLb
/-! L1, part c: environments, what an operation does, what a function does; a function's contract under other names. -/
set_option linter.all false
namespace Go.L1
open Go.RowKit
variable [Zero Prop]

abbrev Env := List (Nat × V)

def Env.get : Env → Nat → Option V
  | [], _ => none
  | (k, v) :: r, t => if k = t then some v else Env.get r t

def Env.put (T : Env) (d : Option Nat) (v : V) : Env :=
  match d with
  | some d => (d, v) :: T
  | none => T

/-- The temporaries ts hold what T says. -/
def Holds (c : Ctx) (T : Env) (ts : List Nat) (tmps : Array Value) : Prop :=
  ∀ t ∈ ts, ∀ x, T.get t = some x → ∃ v, tmps[t]? = some v ∧ R c x v

/-- All temporaries hold what T says; there are n of them. -/
structure EnvRel (c : Ctx) (n : Nat) (T : Env) (tmps : Array Value) : Prop where
  size : tmps.size = n
  get : ∀ t x, T.get t = some x → ∃ v, tmps[t]? = some v ∧ R c x v

theorem EnvRel.holds {c n T tmps} (h : EnvRel c n T tmps) (ts : List Nat) : Holds c T ts tmps := fun t _ x hx => h.get t x hx

theorem EnvRel.lasts {c c' n T tmps} (h : EnvRel c n T tmps) (hl : Lasts c c') : EnvRel c' n T tmps :=
  ⟨h.size, fun t x hx => let ⟨v, h1, h2⟩ := h.get t x hx; ⟨v, h1, R.lasts hl _ _ h2⟩⟩

theorem EnvRel.put {c n T tmps} (h : EnvRel c n T tmps) {d : Option Nat} {x : V} {v : Value} (hx : R c x v) (hd : ∀ e, d = some e → e < n) :
    EnvRel c n (T.put d x) ((⟨tmps, []⟩ : Act).put d v).tmps := by
  cases d with
  | none => exact h
  | some e =>
    have he := hd e rfl
    refine ⟨by simp [Act.put, h.size], fun t y hy => ?_⟩
    simp only [Env.put, Env.get] at hy
    by_cases ht : e = t
    · subst ht
      simp at hy
      subst hy
      exact ⟨v, by simp [Act.put, h.size, he], hx⟩
    · rw [if_neg ht] at hy
      obtain ⟨u, h1, h2⟩ := h.get t y hy
      exact ⟨u, by simp [Act.put, Array.getElem?_setIfInBounds_ne ht, h1], h2⟩

instance (k : IntKind) (n : Int) : Decidable (InK k n) := by cases k <;> unfold InK <;> infer_instance

/-- A constant of one cell. -/
def constC : Value → Option V
  | .bool x => some (.b x)
  | .int k n => if InK k n then some (.i k n) else none
  | .string x => if x.size ≤ 65536 then some (.s x) else none
  | .pointer none => some .nilP
  | .slice none 0 0 => some .nilS
  | .map none => some .nilM
  | _ => none
def constCs : List Value → Option (List V)
  | [] => some []
  | v :: vs => match constC v, constCs vs with
    | some x, some xs => some (x :: xs)
    | _, _ => none
def constV : Value → Option V
  | .agg ⟨cs⟩ => (constCs cs).map .agg
  | .tuple ⟨[]⟩ => some (.tup [])
  | v => constC v

theorem constC_R (c : Ctx) {v : Value} {x : V} (h : constC v = some x) : One v ∧ R c x v := by
  unfold constC at h
  split at h
  · simp only [Option.some.injEq] at h; subst h; simp only [R]; exact ⟨trivial, trivial⟩
  · split at h
    · rename_i hk; simp only [Option.some.injEq] at h; subst h; simp only [R]; exact ⟨trivial, trivial, hk⟩
    · cases h
  · split at h
    · rename_i hk; simp only [Option.some.injEq] at h; subst h; simp only [R]; exact ⟨trivial, trivial, by unfold maxLen; omega⟩
    · cases h
  · simp only [Option.some.injEq] at h; subst h; simp only [R]; exact ⟨trivial, trivial⟩
  · simp only [Option.some.injEq] at h; subst h; simp only [R]; exact ⟨trivial, trivial⟩
  · simp only [Option.some.injEq] at h; subst h; simp only [R]; exact ⟨trivial, trivial⟩
  · cases h

theorem constCs_R (c : Ctx) : ∀ (vs : List Value) (xs : List V), constCs vs = some xs → Rs c xs vs
  | [], xs, h => by simp only [constCs, Option.some.injEq] at h; subst h; simp only [Rs]
  | v :: vs, xs, h => by
      simp only [constCs] at h
      split at h
      · rename_i y ys hy hys
        simp only [Option.some.injEq] at h
        subst h
        simp only [Rs]
        exact ⟨v, vs, rfl, (constC_R c hy).1, (constC_R c hy).2, constCs_R c vs ys hys⟩
      · cases h

theorem constV_R (c : Ctx) (v : Value) (x : V) (h : constV v = some x) : R c x v := by
  unfold constV at h
  split at h
  · simp only [Option.map_eq_some_iff] at h
    obtain ⟨xs, h1, rfl⟩ := h
    simp only [R]
    exact ⟨_, rfl, constCs_R c _ xs h1⟩
  · simp only [Option.some.injEq] at h; subst h; simp only [R, Rt]; exact ⟨_, rfl, rfl⟩
  · exact (constC_R c h).2

/-- An operand's value. -/
def ev (T : Env) : Operand → Option V
  | .tmp t => T.get t
  | .const v => constV v
  | .global _ => none
  | .func f => some (.fn f [])

def tmpsOf (xs : List Operand) : List Nat := xs.filterMap fun | .tmp t => some t | _ => none
def opTmps (o : Oper) : List Nat := tmpsOf o.op.operands.toList

theorem ev_R {c : Ctx} {T : Env} {ts : List Nat} {a : Act} (h : Holds c T ts a.tmps) {x : Operand} {v : V} (hx : ev T x = some v) (ht : ∀ t, x = .tmp t → t ∈ ts) :
    R c v (a.eval x) := by
  cases x with
  | tmp t =>
    obtain ⟨u, h1, h2⟩ := h t (ht t rfl) v hx
    have : a.eval (.tmp t) = u := by simp [Act.eval, h1]
    rw [this]; exact h2
  | const u => exact constV_R c u v hx
  | global g => simp [ev] at hx
  | func f =>
    simp only [ev, Option.some.injEq] at hx
    subst hx
    simp only [R, Act.eval]
    exact ⟨#[], rfl, by simp [Rs]⟩

/-- An operation that touches nothing that is owned. -/
def PStep (P : Program) (o : Oper) (T : Env) (v : V) : Prop :=
  ∀ F ρ H nx w a, St F ρ H nx w → Holds (ctx F ρ H w) T (opTmps o) a.tmps → ∀ next Q,
    (∀ v' w', St F ρ H nx w' → Evo ρ H nx w ρ H nx w' → R (ctx F ρ H w') v v' → next (a.put o.dst v') w') → o.wp P a w next Q

/-- An operation that may touch what is owned. -/
def HStep (P : Program) (o : Oper) (T : Env) (H : Heap) (nx : Nat) (v : V) (H' : Heap) (nx' : Nat) : Prop :=
  ∀ F ρ w a, St F ρ H nx w → Holds (ctx F ρ H w) T (opTmps o) a.tmps → ∀ next Q,
    (∀ ρ' v' w', St F ρ' H' nx' w' → Evo ρ H nx w ρ' H' nx' w' → R (ctx F ρ' H' w') v v' → next (a.put o.dst v') w') → o.wp P a w next Q

theorem PStep.h {P o T v} (h : PStep P o T v) (H : Heap) (nx : Nat) : HStep P o T H nx v H nx :=
  fun F ρ w a hs hh next Q k => h F ρ H nx w a hs hh next Q fun v' w' h1 h2 h3 => k ρ v' w' h1 h2 h3

/-- A call of it is an entry. -/
def Ent (P : Program) (f : Nat) : Prop := ∀ as w, (callFunc f as).run P w = .ok (.enter f as) w

/-- What a function does. -/
def C (P : Program) (f : Nat) (nx : Nat) (args : List V) (H : Heap) (v : V) (H' : Heap) (nx' : Nat) : Prop :=
  Ent P f ∧ ∀ F ρ w vs, St F ρ H nx w → Rt (ctx F ρ H w) args vs → Calls P f vs.toArray w fun e w' =>
    ∃ v' ρ', e = .returned v' ∧ St F ρ' H' nx' w' ∧ Evo ρ H nx w ρ' H' nx' w' ∧ R (ctx F ρ' H' w') v v'

/-- What a function does that touches nothing that is owned: at no names. -/
def CP (P : Program) (f : Nat) (args : List V) (v : V) : Prop := C P f 0 args [] v [] 0

/-! ### Other names -/
def renB (σ : Nat → Nat) : Blk → Blk
  | .row e els => .row e (els.map (rens σ))
  | .map es => .map (es.map fun e => (ren σ e.1, ren σ e.2))
def renE (σ : Nat → Nat) (e : Nat × Nat × Blk) : Nat × Nat × Blk := (σ e.1, e.2.1, renB σ e.2.2)
def renH (σ : Nat → Nat) (H : Heap) : Heap := H.map (renE σ)

theorem rens_length (σ : Nat → Nat) : ∀ xs, (rens σ xs).length = xs.length
  | [] => rfl
  | x :: xs => by simp [rens, rens_length σ xs]

theorem OCells.ren {c : Ctx} (σ : Nat → Nat) : ∀ (xs : List V) (b o : Nat), OCells c (rens σ xs) b o ↔ OCells (c.sub σ) xs b o
  | [], _, _ => Iff.rfl
  | x :: xs, b, o => by simp only [rens, OCells, R.ren σ x, OCells.ren σ xs]; exact Iff.rfl

theorem OEls.ren {c : Ctx} (σ : Nat → Nat) {sz : Nat} : ∀ (els : List (List V)) (b o : Nat), OEls c sz (els.map (rens σ)) b o ↔ OEls (c.sub σ) sz els b o
  | [], _, _ => Iff.rfl
  | x :: xs, b, o => by simp only [List.map_cons, OEls, rens_length, OCells.ren σ x, OEls.ren σ xs]

theorem Ents.ren {c : Ctx} (σ : Nat → Nat) : ∀ (es : List (V × V)) (ms : List MapEntry), Ents c (es.map fun e => (L1.ren σ e.1, L1.ren σ e.2)) ms ↔ Ents (c.sub σ) es ms
  | [], _ => Iff.rfl
  | (k, x) :: es, ms => by simp only [List.map_cons, Ents, R.ren σ, Ents.ren σ es]

theorem BlkRel.ren {c : Ctx} (σ : Nat → Nat) {L : Loc} (blk : Blk) : BlkRel c L (renB σ blk) ↔ BlkRel (c.sub σ) L blk := by
  cases blk with
  | row e els => simp only [renB, BlkRel, List.length_map, OEls.ren σ els]; exact Iff.rfl
  | map es => simp only [renB, BlkRel, Ents.ren σ es]; exact Iff.rfl

theorem mem_renH {σ : Nat → Nat} {H : Heap} {e : Nat × Nat × Blk} : e ∈ renH σ H ↔ ∃ e0 ∈ H, renE σ e0 = e := by simp [renH]

theorem St.mono {F ρ H nx w} (h : St F ρ H nx w) {nx2 : Nat} (hle : nx ≤ nx2) : St F ρ H nx2 w :=
  ⟨h.rel, h.ids, h.apart, fun l u hl => h.fresh l u (Nat.le_trans hle hl), h.vers, h.fr⟩

theorem nodup_of_map {α β : Type} (f : α → β) : ∀ {l : List α}, (l.map f).Nodup → l.Nodup
  | [], _ => by simp
  | x :: xs, h => by
    simp only [List.map_cons, List.nodup_cons, List.mem_map, not_exists, not_and] at h ⊢
    exact ⟨fun hx => h.1 x hx rfl, nodup_of_map f h.2⟩

theorem nodup_map_on {α β : Type} (f : α → β) : ∀ {l : List α}, (∀ x ∈ l, ∀ y ∈ l, f x = f y → x = y) → l.Nodup → (l.map f).Nodup
  | [], _, _ => by simp
  | x :: xs, hf, h => by
    simp only [List.map_cons, List.nodup_cons, List.mem_map, not_exists, not_and] at h ⊢
    refine ⟨fun y hy he => h.1 ?_, nodup_map_on f (fun a ha b hb => hf a (List.mem_cons_of_mem _ ha) b (List.mem_cons_of_mem _ hb)) h.2⟩
    rw [← hf y (List.mem_cons_of_mem _ hy) x List.mem_cons_self he]; exact hy

/-- The same contract under other names: σ carries the names below k (what is handed over) to names below nx, all others to new ones. -/
theorem C.use {P f k args H v H' nx'} (h : C P f k args H v H' nx') (σ : Nat → Nat) (nx nx2 : Nat) (hkk : k ≤ nx') (hk : ∀ e ∈ H, e.1 < k)
    (hσ : ∀ i j, i < nx' → j < nx' → σ i = σ j → i = j) (h1 : ∀ i, i < k → σ i < nx) (h2 : ∀ i, k ≤ i → nx ≤ σ i) (h3 : ∀ i, k ≤ i → i < nx' → σ i < nx2) (hle : nx ≤ nx2) :
    C P f nx (rens σ args) (renH σ H) (ren σ v) (renH σ H') nx2 := by
  refine ⟨h.1, ?_⟩
  replace h := h.2
  intro F ρ w vs hs hr
  let ρ0 : Names := fun l u => ρ (σ l) u
  have hown : ∀ b, owns ρ0 H b ↔ owns ρ (renH σ H) b := fun b => by
    constructor
    · rintro ⟨e, he, L, hL, hp, hb⟩
      exact ⟨renE σ e, mem_renH.2 ⟨e, he, rfl⟩, L, hL, hp, hb⟩
    · rintro ⟨e, he, L, hL, hp, hb⟩
      obtain ⟨e0, h0, rfl⟩ := mem_renH.1 he
      exact ⟨e0, h0, L, hL, hp, hb⟩
  have hctx : ctx F ρ0 H w = (ctx F ρ (renH σ H) w).sub σ := by
    unfold ctx Ctx.sub
    congr 1
    funext b
    rw [hown]
  have hs0 : St F ρ0 H k w := by
    refine ⟨fun e he => ?_, ?_, ?_, fun l u hl => hs.fresh _ _ (h2 l hl), fun e he u hu => hs.vers (renE σ e) (mem_renH.2 ⟨e, he, rfl⟩) u hu, hs.fr⟩
    · obtain ⟨L, hL, hF, hB⟩ := hs.rel (renE σ e) (mem_renH.2 ⟨e, he, rfl⟩)
      refine ⟨L, hL, hF, ?_⟩
      rw [hctx]
      exact (BlkRel.ren σ _).1 hB
    · have := hs.ids
      have e1 : (renH σ H).map (·.1) = (H.map (·.1)).map σ := by simp [renH, renE]
      rw [e1] at this
      exact nodup_of_map σ this
    · intro e he e' he' hne L L' hL hL' hp hp'
      refine hs.apart (renE σ e) (mem_renH.2 ⟨e, he, rfl⟩) (renE σ e') (mem_renH.2 ⟨e', he', rfl⟩) ?_ L L' hL hL' hp hp'
      exact fun hh => hne (hσ _ _ (Nat.lt_of_lt_of_le (hk e he) hkk) (Nat.lt_of_lt_of_le (hk e' he') hkk) hh)
  have hr0 : Rt (ctx F ρ0 H w) args vs := by rw [hctx]; exact (Rt.ren σ _ _).1 hr
  refine (h F ρ0 w vs hs0 hr0).mono ?_
  rintro e w' ⟨v', ρ0', rfl, hs', hv', hR⟩
  let τ : Nat → Option Nat := fun l => (List.range nx').find? fun i => σ i = l
  have τσ : ∀ i, i < nx' → τ (σ i) = some i := fun i hi => by
    cases ht : τ (σ i) with
    | none =>
      have := List.find?_eq_none.1 ht i (List.mem_range.2 hi)
      simp at this
    | some j =>
      have hj := List.mem_range.1 (List.mem_of_find?_eq_some ht)
      have hj2 : σ j = σ i := by simpa using List.find?_some ht
      rw [hσ j i hj hi hj2]
  have στ : ∀ l i, τ l = some i → i < nx' ∧ σ i = l := fun l i ht =>
    ⟨List.mem_range.1 (List.mem_of_find?_eq_some ht), by simpa using List.find?_some ht⟩
  let ρ' : Names := fun l u => match τ l with | some i => ρ0' i u | none => ρ l u
  have hρσ : ∀ i u, i < nx' → ρ' (σ i) u = ρ0' i u := fun i u hi => by simp only [ρ', τσ i hi]
  have hlt : ∀ e ∈ H', e.1 < nx' := fun e he => hs'.lt he
  have hown' : ∀ b, owns ρ' (renH σ H') b ↔ owns ρ0' H' b := fun b => by
    constructor
    · rintro ⟨e, he, L, hL, hp, hb⟩
      obtain ⟨e0, h0, rfl⟩ := mem_renH.1 he
      exact ⟨e0, h0, L, (hρσ _ _ (hlt e0 h0)).symm.trans hL, hp, hb⟩
    · rintro ⟨e, he, L, hL, hp, hb⟩
      exact ⟨renE σ e, mem_renH.2 ⟨e, he, rfl⟩, L, (hρσ _ _ (hlt e he)).trans hL, hp, hb⟩
  have hl : Lasts (ctx F ρ0' H' w') ((ctx F ρ' (renH σ H') w').sub σ) := by
    refine ⟨fun b o x hc ho => ⟨hc, ?_⟩, fun l u L hL => ?_⟩
    · simp only [ctx, Ctx.sub] at ho ⊢
      rw [hown']; exact ho
    · have hi : l < nx' := by
        rcases Nat.lt_or_ge l nx' with k | k
        · exact k
        · have e1 : ρ0' l u = none := hs'.fresh l u k
          have e2 : ρ0' l u = some L := hL
          rw [e1] at e2; cases e2
      exact (hρσ l u hi).trans hL
  refine ⟨v', ρ', rfl, ?_, ?_, (R.ren σ v v').2 (R.lasts hl _ _ hR)⟩
  · refine ⟨fun e he => ?_, ?_, ?_, fun l u hl2 => ?_, fun e he u hu => ?_, hs'.fr⟩
    · obtain ⟨e0, h0, rfl⟩ := mem_renH.1 he
      obtain ⟨L, hL, hF, hB⟩ := hs'.rel e0 h0
      refine ⟨L, (hρσ _ _ (hlt e0 h0)).trans hL, hF, ?_⟩
      refine (BlkRel.ren σ _).2 ?_
      exact BlkRel.lasts (c := ctx F ρ0' H' w') (fun _ => rfl) hl hB
    · have e1 : (renH σ H').map (·.1) = (H'.map (·.1)).map σ := by simp [renH, renE]
      rw [e1]
      refine nodup_map_on σ ?_ hs'.ids
      intro x hx y hy hxy
      obtain ⟨e, he, rfl⟩ := List.mem_map.1 hx
      obtain ⟨e', he', rfl⟩ := List.mem_map.1 hy
      exact hσ _ _ (hlt e he) (hlt e' he') hxy
    · intro e he e' he' hne L L' hL hL' hp hp'
      obtain ⟨e0, h0, rfl⟩ := mem_renH.1 he
      obtain ⟨e0', h0', rfl⟩ := mem_renH.1 he'
      exact hs'.apart e0 h0 e0' h0' (fun hh => hne (congrArg σ hh)) L L' ((hρσ _ _ (hlt e0 h0)).symm.trans hL) ((hρσ _ _ (hlt e0' h0')).symm.trans hL') hp hp'
    · show (match τ l with | some i => ρ0' i u | none => ρ l u) = none
      cases ht : τ l with
      | none => exact hs.fresh l u (Nat.le_trans hle hl2)
      | some i =>
        obtain ⟨hi, rfl⟩ := στ l i ht
        exfalso
        rcases Nat.lt_or_ge i k with hik | hik
        · have := h1 i hik; omega
        · have := h3 i hik hi; omega
    · obtain ⟨e0, h0, rfl⟩ := mem_renH.1 he
      exact (hρσ _ _ (hlt e0 h0)).trans (hs'.vers e0 h0 u hu)
  · refine ⟨hv'.os, hv'.tape, hv'.output, hv'.drawn, hv'.size, fun b hb hn => hv'.keep b hb fun k => hn ((hown b).1 k), fun b hb => ?_, fun l u L hL => ?_, fun l u L hL => ?_, fun e he => ?_, hle⟩
    · exact (hv'.own b ((hown' b).1 hb)).imp (hown b).1 id
    · show (match τ l with | some i => ρ0' i u | none => ρ l u) = some L
      cases ht : τ l with
      | none => exact hL
      | some i =>
        obtain ⟨hi, rfl⟩ := στ l i ht
        exact hv'.name i u L hL
    · change (match τ l with | some i => ρ0' i u | none => ρ l u) = some L at hL
      cases ht : τ l with
      | none => rw [ht] at hL; exact .inl hL
      | some i =>
        rw [ht] at hL
        obtain ⟨hi, rfl⟩ := στ l i ht
        rcases hv'.newn i u L hL with k1 | ⟨e0, h0, rfl⟩ | k1
        · exact .inl k1
        · exact .inr (.inl ⟨renE σ e0, mem_renH.2 ⟨e0, h0, rfl⟩, rfl⟩)
        · exact .inr (.inr (h2 i k1))
    · obtain ⟨e0, h0, rfl⟩ := mem_renH.1 he
      rcases hv'.ids e0 h0 with ⟨e1, h1, h4⟩ | k1
      · exact .inl ⟨renE σ e1, mem_renH.2 ⟨e1, h1, rfl⟩, congrArg σ h4⟩
      · exact .inr (h2 _ k1)

mutual
theorem ren_nl (σ : Nat → Nat) : ∀ x, nl x = true → ren σ x = x
  | .ptr .., h => by simp [nl] at h
  | .sl .., h => by simp [nl] at h
  | .mp _, h => by simp [nl] at h
  | .it _, h => by simp [nl] at h
  | .fn _ cs, h => by simp only [nl] at h; simp only [ren, rens_nl σ cs h]
  | .agg cs, h => by simp only [nl] at h; simp only [ren, rens_nl σ cs h]
  | .tup cs, h => by simp only [nl] at h; simp only [ren, rens_nl σ cs h]
  | .b _, _ => rfl
  | .i _ _, _ => rfl
  | .s _, _ => rfl
  | .nilP, _ => rfl
  | .dptr _, _ => rfl
  | .nilS, _ => rfl
  | .dsl _ _, _ => rfl
  | .nilM, _ => rfl
theorem rens_nl (σ : Nat → Nat) : ∀ xs, nls xs = true → rens σ xs = xs
  | [], _ => rfl
  | x :: xs, h => by simp only [nls, Bool.and_eq_true] at h; simp only [rens, ren_nl σ x h.1, rens_nl σ xs h.2]
end

/-- A contract without names, at any number of names. -/
theorem CP.use {P f args v} (h : CP P f args v) (ha : nls args = true) (hv : nl v = true) (nx : Nat) : C P f nx args [] v [] nx := by
  have := C.use h (fun i => i + nx) nx nx (Nat.le_refl _) (by simp) (by intro i j hi; omega) (by intro i hi; omega) (by intro i _; omega) (by intro i _ hi; omega) (Nat.le_refl _)
  rwa [rens_nl _ _ ha, ren_nl _ _ hv] at this

end Go.L1
