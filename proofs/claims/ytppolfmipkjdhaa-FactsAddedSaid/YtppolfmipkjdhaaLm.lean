import Derived.Test.YtppolfmipkjdhaaLl
/-! L1, part m: append and calls as steps; owned memory let go, frozen. -/
set_option linter.all false
namespace Go.L1
open Go.RowKit
variable [Zero Prop]

section
variable {P : Program} {tys : Nat → TI} {T : Env} {o : Oper}

/-- The rows that an append's second operand brings. -/
def srcV (H : Heap) (sz : Nat) : V → Option (Prop × List (List V))
  | .dsl s els => if s = sz then some (True, els) else none
  | .s x => if sz = 1 then some (True, byteEls x) else none
  | .nilS => some (True, [])
  | .sl l u j n s => if s = sz then
      match hget H l u with
      | some (.row _ els) => some (j + n ≤ els.length, (els.drop j).take n)
      | _ => none
    else none
  | _ => none

theorem srcV_sound {F ρ H nx w} (hs : St F ρ H nx w) {sz : Nat} {v : V} {x : Value} {p : Prop} {xs : List (List V)} (h : srcV H sz v = some (p, xs)) (hp : p) (hR : R (ctx F ρ H w) v x) :
    ∃ news, Src P w sz x xs.length news ∧ Rs (ctx F ρ H w) (flat xs) news ∧ ∀ el ∈ xs, el.length = sz := by
  unfold srcV at h
  split at h
  · split at h
    · rename_i hsz
      simp only [Option.some.injEq, Prod.mk.injEq] at h
      obtain ⟨_, rfl⟩ := h
      subst hsz
      obtain ⟨news, h1, h2, h3⟩ := src_dsl (P := P) hR
      refine ⟨news, h1, h2, ?_⟩
      rcases h3 with rfl | h3
      · simp
      · exact h3
    · cases h
  · split at h
    · rename_i hsz
      simp only [Option.some.injEq, Prod.mk.injEq] at h
      obtain ⟨_, rfl⟩ := h
      subst hsz
      obtain ⟨news, h1, h2, h3⟩ := src_str (P := P) hR
      rw [byteEls_length]
      exact ⟨news, h1, h2, h3⟩
    · cases h
  · simp only [Option.some.injEq, Prod.mk.injEq] at h
    obtain ⟨_, rfl⟩ := h
    simp only [R] at hR
    subst hR
    exact ⟨[], src_nil, by simp [flat, Rs], by simp⟩
  · split at h
    · rename_i hsz
      subst hsz
      split at h
      · rename_i hg
        simp only [Option.some.injEq, Prod.mk.injEq] at h
        obtain ⟨rfl, rfl⟩ := h
        obtain ⟨news, h1, h2, h3⟩ := src_own (P := P) hs hR hg hp
        refine ⟨news, ?_, h2, h3⟩
        rw [List.length_take, List.length_drop, Nat.min_eq_left (by omega)]
        exact h1
      · cases h
    · cases h
  · cases h

theorem St.drew {F ρ H nx w} (hs : St F ρ H nx w) : Evo ρ H nx w ρ H nx w.drew ∧ St F ρ H nx w.drew :=
  Evo.grow hs rfl rfl rfl (by show w.drawn ≤ w.drawn + 1; omega) (Nat.le_refl _) fun _ _ => rfl

theorem h_append (hT : Sig P tys) {t t2 e : Nat} {s x : Operand} {l u n sz : Nat} {v : V} {p : Prop} {H : Heap} {els xs : List (List V)} {args : Array Operand} {argTypes : Array TypeId}
    (ho : o.op = .call { callee := .builtin .append, args, argTypes }) (ha : args.toList = [s, x]) (hat : argTypes.toList = [t, t2])
    (hs : ev T s = some (.sl l u 0 n sz)) (hx : ev T x = some v) (ht : (tys t).k = .slice e) (he : (tys e).k ≠ .other) (hz0 : (tys e).size ≠ 0) (hsz : (tys e).size = sz) (ht2 : (∃ e2, (tys t2).k = .slice e2) ∨ (tys t2).k = .str)
    (hg : hget H l u = some (.row e els)) (hn : els.length = n) (hv : srcV H sz v = some (p, xs)) (hp : p) (h63 : n + xs.length ≤ maxLen) (hby : (n + xs.length) * (tys e).bytes ≤ 140737488355328) (nx : Nat) :
    HStep P o T H nx (.sl l (u + 1) 0 (n + xs.length) sz) (hput H l (u + 1) (.row e (els ++ xs))) nx := by
  have ha' : args = #[s, x] := by apply Array.ext'; simpa using ha
  have hat' : argTypes = #[t, t2] := by apply Array.ext'; simpa using hat
  subst ha' hat' hsz
  intro F ρ w a hst hh next Q k
  have g1 := ev_R hh hs (fun t ht => mem_tmpsOf (x := s) (by simp [ho, Op.operands, Call.operands]) ht)
  have g2 := ev_R hh hx (fun t ht => mem_tmpsOf (x := x) (by simp [ho, Op.operands, Call.operands]) ht)
  obtain ⟨news, hsrc, hxr, hxl⟩ := srcV_sound (P := P) hst hv hp g2
  simp only [R] at g1
  obtain ⟨L, b, cap, hL, hLz, hev, hnc, hcm, hc⟩ := g1
  obtain ⟨L', hL', hF, hB⟩ := hst.rel _ (hget_mem hg)
  obtain rfl := Option.some.inj (hL.symm.trans hL')
  have hel : ∀ el ∈ els, el.length = (tys e).size := fun el h => by
    rw [← hLz]
    exact (hB.2.2.2.2.2.2.read).1 el h
  have hb : (cap = 0 ∧ n = 0) ∨ ∃ g cur, 0 < cap ∧ b = some ⟨g, 0, none⟩ ∧ w.heap[g]? = some (.cells cur e (0, 0)) ∧ cur.size = cap * (tys e).size ∧ n ≤ cap ∧ cap ≤ maxLen ∧ Rs (ctx F ρ H w) (flat els) (cur.toList.take (n * (tys e).size)) := by
    rcases hc with rfl | ⟨rfl, hcap⟩
    · exact .inl ⟨rfl, by omega⟩
    · rcases Nat.eq_zero_or_pos cap with h0 | hpos
      · exact .inl ⟨h0, by omega⟩
      · rw [Nat.zero_add] at hcap
        obtain ⟨cur, h1, h2, h3, h4, h5, h6, h7, h8, h9⟩ := hB.open_row (by omega)
        exact .inr ⟨L.blk, cur, hpos, by rw [h3, Nat.zero_mul], h1, by rw [h2, hLz, hcap], hnc, hcm, by rw [← hn, ← hLz]; exact h9⟩
  obtain ⟨b', cap', w', hrun, hres⟩ := append_step (P := P) (ty := o.type) hT ht he hz0 ht2 hst hsrc hxr hxl rfl h63 hby hn hel hb
  have hop : (execOp a.eval o).run P w = .ok (.value (.slice b' (n + xs.length) cap')) w' := by
    simp only [execOp, ho, resolve, invoke, builtin, Sem.run_bind, Sem.run_pure, Result.andThen_ok, List.map_toArray, List.map_cons, List.map_nil, hev, hrun]
  have hm := hget_mem hg
  have hids : ((hput H l (u + 1) (.row e (els ++ xs))).map (·.1)).Nodup := by rw [hput_ids]; exact hst.ids
  have hmem := fun e0 => hput_mem (u := u + 1) (b := Blk.row e (els ++ xs)) hst.ids ⟨_, hm, rfl⟩ e0
  have hnone : ρ l (u + 1) = none := hst.vers _ hm _ (by simp)
  have hvers : ∀ v, u + 1 < v → ρ l v = none := fun v hv => hst.vers _ hm _ (by simp; omega)
  have hall : ∀ el ∈ els ++ xs, el.length = (tys e).size := fun el h => by
    rcases List.mem_append.1 h with h | h
    · exact hel el h
    · exact hxl el h
  have hcount : (els ++ xs).length = n + xs.length := by rw [List.length_append, hn]
  unfold Oper.wp
  rw [hop]
  rcases hres with ⟨rfl, rfl, h0⟩ | ⟨g, cur', hpos, hbg, rfl, rfl, hroom, hgn, rfl, hg', hcs', hrs⟩ | ⟨cur', rfl, hroom, hcm', rfl, hcs', hrs⟩
  · have he0 : els = [] := List.eq_nil_of_length_eq_zero (by omega)
    have hx0 : xs = [] := List.eq_nil_of_length_eq_zero (by omega)
    have := hst.upd (L' := ⟨0, 0, (tys e).size, 0, e⟩) (w' := w') hmem hids (.inr hnone) hvers (Nat.le_refl _) (hst.lt hm) (fun _ => ⟨_, hm, rfl⟩) rfl rfl rfl (Nat.le_refl _) (Nat.le_refl _) (fun _ _ _ => rfl)
      (fun h => absurd h (Nat.lt_irrefl _)) (fun _ => ⟨rfl, rfl, by show 0 < (tys e).size; omega, by rw [hcount]; show _ ≤ 0; omega, by unfold maxLen; show 0 ≤ _; omega, fun h => absurd h (Nat.lt_irrefl _), by subst he0 hx0; trivial⟩)
    refine k _ _ _ this.1 this.2 ?_
    simp only [R]
    exact ⟨⟨0, 0, (tys e).size, 0, e⟩, b', 0, by simp [ctx, nset], rfl, rfl, by omega, by unfold maxLen; omega, .inl rfl⟩
  · -- in place
    rcases hc with hc0 | ⟨hbe, hcap⟩
    · omega
    · rw [Nat.zero_add] at hcap
      have hbase : L.base = 0 := hB.2.1
      have hgl : g = L.blk := by
        have := hbg.symm.trans hbe
        simp at this
        exact this.1
      subst hgl
      have := hst.upd (L' := L) (w' := w.setRow L.blk cur') hmem hids (.inr hnone) hvers (Nat.le_refl _) (hst.lt hm) (fun _ => ⟨_, hm, rfl⟩) rfl rfl rfl (Nat.le_refl _) (by simp)
        (fun bb _ hbb => setRow_other w L.blk bb _ fun hh => hbb _ hm rfl L hL (by omega) hh.symm)
        (fun hpos => .inr ⟨_, hm, rfl, L, hL, hpos, rfl⟩) (fun hla => BlkRel.shut_row (cur := cur') hg' (by rw [hcs', ← hcap, hLz]) hbase (by rw [hLz]; omega) (by rw [hcount]; omega) (by rw [← hcap]; exact hcm) hB.1
          (by rw [hLz]; exact hall) (by rw [hcount, hLz]; exact hrs _ hla))
      refine k _ _ _ this.1 this.2 ?_
      simp only [R]
      exact ⟨L, b', cap', by simp [ctx, nset], hLz, rfl, hroom, hcm, .inr ⟨hbe, by omega⟩⟩
  · obtain ⟨hv1, hs1⟩ := hst.drew
    have := hs1.upd (L' := ⟨w.heap.size, 0, (tys e).size, cap', e⟩) (w' := w.drew.alloc (.cells cur' e)) (l := l) (u' := u + 1) (blk' := .row e (els ++ xs)) (nx' := nx) hmem hids (.inr hnone) hvers (Nat.le_refl _) (hst.lt hm) (fun _ => ⟨_, hm, rfl⟩) rfl rfl rfl (Nat.le_refl _)
      (by show w.heap.size ≤ (w.heap.push _).size; simp) (fun bb hbb _ => Below.heap_alloc w.drew _ bb hbb)
      (fun _ => .inl ⟨Nat.le_refl _, by show w.heap.size < (w.heap.push _).size; simp⟩)
      (fun hla => BlkRel.shut_row (cur := cur') (by show (w.heap.push _)[w.heap.size]? = _; simp) hcs' rfl (by show 0 < (tys e).size; omega) (by rw [hcount]; exact hroom) hcm' rfl hall (by rw [hcount]; exact hrs _ (hv1.lasts.trans hla)))
    refine k _ _ _ this.1 (hv1.trans this.2) ?_
    simp only [R]
    exact ⟨⟨w.heap.size, 0, (tys e).size, cap', e⟩, _, cap', by simp [ctx, nset], rfl, rfl, hroom, hcm', .inr ⟨by simp, by simp⟩⟩

/-- append onto nil. -/
theorem h_append_nil (hT : Sig P tys) {t t2 e : Nat} {s x : Operand} {v : V} {p : Prop} {H : Heap} {xs : List (List V)} {args : Array Operand} {argTypes : Array TypeId}
    (ho : o.op = .call { callee := .builtin .append, args, argTypes }) (ha : args.toList = [s, x]) (hat : argTypes.toList = [t, t2])
    (hs : ev T s = some .nilS) (hx : ev T x = some v) (ht : (tys t).k = .slice e) (he : (tys e).k ≠ .other) (hz0 : (tys e).size ≠ 0) (ht2 : (∃ e2, (tys t2).k = .slice e2) ∨ (tys t2).k = .str)
    (hv : srcV H (tys e).size v = some (p, xs)) (hp : p) (h63 : xs.length ≤ maxLen) (hby : xs.length * (tys e).bytes ≤ 140737488355328) (nx : Nat) :
    HStep P o T H nx (.sl nx 0 0 xs.length (tys e).size) ((nx, 0, .row e xs) :: H) (nx + 1) := by
  have ha' : args = #[s, x] := by apply Array.ext'; simpa using ha
  have hat' : argTypes = #[t, t2] := by apply Array.ext'; simpa using hat
  subst ha' hat'
  intro F ρ w a hst hh next Q k
  have g1 := ev_R hh hs (fun t ht => mem_tmpsOf (x := s) (by simp [ho, Op.operands, Call.operands]) ht)
  have g2 := ev_R hh hx (fun t ht => mem_tmpsOf (x := x) (by simp [ho, Op.operands, Call.operands]) ht)
  obtain ⟨news, hsrc, hxr, hxl⟩ := srcV_sound (P := P) hst hv hp g2
  simp only [R] at g1
  obtain ⟨b', cap', w', hrun, hres⟩ := append_step (P := P) (ty := o.type) (n := 0) (els := []) (b := none) (cap := 0) hT ht he hz0 ht2 hst hsrc hxr hxl rfl (by omega) (by simpa using hby) rfl (by simp) (.inl ⟨rfl, rfl⟩)
  have hop : (execOp a.eval o).run P w = .ok (.value (.slice b' (0 + xs.length) cap')) w' := by
    simp only [execOp, ho, resolve, invoke, builtin, Sem.run_bind, Sem.run_pure, Result.andThen_ok, List.map_toArray, List.map_cons, List.map_nil, g1, hrun]
  rw [Nat.zero_add] at hop hres
  have hmem : ∀ e0, e0 ∈ ((nx, 0, Blk.row e xs) :: H : Heap) ↔ (e0 = (nx, 0, .row e xs) ∨ (e0 ∈ H ∧ e0.1 ≠ nx)) := fun e0 => by
    simp only [List.mem_cons]
    constructor
    · rintro (h | h)
      · exact .inl h
      · exact .inr ⟨h, fun hh => by have := hst.lt h; omega⟩
    · rintro (h | h)
      · exact .inl h
      · exact .inr h.1
  have hids : (((nx, 0, Blk.row e xs) :: H : Heap).map (·.1)).Nodup := by
    simp only [List.map_cons, List.nodup_cons, List.mem_map, not_exists, not_and]
    exact ⟨fun e he hh => by have := hst.lt he; omega, hst.ids⟩
  have hnone : ∀ u, ρ nx u = none := fun u => hst.fresh _ _ (Nat.le_refl _)
  unfold Oper.wp
  rw [hop]
  rcases hres with ⟨rfl, rfl, h0⟩ | ⟨g, cur', hpos, _⟩ | ⟨cur', rfl, hroom, hcm', rfl, hcs', hrs⟩
  · have hx0 : xs = [] := List.eq_nil_of_length_eq_zero (by omega)
    have := hst.upd (L' := ⟨0, 0, (tys e).size, 0, e⟩) (w' := w') hmem hids (.inr (hnone _)) (fun u _ => hnone u) (Nat.le_succ nx) (Nat.lt_succ_self nx) (fun h => absurd h (Nat.lt_irrefl _)) rfl rfl rfl (Nat.le_refl _) (Nat.le_refl _) (fun _ _ _ => rfl)
      (fun h => absurd h (Nat.lt_irrefl _)) (fun _ => ⟨rfl, rfl, by show 0 < (tys e).size; omega, by show _ ≤ 0; omega, by unfold maxLen; show 0 ≤ _; omega, fun h => absurd h (Nat.lt_irrefl _), by subst hx0; trivial⟩)
    refine k _ _ _ this.1 this.2 ?_
    simp only [R]
    exact ⟨⟨0, 0, (tys e).size, 0, e⟩, b', 0, by simp [ctx, nset], rfl, rfl, by omega, by unfold maxLen; omega, .inl rfl⟩
  · omega
  · obtain ⟨hv1, hs1⟩ := hst.drew
    have := hs1.upd (L' := ⟨w.heap.size, 0, (tys e).size, cap', e⟩) (w' := w.drew.alloc (.cells cur' e)) (nx' := nx + 1) hmem hids (.inr (hnone _)) (fun u _ => hnone u) (Nat.le_succ nx) (Nat.lt_succ_self nx) (fun h => absurd h (Nat.lt_irrefl _)) rfl rfl rfl (Nat.le_refl _)
      (by show w.heap.size ≤ (w.heap.push _).size; simp) (fun bb hbb _ => Below.heap_alloc w.drew _ bb hbb)
      (fun _ => .inl ⟨Nat.le_refl _, by show w.heap.size < (w.heap.push _).size; simp⟩)
      (fun hla => BlkRel.shut_row (cur := cur') (by show (w.heap.push _)[w.heap.size]? = _; simp) hcs' rfl (by show 0 < (tys e).size; omega) hroom hcm' rfl hxl (by simpa using hrs _ (hv1.lasts.trans hla)))
    refine k _ _ _ this.1 (hv1.trans this.2) ?_
    simp only [R]
    exact ⟨⟨w.heap.size, 0, (tys e).size, cap', e⟩, _, cap', by simp [ctx, nset], rfl, rfl, hroom, hcm', .inr ⟨by simp, by simp⟩⟩

/-- A call, by its contract. -/
theorem h_call {f : Operand} {fid : Nat} {cap vs : List V} {args : Array Operand} {argTypes : Array TypeId} {H H1 H2 H1' : Heap} {nx nx' : Nat} {v : V} (ho : o.op = .call { callee := .value f, args, argTypes })
    (hf : ev T f = some (.fn fid cap)) (hx : evs T args.toList = some vs) (hp : H.Perm (H1 ++ H2)) (hC : C P fid nx (vs ++ cap) H1 v H1' nx') : HStep P o T H nx v (H1' ++ H2) nx' := by
  intro F ρ w a hst hh next Q k
  have g1 := ev_R hh hf (fun t ht => mem_tmpsOf (x := f) (by simp [ho, Op.operands, Call.operands]) ht)
  have g2 := evs_R hh args.toList vs (fun x hx t ht => mem_tmpsOf (x := x) (by simp only [ho, Op.operands, Call.operands]; simp; exact .inr (by simpa using hx)) ht) hx
  simp only [R] at g1
  obtain ⟨caps, hev, hcaps⟩ := g1
  have hst' := (hst.perm hp)
  have hpart := hst'.part
  have hctx : ctx F ρ H w = ctx (fun b => F b ∨ owns ρ H2 b) ρ H1 w := by rw [ctx_perm hp, ctx_part]
  have hargs : Rt (ctx (fun b => F b ∨ owns ρ H2 b) ρ H1 w) (vs ++ cap) (args.toList.map a.eval ++ caps.toList) := by
    rw [← hctx]; exact g2.append hcaps.toRt
  have hcall := hC.2 _ _ _ _ hpart hargs
  have hop : (execOp a.eval o).run P w = .ok (.enter fid (args.map a.eval ++ caps)) w := by
    simp only [execOp, ho, resolve, hev, Deferred.ofValue, Sem.run_bind, Sem.run_pure, Result.andThen_ok, invoke, Array.empty_append, hC.1 _ _]
  have hargs2 : (args.toList.map a.eval ++ caps.toList).toArray = args.map a.eval ++ caps := by
    apply Array.ext'; simp
  unfold Oper.wp
  rw [hop, Oper.upon_enter, ← hargs2]
  refine hcall.mono ?_
  rintro e w' ⟨v', ρ', rfl, h1, h2, h3⟩
  have hw := hst'.whole h1 h2
  have he := h2.whole (H2 := H2) (fun e he => let ⟨L, hL, _⟩ := hst'.rel e (List.mem_append.2 (.inr he)); ⟨L, hL⟩)
  refine k ρ' v' w' hw (he.perm hp.symm (List.Perm.refl _)) ?_
  have hctx2 : ctx F ρ' (H1' ++ H2) w' = ctx (fun b => F b ∨ owns ρ' H2 b) ρ' H1' w' := ctx_part.symm
  rw [hctx2]
  refine R.lasts (c := ctx (fun b => F b ∨ owns ρ H2 b) ρ' H1' w') (c' := ctx (fun b => F b ∨ owns ρ' H2 b) ρ' H1' w') ⟨fun b o x hc ho => ⟨hc, ?_⟩, fun _ _ _ h => h⟩ _ _ h3
  simp only [ctx] at ho ⊢
  rintro ((k1 | k1) | k1)
  · exact ho (.inl (.inl k1))
  · obtain ⟨e, he, L, hL, hpos, hb⟩ := k1
    obtain ⟨L', hL', _⟩ := hst'.rel e (List.mem_append.2 (.inr he))
    obtain rfl := Option.some.inj (hL.symm.trans (h2.name _ _ _ hL'))
    exact ho (.inl (.inr ⟨e, he, L, hL', hpos, hb⟩))
  · exact ho (.inr k1)

/-- A call that touches nothing that is owned. -/
theorem p_call {f : Operand} {fid : Nat} {cap vs : List V} {args : Array Operand} {argTypes : Array TypeId} {v : V} (ho : o.op = .call { callee := .value f, args, argTypes })
    (hf : ev T f = some (.fn fid cap)) (hx : evs T args.toList = some vs) (hC : ∀ nx, C P fid nx (vs ++ cap) [] v [] nx) : PStep P o T v := by
  intro F ρ H nx w a hst hh next Q k
  have g1 := ev_R hh hf (fun t ht => mem_tmpsOf (x := f) (by simp [ho, Op.operands, Call.operands]) ht)
  have g2 := evs_R hh args.toList vs (fun x hx t ht => mem_tmpsOf (x := x) (by simp only [ho, Op.operands, Call.operands]; simp; exact .inr (by simpa using hx)) ht) hx
  simp only [R] at g1
  obtain ⟨caps, hev, hcaps⟩ := g1
  have hst' : St F ρ ([] ++ H) nx w := hst
  have hpart := hst'.part
  have hctx : ctx F ρ H w = ctx (fun b => F b ∨ owns ρ H b) ρ [] w := (ctx_part (H1 := []) (H2 := H)).symm
  have hargs : Rt (ctx (fun b => F b ∨ owns ρ H b) ρ [] w) (vs ++ cap) (args.toList.map a.eval ++ caps.toList) := by
    rw [← hctx]; exact g2.append hcaps.toRt
  have hcall := (hC nx).2 _ _ _ _ hpart hargs
  have hop : (execOp a.eval o).run P w = .ok (.enter fid (args.map a.eval ++ caps)) w := by
    simp only [execOp, ho, resolve, hev, Deferred.ofValue, Sem.run_bind, Sem.run_pure, Result.andThen_ok, invoke, Array.empty_append, (hC nx).1 _ _]
  have hargs2 : (args.toList.map a.eval ++ caps.toList).toArray = args.map a.eval ++ caps := by
    apply Array.ext'; simp
  unfold Oper.wp
  rw [hop, Oper.upon_enter, ← hargs2]
  refine hcall.mono ?_
  rintro e w' ⟨v', ρ', rfl, h1, h2, h3⟩
  have hρ : ρ' = ρ := by
    funext l u
    cases hr : ρ' l u with
    | none =>
      cases hr2 : ρ l u with
      | none => rfl
      | some L => rw [h2.name _ _ _ hr2] at hr; cases hr
    | some L =>
      rcases h2.newn _ _ _ hr with h | ⟨e, he, rfl⟩ | h
      · exact h.symm
      · cases he
      · rw [h1.fresh _ _ h] at hr; cases hr
  subst hρ
  have hw := hst'.whole h1 h2
  have he := h2.whole (H2 := H) (fun e he => let ⟨L, hL, _⟩ := hst.rel e he; ⟨L, hL⟩)
  refine k v' w' hw he ?_
  have : ctx F ρ' H w' = ctx (fun b => F b ∨ owns ρ' H b) ρ' [] w' := (ctx_part (H1 := []) (H2 := H)).symm
  rw [this]; exact h3

end
end Go.L1
