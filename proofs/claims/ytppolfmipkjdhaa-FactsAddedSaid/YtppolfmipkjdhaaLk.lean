import Derived.Test.YtppolfmipkjdhaaLj
/-! L1, part k: the operations that touch what is owned. -/
set_option linter.all false
namespace Go.L1
open Go.RowKit
variable [Zero Prop]

section
variable {P : Program} {tys : Nat → TI} {T : Env} {o : Oper}

theorem St.newRow {F ρ H nx w} (hs : St F ρ H nx w) {e sz cap : Nat} {els : List (List V)} {cur : Array Value} (hsz : 0 < sz) (hcs : cur.size = cap * sz) (hle : els.length ≤ cap) (hm : cap ≤ maxLen)
    (hl : ∀ el ∈ els, el.length = sz) (hr : Rs (ctx F ρ H w) (flat els) (cur.toList.take (els.length * sz))) :
    St F (nset ρ nx 0 ⟨w.heap.size, 0, sz, cap, e⟩) ((nx, 0, .row e els) :: H) (nx + 1) (w.alloc (.cells cur e)) ∧
      Evo ρ H nx w (nset ρ nx 0 ⟨w.heap.size, 0, sz, cap, e⟩) ((nx, 0, .row e els) :: H) (nx + 1) (w.alloc (.cells cur e)) :=
  hs.new rfl fun hla => BlkRel.shut_row (cur := cur) (by show (w.heap.push _)[w.heap.size]? = _; simp) hcs rfl hsz hle hm rfl hl (Rs.lasts hla _ _ hr)

theorem h_alloc (hT : Sig P tys) {t : Nat} (ho : o.op = .alloc t) (hk : (tys t).k ≠ .other) (hz : (tys t).size ≠ 0) (H : Heap) (nx : Nat) : HStep P o T H nx (.ptr nx 0 0 0) ((nx, 0, .row t [(tys t).zero]) :: H) (nx + 1) := by
  intro F ρ w a hs hh next Q k
  obtain ⟨z, hzr, hz1, hz2⟩ := sig_zero hT hk (ctx F ρ H w)
  have hlen : (tys t).zero.length = (tys t).size := by have := hz1.length; simpa [hz2] using this
  have := hs.newRow (e := t) (sz := (tys t).size) (cap := 1) (els := [(tys t).zero]) (cur := z.cells) (by omega) (by rw [hz2, Nat.one_mul]) (by simp) (by unfold maxLen; omega)
    (by simpa using hlen) (by simp only [flat, List.append_nil, List.length_singleton, Nat.one_mul, ← hz2]; rw [List.take_of_length_le (by simp)]; exact hz1)
  have hrun : (execOp a.eval o).run P w = .ok (.value (.pointer (some ⟨w.heap.size, 0, none⟩))) (w.alloc (.cells z.cells t)) := by
    simp only [execOp, ho, Instr.alloc, newVar, newRow, Sem.run_bind, hzr, run_newObj, Result.andThen_ok, Sem.run_pure]
    rfl
  unfold Oper.wp
  rw [hrun]
  refine k _ _ _ this.1 this.2 ?_
  simp only [R]
  exact ⟨⟨w.heap.size, 0, (tys t).size, 1, t⟩, by simp [ctx, nset], by simp⟩

theorem h_box {t : Nat} {x : Operand} {v : V} {cs : List V} (ho : o.op = .box t x) (hx : ev T x = some v) (hc : v.cells = some cs) (hne : cs ≠ []) (H : Heap) (nx : Nat) :
    HStep P o T H nx (.ptr nx 0 0 0) ((nx, 0, .row t [cs]) :: H) (nx + 1) := by
  intro F ρ w a hs hh next Q k
  have g1 := ev_R hh hx (fun t ht => mem_tmpsOf (x := x) (by simp [ho, Op.operands]) ht)
  have g2 := R.cells g1 hc
  have hl := g2.length
  have h0 : 0 < cs.length := List.length_pos_iff.2 hne
  have := hs.newRow (e := t) (sz := cs.length) (cap := 1) (els := [cs]) (cur := (a.eval x).cells) h0 (by rw [Nat.one_mul, hl]; simp) (by simp) (by unfold maxLen; omega)
    (by simp) (by simp only [flat, List.append_nil, List.length_singleton, Nat.one_mul, hl]; rw [List.take_of_length_le (Nat.le_refl _)]; exact g2)
  have hrun : (execOp a.eval o).run P w = .ok (.value (.pointer (some ⟨w.heap.size, 0, none⟩))) (w.alloc (.cells (a.eval x).cells t)) := by
    simp only [execOp, ho, Instr.box, newVar, newRow, Sem.run_bind, run_newObj, Result.andThen_ok, Sem.run_pure]
    rfl
  unfold Oper.wp
  rw [hrun]
  refine k _ _ _ this.1 this.2 ?_
  simp only [R]
  exact ⟨⟨w.heap.size, 0, cs.length, 1, t⟩, by simp [ctx, nset], by simp⟩

theorem OEls.at {c : Ctx} {sz : Nat} : ∀ {els : List (List V)} {b f i : Nat} {el : List V}, OEls c sz els b f → els[i]? = some el → el.length = sz ∧ OCells c el b (f + i * sz)
  | [], _, _, _, _, _, h => by simp at h
  | y :: xs, b, f, i, el, r, h => by
    obtain ⟨r1, r2, rr⟩ := r
    cases i with
    | zero => simp at h; subst h; simpa using ⟨r1, r2⟩
    | succ i =>
      have := OEls.at rr (i := i) (by simpa using h)
      rwa [show f + sz + i * sz = f + (i + 1) * sz from by rw [Nat.add_mul]; omega] at this

/-- An element of an owned row, read. -/
theorem St.elem {F ρ H nx w} (hs : St F ρ H nx w) {l u e j : Nat} {els : List (List V)} {el : List V} {L : Loc} (hg : hget H l u = some (.row e els)) (hL : ρ l u = some L) (hj : els[j]? = some el) :
    0 < L.cap ∧ el.length = L.sz ∧ ∃ us, Rs (ctx F ρ H w) el us ∧ ∀ i v, us[i]? = some v → w.cell? ⟨L.blk, L.base + j * L.sz + i, none⟩ = some v := by
  obtain ⟨L', hL', hF, hB⟩ := hs.rel _ (hget_mem hg)
  obtain rfl := Option.some.inj (hL.symm.trans hL')
  obtain ⟨_, _, _, h3, _, _, h6⟩ := hB
  have hlt : j < els.length := (List.getElem?_eq_some_iff.1 hj).1
  obtain ⟨h7, h8⟩ := h6.at hj
  obtain ⟨us, h9, h10⟩ := h8.read
  exact ⟨by omega, h7, us, h9, h10⟩

theorem h_load (hT : Sig P tys) {t : Nat} {x : Operand} {l u j f e : Nat} {H : Heap} {els : List (List V)} {el : List V} {v : V} (ho : o.op = .load t x) (hx : ev T x = some (.ptr l u j f)) (hg : hget H l u = some (.row e els)) (hj : els[j]? = some el)
    (hk : (tys t).k ≠ .other)
    (hv : (isAggK (tys t).k = true ∧ f + (tys t).size ≤ el.length ∧ v = .agg ((el.drop f).take (tys t).size)) ∨ (isAggK (tys t).k = false ∧ el[f]? = some v)) (nx : Nat) : HStep P o T H nx v H nx := by
  intro F ρ w a hs hh next Q k
  have g1 := ev_R hh hx (fun t ht => mem_tmpsOf (x := x) (by simp [ho, Op.operands]) ht)
  simp only [R] at g1
  obtain ⟨L, hL, he⟩ := g1
  obtain ⟨_, hlen, us, hr, hc⟩ := hs.elem hg hL hj
  have hlu := hr.length
  unfold Oper.wp
  rcases hv with ⟨ha, hl, rfl⟩ | ⟨ha, hg⟩
  · have hld := run_loadCells_list (P := P) (w := w) ⟨L.blk, L.base + j * L.sz + f, none⟩ ((us.drop f).take (tys t).size) (fun i v hi => by
      rw [add_at]
      rw [List.getElem?_take] at hi
      split at hi
      · rw [List.getElem?_drop] at hi
        have := hc _ v hi
        rwa [show L.base + j * L.sz + (f + i) = L.base + j * L.sz + f + i from by omega] at this
      · cases hi)
    rw [List.length_take, List.length_drop, Nat.min_eq_left (by omega)] at hld
    have hrun : (execOp a.eval o).run P w = .ok (.value (.agg ((us.drop f).take (tys t).size).toArray)) w := by
      simp [execOp, ho, he, Instr.loadAt, Instr.sureAddr, loadVar, sig_isAgg hT hk, ha, sig_size hT hk, hld]
    rw [hrun]
    refine k ρ _ w hs (Evo.refl _ _ _ _) ?_
    simp only [R]
    exact ⟨_, rfl, by simpa using (hr.drop f).take (tys t).size⟩
  · obtain ⟨y, hy, _, hR⟩ := hr.get hg
    have hcell := hc _ _ hy
    have hrun : (execOp a.eval o).run P w = .ok (.value y) w := by
      simp [execOp, ho, he, Instr.loadAt, Instr.sureAddr, loadVar, sig_isAgg hT hk, ha, hcell]
    rw [hrun]
    exact k ρ _ w hs (Evo.refl _ _ _ _) hR

theorem flat_store {sz f : Nat} {cs : List V} : ∀ {els : List (List V)} {j : Nat} {el : List V}, (∀ e ∈ els, e.length = sz) → els[j]? = some el → f + cs.length ≤ sz →
    flat (els.set j (el.take f ++ cs ++ el.drop (f + cs.length))) = (flat els).take (j * sz + f) ++ cs ++ (flat els).drop (j * sz + f + cs.length)
  | [], _, _, _, h, _ => by simp at h
  | x :: xs, 0, el, hl, h, hf => by
    simp at h; subst h
    have hx := hl x List.mem_cons_self
    simp only [List.set_cons_zero, flat, Nat.zero_mul, Nat.zero_add]
    rw [List.take_append_of_le_length (by omega), List.drop_append_of_le_length (by omega)]
    simp [List.append_assoc]
  | x :: xs, j + 1, el, hl, h, hf => by
    have hx := hl x List.mem_cons_self
    have ih := flat_store (els := xs) (j := j) (el := el) (fun e he => hl e (List.mem_cons_of_mem _ he)) (by simpa using h) hf
    have e1 : (j + 1) * sz + f = x.length + (j * sz + f) := by rw [Nat.add_mul, hx]; omega
    simp only [List.set_cons_succ, flat, ih, e1]
    rw [List.take_length_add_append, show x.length + (j * sz + f) + cs.length = x.length + (j * sz + f + cs.length) from by omega, List.drop_length_add_append]
    simp [List.append_assoc]

/-- Cells stored into an element of an owned row. -/
theorem St.stored {F ρ H nx w} (hs : St F ρ H nx w) {l u e j f : Nat} {els : List (List V)} {el cs : List V} {vs : List Value} {L : Loc} (hg : hget H l u = some (.row e els)) (hL : ρ l u = some L) (hj : els[j]? = some el)
    (hf : f + cs.length ≤ el.length) (hr : Rs (ctx F ρ H w) cs vs) :
    ∃ cur, w.heap[L.blk]? = some (.cells cur e (0, 0)) ∧ L.base + j * L.sz + f + vs.length ≤ cur.size ∧
      St F ρ (hput H l u (.row e (els.set j (el.take f ++ cs ++ el.drop (f + cs.length))))) nx (w.setRow L.blk (cur.toList.take (L.base + j * L.sz + f) ++ vs ++ cur.toList.drop (L.base + j * L.sz + f + vs.length)).toArray) ∧
      Evo ρ H nx w ρ (hput H l u (.row e (els.set j (el.take f ++ cs ++ el.drop (f + cs.length))))) nx (w.setRow L.blk (cur.toList.take (L.base + j * L.sz + f) ++ vs ++ cur.toList.drop (L.base + j * L.sz + f + vs.length)).toArray) := by
  obtain ⟨L', hL', hF, hB⟩ := hs.rel _ (hget_mem hg)
  obtain rfl := Option.some.inj (hL.symm.trans hL')
  obtain ⟨hp, hlen, _⟩ := hs.elem hg hL hj
  obtain ⟨cur, h1, h2, h3, h4, h5, h6, h7, h8, h9⟩ := hB.open_row hp
  have hjl : j < els.length := (List.getElem?_eq_some_iff.1 hj).1
  have hvl := hr.length
  have hmul : (j + 1) * L.sz ≤ els.length * L.sz := Nat.mul_le_mul_right _ hjl
  have hmul2 : els.length * L.sz ≤ L.cap * L.sz := Nat.mul_le_mul_right _ h5
  rw [Nat.add_mul, Nat.one_mul] at hmul
  refine ⟨cur, h1, by omega, ?_⟩
  refine hs.set hg hL hp rfl rfl rfl (Nat.le_refl _) (by simp) (fun b hb => setRow_other w L.blk b _ hb) fun hla => ?_
  have hk : j * L.sz + f = L.base + j * L.sz + f := by omega
  have hl2 : ∀ e' ∈ els.set j (el.take f ++ cs ++ el.drop (f + cs.length)), e'.length = L.sz := fun e' he' => by
    rcases List.mem_or_eq_of_mem_set he' with he' | rfl
    · exact h8 e' he'
    · simp; omega
  refine BlkRel.shut_row (cur := (cur.toList.take (L.base + j * L.sz + f) ++ vs ++ cur.toList.drop (L.base + j * L.sz + f + vs.length)).toArray) (setRow_heap w L.blk cur _ e (0, 0) h1) ?_ h3 h4 (by simpa using h5) h6 h7 hl2 ?_
  · simp; omega
  · rw [flat_store h8 hj (by omega), List.length_set, hk]
    have g := Rs.lasts hla _ _ h9
    have hr' := Rs.lasts hla _ _ hr
    have e1 : (cur.toList.take (L.base + j * L.sz + f) ++ vs ++ cur.toList.drop (L.base + j * L.sz + f + vs.length)).toArray.toList.take (els.length * L.sz) =
        (cur.toList.take (els.length * L.sz)).take (L.base + j * L.sz + f) ++ vs ++ (cur.toList.take (els.length * L.sz)).drop (L.base + j * L.sz + f + vs.length) := by
      simp only [List.take_take, Nat.min_eq_left (show L.base + j * L.sz + f ≤ els.length * L.sz by omega)]
      rw [List.take_append, List.take_of_length_le (by simp; omega)]
      congr 1
      have : (cur.toList.take (L.base + j * L.sz + f) ++ vs).length = L.base + j * L.sz + f + vs.length := by simp; omega
      rw [this, List.drop_take]
    rw [e1, show L.base + j * L.sz + f + cs.length = L.base + j * L.sz + f + vs.length from by rw [hvl]]
    exact ((g.take _).append hr').append (g.drop _)

theorem h_store (hT : Sig P tys) {t : Nat} {x y : Operand} {l u j f e : Nat} {H : Heap} {els : List (List V)} {el cs : List V} {v : V} (ho : o.op = .store t x y) (hx : ev T x = some (.ptr l u j f)) (hy : ev T y = some v) (hc : v.cells = some cs)
    (hg : hget H l u = some (.row e els)) (hj : els[j]? = some el) (hk : (tys t).k ≠ .other) (hsz : cs.length = (tys t).size) (hf : f + cs.length ≤ el.length) (nx : Nat) :
    HStep P o T H nx (.tup []) (hput H l u (.row e (els.set j (el.take f ++ cs ++ el.drop (f + cs.length))))) nx := by
  intro F ρ w a hs hh next Q k
  have g1 := ev_R hh hx (fun t ht => mem_tmpsOf (x := x) (by simp [ho, Op.operands]) ht)
  have g2 := ev_R hh hy (fun t ht => mem_tmpsOf (x := y) (by simp [ho, Op.operands]) ht)
  simp only [R] at g1
  obtain ⟨L, hL, he⟩ := g1
  have hr := R.cells g2 hc
  have hl := hr.length
  obtain ⟨cur, h1, h2, h3, h4⟩ := hs.stored hg hL hj hf hr
  have h1c : ∀ v ∈ (a.eval y).cells.toList, v.oneCell' = true := by
    have : ∀ {xs : List V} {us : List Value}, Rs (ctx F ρ H w) xs us → ∀ v ∈ us, v.oneCell' = true := by
      intro xs
      induction xs with
      | nil => intro us h v hv; simp only [Rs] at h; subst h; cases hv
      | cons x xs ih =>
        intro us h v hv
        simp only [Rs] at h
        obtain ⟨u, us', rfl, h1, _, h2⟩ := h
        rcases List.mem_cons.1 hv with rfl | hv
        · exact h1.oneCell
        · exact ih h2 v hv
    exact this hr
  have hst := run_storeCells_at P L.blk (L.base + j * L.sz + f) e (a.eval y).cells.toList 0 cur w h1 (by simpa using h2) h1c
  simp only [Nat.add_zero] at hst
  have hsz2 : (a.eval y).cells.size = (tys t).size := by rw [← hsz, hl]; simp
  have hrun : (execOp a.eval o).run P w = .ok .skip (w.setRow L.blk (cur.toList.take (L.base + j * L.sz + f) ++ (a.eval y).cells.toList ++ cur.toList.drop (L.base + j * L.sz + f + (a.eval y).cells.toList.length)).toArray) := by
    simp only [execOp, ho, he, Instr.storeAt, Instr.sureAddr, storeVar, Sem.run_bind, Sem.run_pure, Result.andThen_ok, sig_size hT hk, hsz2, ne_eq, not_true, if_false, hst]
  unfold Oper.wp
  rw [hrun]
  exact k ρ undef _ h3 h4 (by simp only [R, Rt]; exact ⟨#[], rfl, rfl⟩)

theorem h_makeMap {t : Nat} (ho : o.op = .makeMap t none) (H : Heap) (nx : Nat) : HStep P o T H nx (.mp nx) ((nx, 0, .map []) :: H) (nx + 1) := by
  intro F ρ w a hs hh next Q k
  have := hs.new (blk := .map []) (obj := .map #[] 0) (L := ⟨w.heap.size, 0, 0, 1, 0⟩) rfl fun hla => by
    refine ⟨rfl, #[], 0, ?_, rfl, by simp, by simp⟩
    show (w.heap.push _)[w.heap.size]? = _
    simp
  have hrun : (execOp a.eval o).run P w = .ok (.value (.map (some w.heap.size))) (w.alloc (.map #[] 0)) := by
    simp only [execOp, ho, Instr.makeMap, Option.map_none, Sem.run_bind, run_newObj, Result.andThen_ok, Sem.run_pure]
    rfl
  unfold Oper.wp
  rw [hrun]
  refine k _ _ _ this.1 this.2 ?_
  simp only [R]
  exact ⟨⟨w.heap.size, 0, 0, 1, 0⟩, by simp [ctx, nset], rfl⟩

/-- What a look-up tells. -/
def lookR (r : Option V) (zero : V) : Bool → V
  | true => .tup [r.getD zero, .b r.isSome]
  | false => r.getD zero

def findV (x : V) (es : List (V × V)) : Option V := (es.find? fun e => keyEq x e.1).map (·.2)

theorem findI_spec (x : V) : ∀ (es : List (V × V)) (i : Nat), match findI x es i with
    | none => es.find? (fun e => keyEq x e.1) = none
    | some j => i ≤ j ∧ ∃ e, es[j - i]? = some e ∧ keyEq x e.1 = true ∧ es.find? (fun e => keyEq x e.1) = some e
  | [], _ => rfl
  | e :: es, i => by
    simp only [findI]
    cases hq : keyEq x e.1
    · have ih := findI_spec x es (i + 1)
      rw [List.find?_cons, hq]
      change match findI x es (i + 1) with
        | none => es.find? (fun e => keyEq x e.1) = none
        | some j => i ≤ j ∧ ∃ e', (e :: es)[j - i]? = some e' ∧ keyEq x e'.1 = true ∧ es.find? (fun e => keyEq x e.1) = some e'
      cases hj : findI x es (i + 1) with
      | none => rw [hj] at ih; exact ih
      | some j =>
        rw [hj] at ih
        obtain ⟨h1, e', h2, h3⟩ := ih
        refine ⟨by omega, e', ?_, h3⟩
        rw [show j - i = (j - (i + 1)) + 1 from by omega]
        simpa using h2
    · change i ≤ i ∧ _
      exact ⟨Nat.le_refl _, e, by simp, hq, by rw [List.find?_cons, hq]⟩

theorem Ents.get {c : Ctx} : ∀ {es : List (V × V)} {ms : List MapEntry} {i : Nat} {e : V × V}, Ents c es ms → es[i]? = some e → ∃ m, ms[i]? = some m ∧ R c e.1 m.key ∧ R c e.2 m.val
  | [], _, _, _, _, h => by simp at h
  | y :: es, _, i, e, r, h => by
    obtain ⟨m, ms', rfl, h1, h2, h3⟩ := r
    cases i with
    | zero => simp at h; subst h; exact ⟨m, rfl, h1, h2⟩
    | succ i => simpa using Ents.get h3 (by simpa using h)

theorem St.map {F ρ H nx w} (hs : St F ρ H nx w) {l : Nat} {es : List (V × V)} {L : Loc} (hg : hget H l 0 = some (.map es)) (hL : ρ l 0 = some L) :
    L.cap = 1 ∧ ∃ ents clock, w.heap[L.blk]? = some (.map ents clock) ∧ Ents (ctx F ρ H w) es ents.toList ∧ (∀ m ∈ ents.toList, m.born < clock) ∧ (ents.toList.map (·.born)).Nodup := by
  obtain ⟨L', hL', hF, hB⟩ := hs.rel _ (hget_mem hg)
  obtain rfl := Option.some.inj (hL.symm.trans hL')
  exact hB

theorem h_lookup (hT : Sig P tys) {t kt et : Nat} {m k : Operand} {commaOk : Bool} {l : Nat} {x z : V} {H : Heap} {es : List (V × V)} (ho : o.op = .lookup t m k commaOk) (hm : ev T m = some (.mp l)) (hk : ev T k = some x)
    (ht : (tys t).k = .map kt et) (hg : hget H l 0 = some (.map es)) (hx : fits tys kt x = true) (hf : ∀ e ∈ es, fits tys kt e.1 = true) (het : (tys et).k ≠ .other)
    (hz : (isAggK (tys et).k = true ∧ z = .agg (tys et).zero) ∨ (isAggK (tys et).k = false ∧ (tys et).zero = [z])) (nx : Nat) :
    HStep P o T H nx (lookR (findV x es) z commaOk) H nx := by
  intro F ρ w a hs hh next Q kk
  have g1 := ev_R hh hm (fun t ht => mem_tmpsOf (x := m) (by simp [ho, Op.operands]) ht)
  have g2 := ev_R hh hk (fun t ht => mem_tmpsOf (x := k) (by simp [ho, Op.operands]) ht)
  simp only [R] at g1
  obtain ⟨L, hL, he⟩ := g1
  obtain ⟨_, ents, clock, h1, h2, _⟩ := hs.map hg hL
  obtain ⟨r, hr, hrm⟩ := findKey_run hT hx g2 w h2 hf
  have hspec := findI_spec x es 0
  obtain ⟨i, hi, his, _, z', hz1, hz2, hz3, hz4, hz5⟩ := (hT et het).size
  have hzero : ∀ w, (zeroValue et).run P w = .ok z' w := fun w => by simp [zeroValue, typeInfo, hi, hz1]
  have hzR : R (ctx F ρ H w) z z' := by
    have := constCs_R (ctx F ρ H w) _ _ hz2
    rcases hz with ⟨ha, rfl⟩ | ⟨ha, hz⟩
    · cases hkk : (tys et).k <;> rw [hkk] at ha <;> simp [isAggK] at ha
      obtain ⟨cs, rfl⟩ := hz3 _ hkk
      simp only [R]
      exact ⟨cs, rfl, this⟩
    · have h1 := hz4 (fun fs h => by rw [h] at ha; simp [isAggK] at ha)
      rw [hz, One.cells h1] at this
      simp only [Rs] at this
      obtain ⟨v, vs, e1, _, e2, _⟩ := this
      simp at e1
      rw [e1.1]; exact e2
  have hres : ∃ u ok, R (ctx F ρ H w) ((findV x es).getD z) u ∧ ok = (findV x es).isSome ∧ ((∃ i, r = some (i, u) ∧ ok = true) ∨ (r = none ∧ u = z' ∧ ok = false)) := by
    cases hj : findI x es 0 with
    | none =>
      rw [hj] at hrm hspec
      simp only at hrm hspec
      subst hrm
      exact ⟨z', false, by simp [findV, hspec, hzR], by simp [findV, hspec], .inr ⟨rfl, rfl, rfl⟩⟩
    | some j =>
      rw [hj] at hrm hspec
      obtain ⟨me, h3, rfl⟩ := hrm
      obtain ⟨_, e, h4, _, h5⟩ := hspec
      obtain ⟨m2, h6, _, h7⟩ := h2.get h4
      rw [Nat.sub_zero] at h6
      obtain rfl := Option.some.inj (h3.symm.trans h6)
      exact ⟨me.val, true, by simpa [findV, h5] using h7, by simp [findV, h5], .inl ⟨j, rfl, rfl⟩⟩
  obtain ⟨u, ok, hR, hok, hmatch⟩ := hres
  have hgo : (getObj L.blk).run P w = .ok (.map ents clock) w := by simp [getObj, Sem.run, h1]
  have hrun : (execOp a.eval o).run P w = .ok (.value (if commaOk then .tuple #[u, .bool ok] else u)) w := by
    have e1 : (Instr.lookup t (.map (some L.blk)) (a.eval k) commaOk).run P w = .ok (if commaOk then .tuple #[u, .bool ok] else u) w := by
      simp only [Instr.lookup, Sem.run_bind, run_underlying (sig_map hT ht), Result.andThen_ok, hgo, Sem.run_pure, checks_run hT hx g2, hr]
      rcases hmatch with ⟨i, rfl, rfl⟩ | ⟨rfl, rfl, rfl⟩
      · cases commaOk <;> rfl
      · simp only [Sem.run_bind, hzero, Result.andThen_ok, Sem.run_pure]
    simp [execOp, ho, he, e1]
  unfold Oper.wp
  rw [hrun]
  refine kk ρ _ w hs (Evo.refl _ _ _ _) ?_
  cases commaOk
  · exact hR
  · simp only [lookR, if_true, R, Rt]
    exact ⟨_, rfl, u, _, rfl, hR, .bool ok, [], rfl, by rw [hok], rfl⟩

theorem Ents.set {c : Ctx} {x y : V} {u : Value} : ∀ {es : List (V × V)} {ms : List MapEntry} {i : Nat} {m m' : MapEntry}, Ents c es ms → ms[i]? = some m → R c x m'.key → R c y m'.val → Ents c (es.set i (x, y)) (ms.set i m')
  | [], _, i, _, _, h, hm, _, _ => by simp only [Ents] at h; subst h; simp at hm
  | e :: es, _, i, m, m', h, hm, hx, hy => by
    obtain ⟨m0, ms', rfl, h1, h2, h3⟩ := h
    cases i with
    | zero => exact ⟨m', ms', rfl, hx, hy, h3⟩
    | succ i => exact ⟨m0, ms'.set i m', rfl, h1, h2, Ents.set (u := u) h3 (by simpa using hm) hx hy⟩

theorem Ents.snoc {c : Ctx} {x y : V} {m' : MapEntry} (hx : R c x m'.key) (hy : R c y m'.val) : ∀ {es : List (V × V)} {ms : List MapEntry}, Ents c es ms → Ents c (es ++ [(x, y)]) (ms ++ [m'])
  | [], _, h => by simp only [Ents] at h; subst h; exact ⟨m', [], rfl, hx, hy, rfl⟩
  | e :: es, _, h => by
    obtain ⟨m0, ms', rfl, h1, h2, h3⟩ := h
    exact ⟨m0, ms' ++ [m'], rfl, h1, h2, Ents.snoc hx hy h3⟩

theorem h_mapUpdate (hT : Sig P tys) {t kt et : Nat} {m k y : Operand} {l : Nat} {x v : V} {H : Heap} {es : List (V × V)} (ho : o.op = .mapUpdate t m k y) (hm : ev T m = some (.mp l)) (hk : ev T k = some x) (hy : ev T y = some v)
    (ht : (tys t).k = .map kt et) (hg : hget H l 0 = some (.map es)) (hx : fits tys kt x = true) (hf : ∀ e ∈ es, fits tys kt e.1 = true) (nx : Nat) :
    HStep P o T H nx (.tup []) (hput H l 0 (.map (updE es x v))) nx := by
  intro F ρ w a hs hh next Q kk
  have g1 := ev_R hh hm (fun t ht => mem_tmpsOf (x := m) (by simp [ho, Op.operands]) ht)
  have g2 := ev_R hh hk (fun t ht => mem_tmpsOf (x := k) (by simp [ho, Op.operands]) ht)
  have g3 := ev_R hh hy (fun t ht => mem_tmpsOf (x := y) (by simp [ho, Op.operands]) ht)
  simp only [R] at g1
  obtain ⟨L, hL, he⟩ := g1
  obtain ⟨hcap, ents, clock, h1, h2, h3, h4⟩ := hs.map hg hL
  obtain ⟨r, hr, hrm⟩ := findKey_run hT hx g2 w h2 hf
  have hspec := findI_spec x es 0
  have hgo : (getObj L.blk).run P w = .ok (.map ents clock) w := by simp [getObj, Sem.run, h1]
  -- what is written
  have main : ∃ ents' clock', (execOp a.eval o).run P w = .ok .skip { w with heap := w.heap.setIfInBounds L.blk (.map ents' clock') } ∧
      (∀ c', Lasts (ctx F ρ H w) c' → Ents c' (updE es x v) ents'.toList) ∧ (∀ m ∈ ents'.toList, m.born < clock') ∧ (ents'.toList.map (·.born)).Nodup := by
    have hso : ∀ ob, (setObj L.blk ob).run P w = .ok () { w with heap := w.heap.setIfInBounds L.blk ob } := fun ob => by simp [setObj, Sem.run, h1]
    cases hj : findI x es 0 with
    | none =>
      rw [hj] at hrm
      simp only at hrm
      subst hrm
      refine ⟨ents.push { key := a.eval k, val := a.eval y, born := clock }, clock + 1, ?_, fun c' hl => ?_, ?_, ?_⟩
      · have e1 : (Instr.mapUpdate t (.map (some L.blk)) (a.eval k) (a.eval y)).run P w = .ok () { w with heap := w.heap.setIfInBounds L.blk (.map (ents.push { key := a.eval k, val := a.eval y, born := clock }) (clock + 1)) } := by
          simp only [Instr.mapUpdate, Sem.run_bind, run_underlying (sig_map hT ht), Result.andThen_ok, hgo, checks_run hT hx g2, hr, hso]
        simp only [execOp, ho, he, Sem.run_bind, e1, Result.andThen_ok, Sem.run_pure]
      · simp only [updE, hj, Array.toList_push]
        exact Ents.snoc (R.lasts hl _ _ g2) (R.lasts hl _ _ g3) (Ents.lasts hl _ _ h2)
      · intro m hm
        simp only [Array.toList_push, List.mem_append, List.mem_singleton] at hm
        rcases hm with hm | rfl
        · have := h3 m hm; omega
        · exact Nat.lt_succ_self _
      · simp only [Array.toList_push, List.map_append, List.map_cons, List.map_nil, List.nodup_append]
        refine ⟨h4, by simp, fun b hb c hc => ?_⟩
        obtain ⟨m, hm, rfl⟩ := List.mem_map.1 hb
        simp at hc
        have := h3 m hm
        omega
    | some j =>
      rw [hj] at hrm hspec
      obtain ⟨me, h5, rfl⟩ := hrm
      obtain ⟨_, e, h6, h7, _⟩ := hspec
      rw [Nat.sub_zero] at h6
      obtain ⟨m2, h8, h9, _⟩ := h2.get h6
      obtain rfl := Option.some.inj (h5.symm.trans h8)
      have hsb := key_same hx (hf e (List.mem_of_getElem? h6)) g2 h9 h7
      have hsb2 : Instr.sameBits 10000 me.key (a.eval k) = true := by
        obtain ⟨ks, hks, hfx⟩ := fits_cases hx
        have hke : keyEq e.1 x = true := by
          have scomm : ∀ p q : V, scEq p q = scEq q p := by
            intro p q
            cases p <;> cases q <;> simp [scEq, eq_comm, Bool.beq_comm]
          have ccomm : ∀ ps qs : List V, cellsEq ps qs = cellsEq qs ps := by
            intro ps
            induction ps with
            | nil => intro qs; cases qs <;> rfl
            | cons p ps ih => intro qs; cases qs with
              | nil => rfl
              | cons q qs => simp [cellsEq, scomm p q, ih qs]
          rw [← h7]
          cases x <;> cases he1 : e.1 <;> simp [keyEq, scomm, ccomm]
        exact key_same (hf e (List.mem_of_getElem? h6)) hx h9 g2 hke
      have hjl : j < ents.size := by
        have := (List.getElem?_eq_some_iff.1 h5).1
        simpa using this
      have h5' : ents[j]? = some me := by simpa using h5
      refine ⟨ents.modify j fun e => { e with key := a.eval k, val := a.eval y }, clock, ?_, fun c' hl => ?_, ?_, ?_⟩
      · have e1 : (Instr.mapUpdate t (.map (some L.blk)) (a.eval k) (a.eval y)).run P w = .ok () { w with heap := w.heap.setIfInBounds L.blk (.map (ents.modify j fun e => { e with key := a.eval k, val := a.eval y }) clock) } := by
          simp only [Instr.mapUpdate, Sem.run_bind, run_underlying (sig_map hT ht), Result.andThen_ok, hgo, checks_run hT hx g2, hr, Instr.keyThatStays, h5', Option.map_some, Option.getD_some, hsb2, if_true, Sem.run_pure, hso]
        simp only [execOp, ho, he, Sem.run_bind, e1, Result.andThen_ok, Sem.run_pure]
      · simp only [updE, hj]
        have : (ents.modify j fun e => { e with key := a.eval k, val := a.eval y }).toList = ents.toList.set j { me with key := a.eval k, val := a.eval y } := by
          apply List.ext_getElem?
          intro i
          simp only [Array.getElem?_toList, Array.getElem?_modify, List.getElem?_set]
          by_cases hij : j = i
          · subst hij
            have hb : ents[j] = me := by simpa [hjl] using h5'
            simp [h5', hjl, hb]
          · simp [hij]
        rw [this]
        exact Ents.set (u := undef) (Ents.lasts hl _ _ h2) h5 (R.lasts hl _ _ g2) (R.lasts hl _ _ g3)
      · intro m hm
        obtain ⟨i, hi⟩ := List.mem_iff_getElem?.1 hm
        simp only [Array.getElem?_toList, Array.getElem?_modify] at hi
        split at hi
        · rename_i hij
          subst hij
          rw [h5'] at hi
          simp at hi
          subst hi
          exact h3 me (List.mem_of_getElem? h5)
        · exact h3 m (List.mem_of_getElem? (by simpa using hi))
      · have : (ents.modify j fun e => { e with key := a.eval k, val := a.eval y }).toList.map (·.born) = ents.toList.map (·.born) := by
          apply List.ext_getElem?
          intro i
          simp only [List.getElem?_map, Array.getElem?_toList, Array.getElem?_modify]
          split
          · cases ents[i]? <;> rfl
          · rfl
        rw [this]; exact h4
  obtain ⟨ents', clock', hrun, h5, h6, h7⟩ := main
  have hlt : L.blk < w.heap.size := by
    have := (Array.getElem?_eq_some_iff.1 h1).1
    exact this
  have hset := hs.set (blk' := .map (updE es x v)) (w' := { w with heap := w.heap.setIfInBounds L.blk (.map ents' clock') }) hg hL (by omega) rfl rfl rfl (Nat.le_refl _) (by simp)
    (fun b hb => by simp [Array.getElem?_setIfInBounds_ne (Ne.symm hb)]) fun hla => ⟨hcap, ents', clock', by show (w.heap.setIfInBounds L.blk _)[L.blk]? = _; simp [hlt], h5 _ hla, h6, h7⟩
  unfold Oper.wp
  rw [hrun]
  exact kk ρ undef _ hset.1 hset.2 (by simp only [R, Rt]; exact ⟨#[], rfl, rfl⟩)

end
end Go.L1
