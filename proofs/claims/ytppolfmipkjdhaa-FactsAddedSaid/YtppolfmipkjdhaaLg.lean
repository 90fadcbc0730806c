import Derived.Test.YtppolfmipkjdhaaLf
/-! L1, part g: aggregates and rows that are built; 'pop' is sound. -/
set_option linter.all false
namespace Go.L1
open Go.RowKit
variable [Zero Prop]

section
variable {P : Program} {tys : Nat → TI} {T : Env} {o : Oper}

theorem setAll (off : Nat) : ∀ (xs : List Value) (k : Nat) (arr : Array Value), off + k + xs.length ≤ arr.size →
    ((xs.zipIdx k).foldl (fun a p => a.setIfInBounds (off + p.2) p.1) arr).toList = arr.toList.take (off + k) ++ xs ++ arr.toList.drop (off + k + xs.length)
  | [], k, arr, _ => by simp
  | x :: xs, k, arr, h => by
    simp only [List.length_cons] at h
    simp only [List.zipIdx_cons, List.foldl_cons]
    rw [setAll off xs (k + 1) _ (by simp; omega)]
    rw [Array.toList_setIfInBounds]
    have hlt : off + k < arr.toList.length := by simp; omega
    have hsz : arr.toList.length = arr.size := Array.length_toList
    apply List.ext_getElem?
    intro i
    simp only [List.getElem?_append, List.length_append, List.length_take, List.length_set, List.getElem?_take, List.getElem?_drop, List.getElem?_set, List.length_cons, List.getElem?_cons]
    simp only [Nat.min_eq_left (show off + (k + 1) ≤ arr.toList.length by omega), Nat.min_eq_left (show off + k ≤ arr.toList.length by omega)]
    by_cases h1 : i < off + k
    · rw [if_pos (by omega), if_pos (by omega), if_pos (by omega), if_neg (by omega)]
      rw [if_pos (by omega), if_pos (by omega), if_pos (by omega)]
    · by_cases h2 : i = off + k
      · subst h2
        rw [if_pos (by omega), if_pos (by omega), if_pos (by omega), if_pos rfl, if_pos hlt]
        rw [if_pos (by omega), if_neg (by omega)]
        simp
      · by_cases h3 : i < off + k + 1 + xs.length
        · rw [if_pos (by omega), if_neg (by omega)]
          rw [if_pos (by omega), if_neg (by omega)]
          rw [show i - (off + k) = (i - (off + (k + 1))) + 1 from by omega, if_neg (by omega)]
          simp
        · rw [if_neg (by omega), if_neg (by omega)]
          rw [show off + (k + 1) + xs.length = off + k + (xs.length + 1) from by omega, if_neg (by omega)]

theorem fold_cells (off : Nat) (v : Array Value) (arr : Array Value) (h : off + v.size ≤ arr.size) :
    (v.zipIdx.foldl (fun cs (x : Value × Nat) => match x with | (c, j) => cs.setIfInBounds (off + j) c) arr).toList = arr.toList.take off ++ v.toList ++ arr.toList.drop (off + v.size) := by
  have := setAll off v.toList 0 arr (by simpa using h)
  simp only [Nat.add_zero] at this
  rw [← Array.foldl_toList]
  simp only [Array.toList_zipIdx, Array.length_toList] at this ⊢
  exact this

theorem run_mapM_list {α β : Type} (w : World) (f : α → Sem β) (g : α → β) : ∀ (l : List α), (∀ x ∈ l, (f x).run P w = .ok (g x) w) → (l.mapM f).run P w = .ok (l.map g) w
  | [], _ => by simp
  | x :: xs, h => by
    rw [List.mapM_cons]
    simp only [Sem.run_bind, h x List.mem_cons_self, Result.andThen_ok, run_mapM_list w f g xs (fun y hy => h y (List.mem_cons_of_mem _ hy)), Sem.run_pure, List.map_cons]

theorem run_mapM_array {α β : Type} (w : World) (f : α → Sem β) (g : α → β) (l : Array α) (h : ∀ x ∈ l.toList, (f x).run P w = .ok (g x) w) : (l.mapM f).run P w = .ok (l.map g) w := by
  rw [Array.mapM_eq_mapM_toList]
  simp only [Sem.run_map, run_mapM_list w f g l.toList h, Result.andThen_ok]
  congr 1
  apply Array.ext'
  simp

theorem fill_struct {c : Ctx} {fs : List (Nat × Nat)} {places : Nat → Option (Nat × Nat)} (hp : ∀ i, places i = (fs[i]?).map fun f => (f.2, (tys f.1).size)) :
    ∀ (ps : List (Nat × V)) (qs : List (Nat × Value)) (cells : List V) (arr : Array Value) (out : List V), Rp c ps qs → Rs c cells arr.toList → fillV fs tys cells ps = some out →
      ∃ arr', Instr.fill places arr qs = some arr' ∧ Rs c out arr'.toList
  | [], qs, cells, arr, out, hq, hc, h => by
    simp only [Rp] at hq; subst hq
    simp only [fillV, Option.some.injEq] at h; subst h
    exact ⟨arr, rfl, hc⟩
  | (i, x) :: ps, qs, cells, arr, out, hq, hc, h => by
    simp only [Rp] at hq
    obtain ⟨v, qs', rfl, hx, hr⟩ := hq
    simp only [fillV] at h
    split at h
    · rename_i t off cs hf hcs
      split at h
      · rename_i hcond
        have hv := R.cells hx hcs
        have hlv := hv.length
        have hlc := hc.length
        simp only [Array.length_toList] at hlv hlc
        simp only [Instr.fill, hp, hf, Option.map_some]
        rw [if_neg (by simp; omega)]
        refine fill_struct hp ps qs' _ _ out hr ?_ h
        rw [fold_cells off v.cells arr (by omega), ← hlv]
        exact ((hc.take off).append hv).append (hc.drop _)
      · cases h
    · cases h

theorem sound_build (hT : Sig P tys) {t : Nat} {parts : Array (Nat × Operand)} {fs : List (Nat × Nat)} {ps : List (Nat × V)} {cs : List V} (ho : o.op = .build t parts) (hx : evp T parts.toList = some ps)
    (ht : (tys t).k = .struct fs) (hf : fillV fs tys (tys t).zero ps = some cs) (hk : fs.all (fun f => decide ((tys f.1).k ≠ .other)) = true) : PStep P o T (.agg cs) := by
  have hto : (tys t).k ≠ .other := by rw [ht]; simp
  obtain ⟨fields, hu, hfs⟩ := sig_struct hT ht
  refine PStep.val fun c a hh => ?_
  have hq := evp_R hh parts.toList ps (fun x hx t ht => mem_tmpsOf (x := x.2) (by simp only [ho, Op.operands]; simp; exact ⟨x.1, by simpa using hx⟩) ht) hx
  obtain ⟨z, hz, hzr, hzs⟩ := sig_zero hT hto c
  have hplaces : ∀ w, (fields.mapM (fun f => do pure (f.offset, ← sizeOf f.type)) : Sem (Array (Nat × Nat))).run P w = .ok (fields.map fun f => (f.offset, (tys f.type).size)) w := fun w =>
    run_mapM_array w _ _ fields fun f hf => by
      have : (tys f.type).k ≠ .other := by
        have h1 := List.all_eq_true.1 hk (f.type, f.offset) (by rw [← hfs]; exact List.mem_map.2 ⟨f, hf, rfl⟩)
        simpa using h1
      simp [sig_size hT this]
  obtain ⟨arr', h1, h2⟩ := fill_struct (c := c) (tys := tys) (fs := fs) (places := fun i => (fields.map fun f => (f.offset, (tys f.type).size))[i]?) (fun i => by
      rw [← hfs]; simp [Function.comp_def]) ps _ (tys t).zero z.cells cs hq hzr hf
  refine ⟨.agg arr', by simp only [R]; exact ⟨arr', rfl, h2⟩, ?_⟩
  have e1 : (Instr.build t (parts.map fun (i, x) => (i, a.eval x))).run P c.w = .ok (.agg arr') c.w := by
    simp only [Instr.build, Sem.run_bind, hz, Result.andThen_ok, run_underlying hu, hplaces]
    have e2 : (parts.map fun (i, x) => (i, a.eval x)).toList = parts.toList.map fun p => (p.1, a.eval p.2) := by simp
    rw [e2, h1]
    rfl
  simp [execOp, ho, e1]

/-- Cells of rows, one behind the other. -/
def flat : List (List V) → List V
  | [] => []
  | x :: xs => x ++ flat xs

theorem flat_length {sz : Nat} : ∀ {els : List (List V)}, (∀ el ∈ els, el.length = sz) → (flat els).length = els.length * sz
  | [], _ => by simp [flat]
  | x :: xs, h => by
    simp only [flat, List.length_append, List.length_cons, h x List.mem_cons_self, flat_length (els := xs) (fun e he => h e (List.mem_cons_of_mem _ he)), Nat.add_mul]
    omega

theorem flat_take {sz : Nat} : ∀ (i : Nat) {els : List (List V)}, (∀ el ∈ els, el.length = sz) → (flat els).take (i * sz) = flat (els.take i)
  | 0, els, _ => by simp [flat]
  | i + 1, [], _ => by simp [flat]
  | i + 1, x :: xs, h => by
    have hx := h x List.mem_cons_self
    have e : (i + 1) * sz = x.length + i * sz := by rw [Nat.add_mul, hx]; omega
    rw [e, flat, List.take_length_add_append, flat_take i (fun e he => h e (List.mem_cons_of_mem _ he)), List.take_succ_cons, flat]

theorem flat_drop {sz : Nat} : ∀ (i : Nat) {els : List (List V)}, (∀ el ∈ els, el.length = sz) → (flat els).drop (i * sz) = flat (els.drop i)
  | 0, els, _ => by simp
  | i + 1, [], _ => by simp [flat]
  | i + 1, x :: xs, h => by
    have hx := h x List.mem_cons_self
    have e : (i + 1) * sz = x.length + i * sz := by rw [Nat.add_mul, hx]; omega
    rw [e, flat, List.drop_length_add_append, flat_drop i (fun e he => h e (List.mem_cons_of_mem _ he)), List.drop_succ_cons]

theorem flat_append : ∀ (xs ys : List (List V)), flat (xs ++ ys) = flat xs ++ flat ys
  | [], _ => rfl
  | x :: xs, ys => by simp [flat, flat_append xs ys]

theorem flat_set {sz : Nat} {els : List (List V)} (h : ∀ el ∈ els, el.length = sz) {i : Nat} (hi : i < els.length) {cs : List V} (hc : cs.length = sz) :
    flat (els.set i cs) = (flat els).take (i * sz) ++ cs ++ (flat els).drop (i * sz + sz) := by
  have e : i * sz + sz = (i + 1) * sz := by rw [Nat.add_mul]; omega
  rw [e, flat_take i h, flat_drop (i + 1) h, List.set_eq_take_append_cons_drop, if_pos hi, flat_append, flat, List.append_assoc]

theorem fill_els {c : Ctx} {sz : Nat} :
    ∀ (ps : List (Nat × V)) (qs : List (Nat × Value)) (els : List (List V)) (arr : Array Value) (out : List (List V)), (∀ el ∈ els, el.length = sz) → Rp c ps qs → Rs c (flat els) arr.toList → fillE sz els ps = some out →
      ∃ arr', Instr.fill (fun i => some (i * sz, sz)) arr qs = some arr' ∧ Rs c (flat out) arr'.toList ∧ (∀ el ∈ out, el.length = sz) ∧ out.length = els.length
  | [], qs, els, arr, out, hl, hq, hc, h => by
    simp only [Rp] at hq; subst hq
    simp only [fillE, Option.some.injEq] at h; subst h
    exact ⟨arr, rfl, hc, hl, rfl⟩
  | (i, x) :: ps, qs, els, arr, out, hl, hq, hc, h => by
    simp only [Rp] at hq
    obtain ⟨v, qs', rfl, hx, hr⟩ := hq
    simp only [fillE] at h
    split at h
    · rename_i cs hcs
      split at h
      · rename_i hcond
        have hv := R.cells hx hcs
        have hlv := hv.length
        have hlc := hc.length
        have hfl := flat_length hl
        have him : (i + 1) * sz ≤ els.length * sz := Nat.mul_le_mul_right _ hcond.2
        rw [Nat.add_mul, Nat.one_mul] at him
        simp only [Array.length_toList] at hlv hlc
        simp only [Instr.fill]
        rw [if_neg (by simp; omega)]
        have hl2 : ∀ el ∈ els.set i cs, el.length = sz := fun el he => by
          rcases List.mem_or_eq_of_mem_set he with he | rfl
          · exact hl el he
          · exact hcond.1
        obtain ⟨arr', h1, h2, h3, h4⟩ := fill_els ps qs' _ _ out hl2 hr (by
          rw [fold_cells (i * sz) v.cells arr (by omega), ← hlv, flat_set hl hcond.2 hcond.1, hcond.1]
          exact ((hc.take _).append hv).append (hc.drop _)) h
        exact ⟨arr', h1, h2, h3, by rw [h4]; simp⟩
      · cases h
    · cases h

/-- A fresh block that holds these cells, seen as frozen. -/
theorem Cells.of_block {c : Ctx} {b : Nat} (hb : ¬ c.own b) {vals : List Value} : ∀ {cs : List V} {us : List Value} {f : Nat}, Rs c cs us →
    (∀ j v, us[j]? = some v → c.w.cell? ⟨b, f + j, none⟩ = some v) → Cells c cs b f
  | [], _, _, _, _ => by simp only [Cells]
  | x :: xs, _, f, hr, hc => by
    simp only [Rs] at hr
    obtain ⟨v, us, rfl, h1, hx, hr⟩ := hr
    simp only [Cells]
    refine ⟨⟨v, by simpa using hc 0 v rfl, hb, h1, hx⟩, Cells.of_block hb (vals := vals) hr fun j u hj => ?_⟩
    have := hc (j + 1) u (by simpa using hj)
    rwa [show f + (j + 1) = f + 1 + j from by omega] at this

theorem Els.of_block {c : Ctx} {b sz : Nat} (hb : ¬ c.own b) : ∀ {els : List (List V)} {us : List Value} {f : Nat}, (∀ el ∈ els, el.length = sz) → Rs c (flat els) us →
    (∀ j v, us[j]? = some v → c.w.cell? ⟨b, f + j, none⟩ = some v) → Els c sz els b f
  | [], _, _, _, _, _ => by simp only [Els]
  | x :: xs, us, f, hl, hr, hc => by
    have hx := hl x List.mem_cons_self
    have hlen := hr.length
    simp only [flat, List.length_append] at hlen
    have h1 := hr.take x.length
    have h2 := hr.drop x.length
    simp only [flat, List.take_left', List.drop_left'] at h1 h2
    simp only [Els]
    refine ⟨hx, Cells.of_block hb (vals := us) h1 fun j v hj => hc j v ?_, Els.of_block hb (fun e he => hl e (List.mem_cons_of_mem _ he)) h2 fun j v hj => ?_⟩
    · rw [List.getElem?_take] at hj
      split at hj
      · exact hj
      · cases hj
    · rw [List.getElem?_drop] at hj
      have := hc _ v hj
      rwa [show f + (x.length + j) = f + sz + j from by omega] at this

theorem cell_new (w : World) (cs : Array Value) (e : TypeId) (j : Nat) : (w.alloc (.cells cs e)).cell? ⟨w.heap.size, j, none⟩ = cs[j]? := by
  show (match (w.heap.push (.cells cs e))[w.heap.size]? with | some (.cells c _ _) => if (none : Option Nat).isSome then none else c[j]? | _ => none) = _
  simp

theorem sound_box {t : Nat} {x : Operand} {v : V} {cs : List V} (ho : o.op = .box t x) (hx : ev T x = some v) (hc : v.cells = some cs) (hn : nls cs = true) : PStep P o T (.dptr cs) := by
  refine PStep.allocs fun F ρ H nx w a hs hh => ?_
  have g1 := ev_R hh hx (fun t ht => mem_tmpsOf (x := x) (by simp [ho, Op.operands]) ht)
  have g2 := R.cells g1 hc
  refine ⟨.cells (a.eval x).cells t, .pointer (some ⟨w.heap.size, 0, none⟩), ?_, fun hl hb => ?_⟩
  · simp only [execOp, ho, Instr.box, newVar, newRow, Sem.run_bind, run_newObj, Result.andThen_ok, Sem.run_pure]
    rfl
  · simp only [R]
    refine ⟨w.heap.size, 0, rfl, ?_⟩
    have g3 := Rs.lasts hl.bare _ _ (Rs.nameless _ _ hn g2)
    exact Cells.of_block (c := (ctx F ρ H (w.alloc (.cells (a.eval x).cells t))).bare) (vals := []) hb g3 fun j u hj => by
      rw [Nat.zero_add]
      exact (cell_new w _ _ j).trans (by simpa using hj)

theorem zeroRow {c : Ctx} {z : Value} {zs : List V} {sz len : Nat} (hz : Rs c zs z.cells.toList) (hs : z.cells.size = sz) (hp : 0 < sz) :
    Rs c (flat (List.replicate len zs)) ((Array.range (len * sz)).map (z.cells[· % z.cells.size]!)).toList ∧ ∀ el ∈ List.replicate len zs, el.length = sz := by
  have hl : zs.length = sz := by have := hz.length; simpa [hs] using this
  refine ⟨?_, fun el he => by rw [List.eq_of_mem_replicate he]; exact hl⟩
  have key : ∀ n, Rs c (flat (List.replicate n zs)) ((List.range (n * sz)).map (z.cells[· % z.cells.size]!)) := by
    intro n
    induction n with
    | zero => simp [flat, Rs]
    | succ n ih =>
      rw [List.replicate_succ', flat_append]
      have e : (n + 1) * sz = n * sz + sz := by rw [Nat.add_mul]; omega
      rw [e, List.range_add, List.map_append]
      refine ih.append ?_
      simp only [flat, List.append_nil, List.map_map]
      have e2 : (List.range sz).map ((fun x => z.cells[x % z.cells.size]!) ∘ fun x => n * sz + x) = z.cells.toList := by
        apply List.ext_getElem?
        intro i
        simp only [List.getElem?_map, List.getElem?_range', Function.comp]
        by_cases hi : i < sz
        · have h1 : (n * sz + i) % sz = i := by rw [Nat.mul_comm, Nat.mul_add_mod, Nat.mod_eq_of_lt hi]
          rw [List.getElem?_range (by omega)]
          have h2 : i < z.cells.size := by omega
          simp only [Function.comp, hs, h1, Option.map_some, Array.getElem?_toList, Array.getElem?_eq_getElem h2, getElem!_pos z.cells i h2]
        · rw [List.getElem?_eq_none (by simp; omega), List.getElem?_eq_none (by simp; omega)]
          rfl
      rw [e2]; exact hz
  simpa using key len

theorem sound_buildSlice (hT : Sig P tys) {t e len : Nat} {parts : Array (Nat × Operand)} {ps : List (Nat × V)} {els : List (List V)} (ho : o.op = .buildSlice t len parts) (hx : evp T parts.toList = some ps)
    (ht : (tys t).k = .slice e) (hk : (tys e).k ≠ .other) (hz0 : (tys e).size ≠ 0) (hsz : len * (tys e).size ≤ 65536) (hf : fillE (tys e).size (List.replicate len (tys e).zero) ps = some els)
    (hn : els.all nls = true) : PStep P o T (.dsl (tys e).size els) := by
  refine PStep.allocs fun F ρ H nx w a hs hh => ?_
  have hq := evp_R hh parts.toList ps (fun x hx t ht => mem_tmpsOf (x := x.2) (by simp only [ho, Op.operands]; simp; exact ⟨x.1, by simpa using hx⟩) ht) hx
  obtain ⟨z, hz, hzr, hzs⟩ := sig_zero hT hk (ctx F ρ H w)
  obtain ⟨hzero, hzl⟩ := zeroRow (len := len) hzr hzs (by omega)
  obtain ⟨arr', h1, h2, h3, h4⟩ := fill_els ps _ _ _ els hzl hq hzero hf
  rw [List.length_replicate] at h4
  refine ⟨.cells arr' e, .slice (some ⟨w.heap.size, 0, none⟩) len len, ?_, fun hl hb => ?_⟩
  · have hcond : ¬ (len * (tys e).size > 2 ^ 24) := by omega
    have e2 : (parts.map fun (i, x) => (i, a.eval x)).toList = parts.toList.map fun p => (p.1, a.eval p.2) := by simp
    have e1 : (Instr.buildSlice t len (parts.map fun (i, x) => (i, a.eval x))).run P w = .ok (.slice (some ⟨w.heap.size, 0, none⟩) len len) (w.alloc (.cells arr' e)) := by
      simp only [Instr.buildSlice, Sem.run_bind, run_underlying (sig_slice hT ht), Result.andThen_ok, sig_size hT hk]
      by_cases h0 : len * (tys e).size = 0
      · have e0 : ∀ f : Nat → Value, (Array.range (len * (tys e).size)).map f = #[] := fun f => by rw [h0]; simp
        rw [e0] at h1
        rw [if_neg hcond]
        simp only [Sem.run_pure, Result.andThen_ok, if_pos h0, Sem.run_bind, e0, e2, h1, newRow, run_newObj]
        rfl
      · rw [if_neg hcond]
        simp only [Sem.run_pure, Result.andThen_ok, if_neg h0, Sem.run_bind, hz, e2, h1, newRow, run_newObj]
        rfl
    simp [execOp, ho, e1]
  · simp only [R]
    have hlen : len ≤ maxLen := by
      have : len * 1 ≤ len * (tys e).size := Nat.mul_le_mul_left _ (by omega)
      unfold maxLen; omega
    refine ⟨some ⟨w.heap.size, 0, none⟩, len, by rw [h4], by omega, hlen, .inr ⟨w.heap.size, 0, rfl, ?_⟩⟩
    have hnl : nls (flat els) = true := by
      have nls_append : ∀ xs ys, nls (xs ++ ys) = (nls xs && nls ys) := by
        intro xs ys
        induction xs with
        | nil => simp [nls]
        | cons x xs ih => simp [nls, ih, Bool.and_assoc]
      clear h1 h2 h3 h4 hf
      induction els with
      | nil => rfl
      | cons x xs ih =>
        simp only [List.all_cons, Bool.and_eq_true] at hn
        rw [flat, nls_append, hn.1, ih hn.2]; rfl
    have g3 := Rs.lasts hl.bare _ _ (Rs.nameless _ _ hnl h2)
    exact Els.of_block (c := (ctx F ρ H (w.alloc (.cells arr' e))).bare) hb h3 g3 fun j u hj => by
      rw [Nat.zero_add]
      exact (cell_new w _ _ j).trans (by simpa using hj)

theorem sound_len (hT : Sig P tys) {x : Operand} {t : Nat} {args : Array Operand} {argTypes : Array TypeId} {vx : V} {n : Int} (ho : o.op = .call { callee := .builtin .len, args, argTypes }) (ha : args.toList = [x]) (hat : argTypes.toList = [t])
    (hx : ev T x = some vx) (hn : InK .i64 n ∨ True)
    (hrun : ∀ (c : Ctx) a, R c vx a → InK .i64 n ∧ (Builtin.len_ #[t] o.type #[a]).run P c.w = .ok (.int .i64 n) c.w) : PStep P o T (.i .i64 n) := by
  have ha' : args = #[x] := by apply Array.ext'; simpa using ha
  have hat' : argTypes = #[t] := by apply Array.ext'; simpa using hat
  subst ha' hat'
  refine PStep.val fun c a hh => ?_
  have g1 := ev_R hh hx (fun t ht => mem_tmpsOf (x := x) (by simp [ho, Op.operands, Call.operands]) ht)
  obtain ⟨hk, hr⟩ := hrun c _ g1
  refine ⟨_, R_i hk, ?_⟩
  simp [execOp, ho, resolve, invoke, builtin, hr]

end
end Go.L1
