import Derived.Test.YtppolfmipkjdhaaLn
/-! L1, part o: what is to be shown of a piece of code. -/
set_option linter.all false
namespace Go.L1
open Go.RowKit
variable [Zero Prop]

/-- The prover names the callee's contract here. -/
def CallK (P : Program) (fid : Nat) (as : List V) (H : Heap) (nx : Nat) (wf : Bool) (K : V → Heap → Nat → Bool → Prop) : Prop :=
  (∃ v, (∀ nx, C P fid nx as [] v [] nx) ∧ ((wf = true → Wf v) → K v H nx false)) ∨
  (∃ H1 H2 v H1' nx', H.Perm (H1 ++ H2) ∧ C P fid nx as H1 v H1' nx' ∧ ((wf = true → Wf v) → K v (H1' ++ H2) nx' true))

/-- An operation that touches what is owned. -/
def hop (P : Program) (tys : Nat → TI) (wf : Bool) (T : Env) (H : Heap) (nx : Nat) (K : V → Heap → Nat → Bool → Prop) : Op → Prop
  | .alloc t => (tys t).k ≠ .other ∧ (tys t).size ≠ 0 ∧ K (.ptr nx 0 0 0) ((nx, 0, .row t [(tys t).zero]) :: H) (nx + 1) true
  | .box t x =>
    match ev T x with
    | some v => match v.cells with
      | some cs => cs ≠ [] ∧ K (.ptr nx 0 0 0) ((nx, 0, .row t [cs]) :: H) (nx + 1) true
      | none => False
    | none => False
  | .load t x =>
    match ev T x with
    | some (.ptr l u j f) => match hget H l u with
      | some (.row _ els) => ∃ el, els[j]? = some el ∧
        match (tys t).k with
        | .other => False
        | .struct _ => f + (tys t).size ≤ el.length ∧ K (.agg ((el.drop f).take (tys t).size)) H nx true
        | _ => ∃ v, el[f]? = some v ∧ K v H nx true
      | _ => False
    | _ => False
  | .store t x y =>
    match ev T x, ev T y with
    | some (.ptr l u j f), some v => match hget H l u, v.cells with
      | some (.row e els), some cs => ∃ el, els[j]? = some el ∧ (tys t).k ≠ .other ∧ cs.length = (tys t).size ∧ f + cs.length ≤ el.length ∧
        K (.tup []) (hput H l u (.row e (els.set j (el.take f ++ cs ++ el.drop (f + cs.length))))) nx true
      | _, _ => False
    | _, _ => False
  | .buildSlice t len parts =>
    match (tys t).k, evp T parts.toList with
    | .slice e, some ps => (tys e).k ≠ .other ∧ (tys e).size ≠ 0 ∧ len * (tys e).size ≤ 65536 ∧
      match fillE (tys e).size (List.replicate len (tys e).zero) ps with
      | some els => K (.sl nx 0 0 len (tys e).size) ((nx, 0, .row e els) :: H) (nx + 1) true
      | none => False
    | _, _ => False
  | .makeMap _ none => K (.mp nx) ((nx, 0, .map []) :: H) (nx + 1) true
  | .lookup t m k ok =>
    match ev T m, ev T k, (tys t).k with
    | some (.mp l), some x, .map kt et => match hget H l 0 with
      | some (.map es) => fits tys kt x = true ∧ (∀ e ∈ es, fits tys kt e.1 = true) ∧ (tys et).k ≠ .other ∧ ∃ r, findV x es = r ∧
        match (tys et).k with
        | .struct _ => K (lookR r (.agg (tys et).zero) ok) H nx true
        | _ => match (tys et).zero with
          | [z] => K (lookR r z ok) H nx true
          | _ => False
      | _ => False
    | _, _, _ => False
  | .mapUpdate t m k y =>
    match ev T m, ev T k, ev T y, (tys t).k with
    | some (.mp l), some x, some v, .map kt _ => match hget H l 0 with
      | some (.map es) => fits tys kt x = true ∧ (∀ e ∈ es, fits tys kt e.1 = true) ∧ K (.tup []) (hput H l 0 (.map (updE es x v))) nx true
      | _ => False
    | _, _, _, _ => False
  | .convert src dst x =>
    match (tys src).k, (tys dst).k, ev T x with
    | .slice e, .str, some (.sl l u 0 n 1) => match hget H l u with
      | some (.row _ els) => (tys e).k = .int .u8 ∧ els.length = n ∧ els.all isByte = true ∧ K (.s (strOf els)) H nx true
      | _ => False
    | _, _, _ => False
  | .call { callee := .builtin .append, args, argTypes } =>
    match args.toList, argTypes.toList with
    | [s, x], [t, t2] =>
      match (tys t).k, ev T s, ev T x with
      | .slice e, some (.sl l u 0 n sz), some v => match hget H l u with
        | some (.row e' els) => match srcV H sz v with
          | some (p, xs) => e' = e ∧ (tys e).k ≠ .other ∧ (tys e).size ≠ 0 ∧ (tys e).size = sz ∧ ((∃ e2, (tys t2).k = .slice e2) ∨ (tys t2).k = .str) ∧ els.length = n ∧ p ∧
            n + xs.length ≤ 9223372036854775807 ∧ (n + xs.length) * (tys e).bytes ≤ 140737488355328 ∧
            K (.sl l (u + 1) 0 (n + xs.length) sz) (hput H l (u + 1) (.row e (els ++ xs))) nx true
          | none => False
        | _ => False
      | .slice e, some .nilS, some v => match srcV H (tys e).size v with
        | some (p, xs) => (tys e).k ≠ .other ∧ (tys e).size ≠ 0 ∧ ((∃ e2, (tys t2).k = .slice e2) ∨ (tys t2).k = .str) ∧ p ∧ xs.length ≤ 9223372036854775807 ∧ xs.length * (tys e).bytes ≤ 140737488355328 ∧
            K (.sl nx 0 0 xs.length (tys e).size) ((nx, 0, .row e xs) :: H) (nx + 1) true
        | none => False
      | _, _, _ => False
    | _, _ => False
  | .call { callee := .value f, args, argTypes := _ } =>
    match ev T f, evs T args.toList with
    | some (.fn fid cap), some vs => CallK P fid (vs ++ cap) H nx wf K
    | _, _ => False
  | _ => False

def vcOp (P : Program) (tys : Nat → TI) (ro wf : Bool) (o : Oper) (T : Env) (H : Heap) (nx : Nat) (K : V → Heap → Nat → Bool → Prop) : Prop :=
  match pop tys ro T o.op with
  | some (p, v) => p ∧ K v H nx false
  | none => hop P tys wf T H nx K o.op

section
variable {P : Program} {tys : Nat → TI} {T : Env} {o : Oper}

/-- Owned bytes, read. -/
theorem Rs.bytes {c : Ctx} : ∀ {els : List (List V)} {us : List Value}, Rs c (flat els) us → els.all isByte = true → us = els.map fun el => Value.int .u8 (byteOf el).toNat
  | [], us, h, _ => by simp only [flat, Rs] at h; subst h; rfl
  | el :: els, us, h, hb => by
    simp only [List.all_cons, Bool.and_eq_true] at hb
    match el, hb.1 with
    | [.i .u8 n], _ =>
      simp only [flat, List.singleton_append, Rs] at h
      obtain ⟨v, us', rfl, _, hv, hr⟩ := h
      simp only [R, InK] at hv
      obtain ⟨rfl, hk⟩ := hv
      rw [List.map_cons, ← Rs.bytes hr hb.2]
      congr 2
      simp only [byteOf]
      have : (UInt8.ofNat n.toNat).toNat = n.toNat := by
        rw [UInt8.toNat_ofNat']
        omega
      rw [this]
      omega

theorem h_str (hT : Sig P tys) {src dst e l u n e' : Nat} {x : Operand} {H : Heap} {els : List (List V)} (ho : o.op = .convert src dst x) (hx : ev T x = some (.sl l u 0 n 1)) (hs : (tys src).k = .slice e) (hd : (tys dst).k = .str)
    (he : (tys e).k = .int .u8) (hg : hget H l u = some (.row e' els)) (hn : els.length = n) (hb : els.all isByte = true) (nx : Nat) : HStep P o T H nx (.s (strOf els)) H nx := by
  intro F ρ w a hst hh next Q k
  have g1 := ev_R hh hx (fun t ht => mem_tmpsOf (x := x) (by simp [ho, Op.operands]) ht)
  obtain ⟨news, hsrc, hr, hl⟩ := src_own (P := P) hst g1 hg (by omega)
  have hnews := hr
  simp only [List.drop_zero] at hnews hsrc
  rw [List.take_of_length_le (by omega)] at hnews
  have hus := Rs.bytes hnews hb
  simp only [R] at g1
  obtain ⟨L, b, cap, hL, hLz, hev, hnc, hcm, _⟩ := g1
  have hcells := hsrc.cells
  rw [hev] at hcells
  have hconv : (convert src dst (.slice b n cap)).run P w = (Conv.bytesToString (.slice b n cap)).run P w := by
    simp only [convert, Sem.run_bind, run_underlying (sig_slice hT hs), run_underlying (sig_str hT hd), run_underlying (sig_int hT he), Result.andThen_ok]
  have hbt : (Conv.bytesToString (.slice b n cap)).run P w = .ok (.string (strOf els)) w := by
    cases b with
    | none =>
      simp only [Builtin.firstCells, Sem.run_pure, Result.ok.injEq, and_true] at hcells
      have : news = [] := by
        have h2 := congrArg Array.toList hcells
        simpa using h2.symm
      subst this
      have : els = [] := by
        cases els with
        | nil => rfl
        | cons a b => simp at hus
      subst this
      rfl
    | some ad =>
      simp only [Builtin.firstCells, Nat.mul_one] at hcells
      simp only [Conv.bytesToString, Sem.run_bind, hcells, Result.andThen_ok]
      have e4 : news = (els.map byteOf).map fun b => Value.int .u8 b.toNat := by rw [hus, List.map_map]; rfl
      have e5 : (forIn news.toArray ByteArray.empty (fun c (s : ByteArray) => do
          let .int .u8 n := c | stuck "bytesToString: byte expected"
          pure (ForInStep.yield (s.push (UInt8.ofNat n.toNat))) : Value → ByteArray → Sem (ForInStep ByteArray))).run P w = .ok ((els.map byteOf).foldl (fun (s : ByteArray) b => s.push b) ByteArray.empty) w := by
        rw [List.forIn_toArray, e4]
        exact run_pushBytes P w _ _
      have e6 : (els.map byteOf).foldl (fun (s : ByteArray) b => s.push b) ByteArray.empty = strOf els := by
        rw [pushAll]
        apply WideShapes.bytes_inj
        simp [ByteArray.data_append, strOf]
      rw [e6] at e5
      refine (congrArg (fun r => Result.andThen r _) e5).trans ?_
      rfl
  have hrun : (execOp a.eval o).run P w = .ok (.value (.string (strOf els))) w := by
    simp [execOp, ho, hev, hconv, hbt]
  unfold Oper.wp
  rw [hrun]
  refine k ρ _ w hst (Evo.refl _ _ _ _) ?_
  simp only [R]
  exact ⟨trivial, by rw [strOf_size, hn]; omega⟩

/-- A slice built, and owned. -/
theorem h_buildSlice (hT : Sig P tys) {t e len : Nat} {parts : Array (Nat × Operand)} {ps : List (Nat × V)} {els : List (List V)} (ho : o.op = .buildSlice t len parts) (hx : evp T parts.toList = some ps)
    (ht : (tys t).k = .slice e) (hk : (tys e).k ≠ .other) (hz0 : (tys e).size ≠ 0) (hsz : len * (tys e).size ≤ 65536) (hf : fillE (tys e).size (List.replicate len (tys e).zero) ps = some els) (H : Heap) (nx : Nat) :
    HStep P o T H nx (.sl nx 0 0 len (tys e).size) ((nx, 0, .row e els) :: H) (nx + 1) := by
  intro F ρ w a hs hh next Q k
  have hq := evp_R hh parts.toList ps (fun x hx t ht => mem_tmpsOf (x := x.2) (by simp only [ho, Op.operands]; simp; exact ⟨x.1, by simpa using hx⟩) ht) hx
  obtain ⟨z, hz, hzr, hzs⟩ := sig_zero hT hk (ctx F ρ H w)
  obtain ⟨hzero, hzl⟩ := zeroRow (len := len) hzr hzs (by omega)
  obtain ⟨arr', h1, h2, h3, h4⟩ := fill_els ps _ _ _ els hzl hq hzero hf
  rw [List.length_replicate] at h4
  have harr : arr'.size = len * (tys e).size := by
    have := h2.length
    rw [flat_length h3, h4] at this
    simpa using this.symm
  have hlen : len ≤ maxLen := by
    have : len * 1 ≤ len * (tys e).size := Nat.mul_le_mul_left _ (by omega)
    unfold maxLen; omega
  have := hs.newRow (e := e) (sz := (tys e).size) (cap := len) (els := els) (cur := arr') (by omega) harr (by omega) hlen h3 (by rw [h4, List.take_of_length_le (by simp [harr])]; exact h2)
  have hcond : ¬ (len * (tys e).size > 2 ^ 24) := by omega
  have e2 : (parts.map fun (i, x) => (i, a.eval x)).toList = parts.toList.map fun p => (p.1, a.eval p.2) := by simp
  have e1 : (Instr.buildSlice t len (parts.map fun (i, x) => (i, a.eval x))).run P w = .ok (.slice (some ⟨w.heap.size, 0, none⟩) len len) (w.alloc (.cells arr' e)) := by
    simp only [Instr.buildSlice, Sem.run_bind, run_underlying (sig_slice hT ht), Result.andThen_ok, sig_size hT hk]
    by_cases h0 : len * (tys e).size = 0
    · have e0 : ∀ f : Nat → Value, (Array.range (len * (tys e).size)).map f = #[] := fun f => by rw [h0]; simp
      rw [e0] at h1
      rw [if_neg hcond]
      simp only [Sem.run_pure, Result.andThen_ok, if_pos h0, Sem.run_bind, e0, e2, h1, newRow, run_newObj]
      rfl
    · rw [if_neg hcond]
      simp only [Sem.run_pure, Result.andThen_ok, if_neg h0, Sem.run_bind, hz, e2, h1, newRow, run_newObj]
      rfl
  have hrun : (execOp a.eval o).run P w = .ok (.value (.slice (some ⟨w.heap.size, 0, none⟩) len len)) (w.alloc (.cells arr' e)) := by simp [execOp, ho, e1]
  unfold Oper.wp
  rw [hrun]
  refine k _ _ _ this.1 this.2 ?_
  simp only [R]
  exact ⟨⟨w.heap.size, 0, (tys e).size, len, e⟩, some ⟨w.heap.size, 0, none⟩, len, by simp [ctx, nset], rfl, by simp, Nat.le_refl _, hlen, .inr (by simp)⟩

/-- An operation that only reads. -/
def isRd (o : Oper) : Bool := match o.op with
  | .load .. | .lookup .. | .convert .. => true
  | _ => false

theorem vcOp_sound (hT : Sig P tys) {ro wf : Bool} {H : Heap} {nx : Nat} {K : V → Heap → Nat → Bool → Prop} (h : vcOp P tys ro wf o T H nx K) :
    ∃ v H' nx' t, (t = false → H' = H ∧ nx' = nx ∧ PStep P o T v) ∧ (t = true → HStep P o T H nx v H' nx') ∧ (isRd o = true → H' = H ∧ nx' = nx) ∧ ((wf = true → Wf v) → K v H' nx' t) := by
  unfold vcOp at h
  split at h
  · rename_i p v hpop
    exact ⟨v, H, nx, false, fun _ => ⟨rfl, rfl, pop_sound hT hpop h.1⟩, (fun e => by cases e), fun _ => ⟨rfl, rfl⟩, fun _ => h.2⟩
  · have tt : ∀ {v H' nx'}, HStep P o T H nx v H' nx' → K v H' nx' true → (isRd o = true → H' = H ∧ nx' = nx) → ∃ v H' nx' t, (t = false → H' = H ∧ nx' = nx ∧ PStep P o T v) ∧ (t = true → HStep P o T H nx v H' nx') ∧ (isRd o = true → H' = H ∧ nx' = nx) ∧ ((wf = true → Wf v) → K v H' nx' t) :=
      fun {v H' nx'} hs hk hr => ⟨v, H', nx', true, (fun e => by cases e), fun _ => hs, hr, fun _ => hk⟩
    cases ho : o.op <;> rw [ho] at h <;> simp only [hop] at h
    case alloc t => exact tt (h_alloc hT ho h.1 h.2.1 H nx) h.2.2 (fun e => by simp [isRd, ho] at e)
    case box t x =>
      split at h
      · rename_i v hx
        split at h
        · rename_i cs hc
          exact tt (h_box ho hx hc h.1 H nx) h.2 (fun e => by simp [isRd, ho] at e)
        · exact h.elim
      · exact h.elim
    case load t x =>
      split at h
      · rename_i l u j f hx
        split at h
        · rename_i e els hg
          obtain ⟨el, hj, h⟩ := h
          split at h
          · exact h.elim
          · rename_i fs hk
            exact tt (h_load hT ho hx hg hj (by rw [hk]; simp) (.inl ⟨by rw [hk]; rfl, h.1, rfl⟩) nx) h.2 (fun _ => ⟨rfl, rfl⟩)
          · rename_i hk1 hk2
            obtain ⟨v, hv, h⟩ := h
            refine tt (h_load hT ho hx hg hj hk1 (.inr ⟨?_, hv⟩) nx) h (fun _ => ⟨rfl, rfl⟩)
            cases hkk : (tys t).k <;> first | rfl | exact absurd hkk (hk2 _)
        · exact h.elim
      · exact h.elim
    case store t x y =>
      split at h
      · rename_i l u j f v hx hy
        split at h
        · rename_i e els cs hg hc
          obtain ⟨el, hj, hk, hsz, hf, h⟩ := h
          exact tt (h_store hT ho hx hy hc hg hj hk hsz hf nx) h (fun e => by simp [isRd, ho] at e)
        · exact h.elim
      · exact h.elim
    case buildSlice t len parts =>
      split at h
      · rename_i e ps ht hx
        obtain ⟨h1, h2, h3, h⟩ := h
        split at h
        · rename_i els hf
          exact tt (h_buildSlice hT ho hx ht h1 h2 h3 hf H nx) h (fun e => by simp [isRd, ho] at e)
        · exact h.elim
      · exact h.elim
    case makeMap t r =>
      cases r with
      | none => exact tt (h_makeMap ho H nx) h (fun e => by simp [isRd, ho] at e)
      | some r => exact h.elim
    case lookup t m k ok =>
      split at h
      · rename_i l x kt et hm hk ht
        split at h
        · rename_i es hg
          obtain ⟨hx, hf, het, r, hr, h⟩ := h
          subst hr
          split at h
          · rename_i fs hkk
            exact tt (h_lookup hT ho hm hk ht hg hx hf het (.inl ⟨by rw [hkk]; rfl, rfl⟩) nx) h (fun _ => ⟨rfl, rfl⟩)
          · rename_i hkk
            split at h
            · rename_i z hz
              refine tt (h_lookup hT ho hm hk ht hg hx hf het (.inr ⟨?_, hz⟩) nx) h (fun _ => ⟨rfl, rfl⟩)
              cases hkk2 : (tys et).k <;> first | rfl | exact absurd hkk2 (hkk _)
            · exact h.elim
        · exact h.elim
      · exact h.elim
    case mapUpdate t m k y =>
      split at h
      · rename_i l x v kt et hm hk hy ht
        split at h
        · rename_i es hg
          exact tt (h_mapUpdate hT ho hm hk hy ht hg h.1 h.2.1 nx) h.2.2 (fun e => by simp [isRd, ho] at e)
        · exact h.elim
      · exact h.elim
    case convert src dst x =>
      split at h
      · rename_i e l u n hs hd hx
        split at h
        · rename_i e' els hg
          exact tt (h_str hT ho hx hs hd h.1 hg h.2.1 h.2.2.1 nx) h.2.2.2 (fun _ => ⟨rfl, rfl⟩)
        · exact h.elim
      · exact h.elim
    case call c =>
      obtain ⟨callee, args, argTypes⟩ := c
      cases callee with
      | invoke _ _ => exact h.elim
      | builtin b =>
        cases b <;> (try exact h.elim)
        simp only at h
        split at h
        · rename_i s x t t2 ha hat
          split at h
          · rename_i e l u n sz v ht hs hx
            split at h
            · rename_i e' els hg
              split at h
              · rename_i p xs hv
                obtain ⟨rfl, h1, h2, h3, h4, h5, h6, h7, h8, h9⟩ := h
                exact tt (h_append hT ho ha hat hs hx ht h1 h2 h3 h4 hg h5 hv h6 (by unfold maxLen; exact h7) h8 nx) h9 (fun e => by simp [isRd, ho] at e)
              · exact h.elim
            · exact h.elim
          · rename_i e v ht hs hx
            split at h
            · rename_i p xs hv
              obtain ⟨h1, h2, h4, h6, h7, h8, h9⟩ := h
              exact tt (h_append_nil hT ho ha hat hs hx ht h1 h2 h4 hv h6 (by unfold maxLen; exact h7) h8 nx) h9 (fun e => by simp [isRd, ho] at e)
            · exact h.elim
          · exact h.elim
        · exact h.elim
      | value f =>
        simp only at h
        split at h
        · rename_i fid cap vs hf hx
          rcases h with ⟨v, hC, h⟩ | ⟨H1, H2, v, H1', nx', hp, hC, h⟩
          · exact ⟨v, H, nx, false, fun _ => ⟨rfl, rfl, p_call ho hf hx hC⟩, (fun e => by cases e), (fun _ => ⟨rfl, rfl⟩), h⟩
          · exact ⟨v, _, nx', true, (fun e => by cases e), fun _ => h_call ho hf hx hp hC, (fun e => by simp [isRd, ho] at e), h⟩
        · exact h.elim
    all_goals exact h.elim

end
end Go.L1
