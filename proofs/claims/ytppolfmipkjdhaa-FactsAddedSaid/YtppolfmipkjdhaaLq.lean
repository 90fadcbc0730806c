import Derived.Test.YtppolfmipkjdhaaLp
/-! L1, part q: a region whose order is open. -/
set_option linter.all false
namespace Go.L1
open Go.RowKit
variable [Zero Prop]

/-- Operation j waits for operation i, by a chain of at most 'fuel' edges. -/
def waits (ops : Array Oper) (i : Nat) : Nat → Nat → Bool
  | 0, _ => false
  | fuel + 1, j => match ops[j]? with
    | some o => o.after.any fun e => Region.binds .any e && (e.on == i || waits ops i fuel e.on)
    | none => false

def looks (ops : Array Oper) (o : Oper) : List Nat :=
  opTmps o ++ (match o.guard with
    | some (g, _) => (dstOf ops g).toList
    | none => [])

/-- Two operations that must keep their order, for what they read and write. -/
def bound (ops : Array Oper) (x y : Oper) : Bool :=
  (match x.dst with
   | some d => (looks ops y).contains d || y.dst == some d
   | none => false) ||
  (match y.dst with
   | some d => (looks ops x).contains d
   | none => false)

/-- The order does not matter: what is bound waits; what touched what is owned waits; edges lead back. -/
def drawOk (ops : Array Oper) (tl : List Nat) : Bool :=
  (List.range ops.size).all fun j => match ops[j]? with
    | none => true
    | some y => (y.after.all fun e => !Region.binds .any e || e.on < j) &&
      (List.range j).all fun i => match ops[i]? with
        | none => true
        | some x => !(bound ops x y || (tl.contains i && tl.contains j && !(isRd x && isRd y))) || waits ops i ops.size j

section
variable {P : Program} {tys : Nat → TI} {ops : Array Oper}

structure Trace (P : Program) (ops : Array Oper) (lo : Nat) (E : Nat → Nat → Option V) (G : Nat → Heap) (N : Nat → Nat) (val : Nat → V) (ex tch : Nat → Bool) : Prop where
  guard : ∀ i, lo ≤ i → ∀ o, ops[i]? = some o → match o.guard with
    | none => ex i = true
    | some (j, want) => ∃ d y, dstOf ops j = some d ∧ E i d = some y ∧ ((∃ x, y = .b x ∧ ex i = (x == want)) ∨ (y = .tup [] ∧ ex i = false))
  env : ∀ i, lo ≤ i → ∀ o, ops[i]? = some o → ∀ t, E (i + 1) t = if o.dst = some t then some (val i) else E i t
  skip : ∀ i, lo ≤ i → i < ops.size → ex i = false → val i = .tup [] ∧ tch i = false
  still : ∀ i, lo ≤ i → i < ops.size → tch i = false → G (i + 1) = G i ∧ N (i + 1) = N i
  calm : ∀ i, lo ≤ i → ∀ o, ops[i]? = some o → isRd o = true → G (i + 1) = G i ∧ N (i + 1) = N i
  quiet : ∀ i, lo ≤ i → ∀ o, ops[i]? = some o → ex i = true → tch i = false → ∃ T, (∀ t, Env.get T t = E i t) ∧ PStep P o T (val i)
  loud : ∀ i, lo ≤ i → ∀ o, ops[i]? = some o → ex i = true → tch i = true → ∃ T, (∀ t, Env.get T t = E i t) ∧ HStep P o T (G i) (N i) (val i) (G (i + 1)) (N (i + 1))

theorem vcOps_trace (hT : Sig P tys) {ro : Nat → Bool} {n : Nat} {K : Env → Heap → Nat → List Nat → Prop} :
    ∀ (l : List Oper) (i : Nat) (T : Env) (H : Heap) (nx : Nat) (tl : List Nat), l = ops.toList.drop i → i ≤ ops.size → vcOps P tys ro false n ops K l i T H nx tl →
      ∃ E G N val ex tch, Trace P ops i E G N val ex tch ∧ E i = T.get ∧ G i = H ∧ N i = nx ∧ (∀ k o, i ≤ k → ops[k]? = some o → ∀ d, o.dst = some d → d < n) ∧
        ∃ T' tl', K T' (G ops.size) (N ops.size) tl' ∧ (∀ t, T'.get t = E ops.size t) ∧ (∀ k, i ≤ k → k < ops.size → tch k = true → k ∈ tl') ∧ (∀ k ∈ tl, k ∈ tl')
  | [], i, T, H, nx, tl, hl, hi, h => by
    have hsz : i = ops.size := by
      have := congrArg List.length hl
      simp at this
      omega
    subst hsz
    refine ⟨fun _ => T.get, fun _ => H, fun _ => nx, fun _ => .tup [], fun _ => false, fun _ => false, ?_, rfl, rfl, rfl, ?_, T, tl, h, fun _ => rfl, fun k h1 h2 => by omega, fun k hk => hk⟩
    · have hno : ∀ k, ops.size ≤ k → ∀ o, ops[k]? ≠ some o := fun k hk o ho => by
        have := (Array.getElem?_eq_some_iff.1 ho).1; omega
      exact ⟨fun k hk o ho => absurd ho (hno k hk o), fun k hk o ho => absurd ho (hno k hk o), fun k hk h => by omega, fun k hk h => by omega, fun k hk o ho => absurd ho (hno k hk o), fun k hk o ho => absurd ho (hno k hk o), fun k hk o ho => absurd ho (hno k hk o)⟩
    · intro k o hk ho
      have := (Array.getElem?_eq_some_iff.1 ho).1; omega
  | o :: rest, i, T, H, nx, tl, hl, hi, h => by
    have hoi : ops[i]? = some o := by
      have := congrArg (fun l => l[0]?) hl
      simpa using this.symm
    have hilt : i < ops.size := (Array.getElem?_eq_some_iff.1 hoi).1
    have hrest : rest = ops.toList.drop (i + 1) := by
      have := congrArg List.tail hl
      simpa using this
    simp only [vcOps] at h
    obtain ⟨hdst, h⟩ := h
    -- put a step in front
    have front : ∀ (v : V) (H' : Heap) (nx' : Nat) (t ex0 : Bool) (T2 : Env) (tl2 : List Nat), (∀ s, T2.get s = if o.dst = some s then some v else T.get s) →
        (match o.guard with | none => ex0 = true | some (j, want) => ∃ d y, dstOf ops j = some d ∧ T.get d = some y ∧ ((∃ x, y = .b x ∧ ex0 = (x == want)) ∨ (y = .tup [] ∧ ex0 = false))) →
        (ex0 = false → v = .tup [] ∧ t = false) → (t = false → H' = H ∧ nx' = nx) → (isRd o = true → H' = H ∧ nx' = nx) → (ex0 = true → t = false → ∃ T', (∀ s, Env.get T' s = T.get s) ∧ PStep P o T' v) →
        (ex0 = true → t = true → ∃ T', (∀ s, Env.get T' s = T.get s) ∧ HStep P o T' H nx v H' nx') → (∀ k ∈ tl, k ∈ tl2) → (t = true → i ∈ tl2) →
        vcOps P tys ro false n ops K rest (i + 1) T2 H' nx' tl2 → ∃ E G N val ex tch, Trace P ops i E G N val ex tch ∧ E i = T.get ∧ G i = H ∧ N i = nx ∧ (∀ k o, i ≤ k → ops[k]? = some o → ∀ d, o.dst = some d → d < n) ∧
        ∃ T' tl', K T' (G ops.size) (N ops.size) tl' ∧ (∀ t, T'.get t = E ops.size t) ∧ (∀ k, i ≤ k → k < ops.size → tch k = true → k ∈ tl') ∧ (∀ k ∈ tl, k ∈ tl') := by
      intro v H' nx' t ex0 T2 tl2 hT2 hguard hskip hstill hcalm hquiet hloud htl hti hv
      obtain ⟨E, G, N, val, ex, tch, tr, e1, e2, e3, e4, T', tl', e5, e6, e7, e8⟩ := vcOps_trace hT rest (i + 1) T2 H' nx' tl2 hrest hilt hv
      have ne : ∀ k, i + 1 ≤ k → (k == i) = false := fun k hk => by simp; omega
      refine ⟨fun k => if k == i then T.get else E k, fun k => if k == i then H else G k, fun k => if k == i then nx else N k, fun k => if k == i then v else val k, fun k => if k == i then ex0 else ex k, fun k => if k == i then t else tch k, ?_, by simp, by simp, by simp, ?_, T', tl', ?_, ?_, ?_, fun k hk => e8 k (htl k hk)⟩
      · have hi1 : (i + 1 == i) = false := ne _ (Nat.le_refl _)
        constructor
        · intro k hk o' ho'
          rcases Nat.eq_or_lt_of_le hk with rfl | hlt
          · obtain rfl := Option.some.inj (hoi.symm.trans ho')
            simp only [beq_self_eq_true, if_true]
            exact hguard
          · simp only [ne k hlt]
            exact tr.guard k hlt o' ho'
        · intro k hk o' ho' s
          have hk1 : (k + 1 == i) = false := by simp; omega
          rcases Nat.eq_or_lt_of_le hk with rfl | hlt
          · obtain rfl := Option.some.inj (hoi.symm.trans ho')
            simp only [beq_self_eq_true, if_true, hk1, e1, hT2]
            exact hT2 s
          · simp only [ne k hlt, hk1]
            exact tr.env k hlt o' ho' s
        · intro k hk hks
          rcases Nat.eq_or_lt_of_le hk with rfl | hlt
          · simp only [beq_self_eq_true, if_true]; exact hskip
          · simp only [ne k hlt]; exact tr.skip k hlt hks
        · intro k hk hks
          have hk1 : (k + 1 == i) = false := by simp; omega
          rcases Nat.eq_or_lt_of_le hk with rfl | hlt
          · simp only [beq_self_eq_true, if_true, hk1]
            intro ht
            obtain ⟨g1, g2⟩ := hstill ht
            exact ⟨e2.trans g1, e3.trans g2⟩
          · simp only [ne k hlt, hk1]; exact tr.still k hlt hks
        · intro k hk o' ho' hks
          have hk1 : (k + 1 == i) = false := by simp; omega
          rcases Nat.eq_or_lt_of_le hk with rfl | hlt
          · obtain rfl := Option.some.inj (hoi.symm.trans ho')
            simp only [beq_self_eq_true, if_true, hk1]
            obtain ⟨g1, g2⟩ := hcalm hks
            exact ⟨e2.trans g1, e3.trans g2⟩
          · simp only [ne k hlt, hk1]; exact tr.calm k hlt o' ho' hks
        · intro k hk o' ho'
          rcases Nat.eq_or_lt_of_le hk with rfl | hlt
          · obtain rfl := Option.some.inj (hoi.symm.trans ho')
            simp only [beq_self_eq_true, if_true]; exact hquiet
          · simp only [ne k hlt]; exact tr.quiet k hlt o' ho'
        · intro k hk o' ho'
          have hk1 : (k + 1 == i) = false := by simp; omega
          rcases Nat.eq_or_lt_of_le hk with rfl | hlt
          · obtain rfl := Option.some.inj (hoi.symm.trans ho')
            simp only [beq_self_eq_true, if_true, hk1]
            intro h1 h2
            have := hloud h1 h2
            change ∃ T', _ ∧ HStep P o T' H nx v (G (i + 1)) (N (i + 1))
            rw [e2, e3]; exact this
          · simp only [ne k hlt, hk1]; exact tr.loud k hlt o' ho'
      · intro k o' hk ho'
        rcases Nat.eq_or_lt_of_le hk with rfl | hlt
        · obtain rfl := Option.some.inj (hoi.symm.trans ho'); exact hdst
        · exact e4 k o' hlt ho'
      · have : (ops.size == i) = false := by simp; omega
        simp only [this]; exact e5
      · have : (ops.size == i) = false := by simp; omega
        simp only [this]; exact e6
      · intro k hk hks
        rcases Nat.eq_or_lt_of_le hk with rfl | hlt
        · simp only [beq_self_eq_true, if_true]
          exact fun ht => e8 _ (hti ht)
        · simp only [ne k hlt]; exact e7 k hlt hks
    have stepped : ∀ T0 : Env, (∀ s, T0.get s = T.get s) → (match o.guard with | none => true = true | some (j, want) => ∃ d y, dstOf ops j = some d ∧ T.get d = some y ∧ ((∃ x, y = .b x ∧ true = (x == want)) ∨ (y = .tup [] ∧ true = false))) →
        vcOp P tys (ro (o.dst.getD 0)) false o T0 H nx (fun v H' nx' t => vcOps P tys ro false n ops K rest (i + 1) (T0.put o.dst v) H' nx' (if t then i :: tl else tl)) →
        ∃ E G N val ex tch, Trace P ops i E G N val ex tch ∧ E i = T.get ∧ G i = H ∧ N i = nx ∧ (∀ k o, i ≤ k → ops[k]? = some o → ∀ d, o.dst = some d → d < n) ∧
        ∃ T' tl', K T' (G ops.size) (N ops.size) tl' ∧ (∀ t, T'.get t = E ops.size t) ∧ (∀ k, i ≤ k → k < ops.size → tch k = true → k ∈ tl') ∧ (∀ k ∈ tl, k ∈ tl') := by
      intro T0 hT0 hg hop
      obtain ⟨v, H', nx', t, h1, h2, h4, h3⟩ := vcOp_sound hT hop
      refine front v H' nx' t true (T0.put o.dst v) (if t then i :: tl else tl) (fun s => ?_) hg (fun e => by cases e) (fun e => ⟨(h1 e).1, (h1 e).2.1⟩) h4 (fun _ e => ⟨T0, hT0, (h1 e).2.2⟩) (fun _ e => ⟨T0, hT0, h2 e⟩)
        (fun k hk => by cases t <;> simp [hk]) (fun e => by simp [e]) (h3 (fun e => by cases e))
      cases hd : o.dst with
      | none => simp [Env.put, hT0]
      | some d =>
        rw [get_put, hT0]
        simp
    cases hg : o.guard with
    | none =>
      rw [hg] at h
      exact stepped T (fun _ => rfl) (by rw [hg]) h
    | some jw =>
      obtain ⟨j, want⟩ := jw
      rw [hg] at h
      simp only at h
      split at h
      · exact h.elim
      · rename_i d hdj
        split at h
        · rename_i x hx
          by_cases hxw : x = want
          · subst hxw
            exact stepped _ (put_same hx) (by rw [hg]; exact ⟨d, _, hdj, hx, .inl ⟨x, rfl, by simp⟩⟩) (h.1 rfl)
          · have hxw2 : x = !want := by cases x <;> cases want <;> simp at hxw ⊢
            subst hxw2
            refine front (.tup []) H nx false false ((T.put (some d) (.b (!want))).put o.dst (.tup [])) tl (fun s => ?_) (by rw [hg]; exact ⟨d, _, hdj, hx, .inl ⟨!want, rfl, by simp⟩⟩) (fun _ => ⟨rfl, rfl⟩) (fun _ => ⟨rfl, rfl⟩) (fun _ => ⟨rfl, rfl⟩) (fun e => by cases e) (fun e => by cases e)
              (fun k hk => hk) (fun e => by cases e) (h.2 rfl)
            cases hd : o.dst with
            | none => simp only [Env.put]; rw [← put_same hx s]; simp [Env.put]
            | some d' =>
              rw [get_put, put_same hx]
              simp
        · rename_i hx
          refine front (.tup []) H nx false false (T.put o.dst (.tup [])) tl (fun s => ?_) (by rw [hg]; exact ⟨d, _, hdj, hx, .inr ⟨rfl, rfl⟩⟩) (fun _ => ⟨rfl, rfl⟩) (fun _ => ⟨rfl, rfl⟩) (fun _ => ⟨rfl, rfl⟩) (fun e => by cases e) (fun e => by cases e)
              (fun k hk => hk) (fun e => by cases e) h
          cases hd : o.dst with
          | none => simp [Env.put]
          | some d' =>
            rw [get_put]
            simp
        · exact h.elim

/-! ### Whatever order -/

/-- The environment once the operations of S below m are done. -/
def envAt (ops : Array Oper) (E0 : Nat → Option V) (val : Nat → V) (S : Nat → Bool) : Nat → Nat → Option V
  | 0, t => E0 t
  | m + 1, t => if S m = true ∧ dstOf ops m = some t then some (val m) else envAt ops E0 val S m t

theorem envAt_trace {E G N val ex tch} (tr : Trace P ops 0 E G N val ex tch) : ∀ m, m ≤ ops.size → ∀ t, E m t = envAt ops (E 0) val (fun _ => true) m t
  | 0, _, t => rfl
  | m + 1, hm, t => by
    have hlt : m < ops.size := hm
    have ho : ops[m]? = some ops[m] := Array.getElem?_eq_getElem hlt
    rw [tr.env m (Nat.zero_le _) _ ho t, envAt, envAt_trace tr m (by omega) t]
    simp [dstOf, ho]

theorem envAt_congr {E0 : Nat → Option V} {val : Nat → V} {S S' : Nat → Bool} {t : Nat} : ∀ m, (∀ k, k < m → dstOf ops k = some t → S k = S' k) → envAt ops E0 val S m t = envAt ops E0 val S' m t
  | 0, _ => rfl
  | m + 1, h => by
    simp only [envAt]
    rw [envAt_congr m (fun k hk => h k (by omega))]
    by_cases hd : dstOf ops m = some t
    · rw [h m (by omega) hd]
    · simp [hd]

theorem envAt_none {E0 : Nat → Option V} {val : Nat → V} {S : Nat → Bool} {t : Nat} {m : Nat} : ∀ m', m ≤ m' → (∀ k, m ≤ k → k < m' → dstOf ops k = some t → S k = false) → envAt ops E0 val S m' t = envAt ops E0 val S m t
  | 0, hm, _ => by have : m = 0 := by omega
                   subst this; rfl
  | m' + 1, hm, h => by
    rcases Nat.eq_or_lt_of_le hm with rfl | hlt
    · rfl
    · simp only [envAt]
      rw [if_neg (fun hh => by rw [h m' (by omega) (by omega) hh.2] at hh; exact absurd hh.1 (by simp))]
      exact envAt_none m' (by omega) (fun k h1 h2 => h k h1 (by omega))

/-- What is listed is closed under the edges that bind. -/
def Closed (ops : Array Oper) (L : Array Bool) : Prop := ∀ j o, ops[j]? = some o → L.getD j false = true → ∀ e ∈ o.after, Region.binds .any e = true → L.getD e.on false = true

theorem waits_listed {L : Array Bool} {i : Nat} (hc : Closed ops L) : ∀ (fuel j : Nat), waits ops i fuel j = true → L.getD j false = true → L.getD i false = true
  | 0, _, h, _ => by simp [waits] at h
  | fuel + 1, j, h, hl => by
    unfold waits at h
    cases ho : ops[j]? with
    | none => rw [ho] at h; simp at h
    | some o =>
      rw [ho] at h
      obtain ⟨e, he, h1⟩ := Array.any_eq_true'.1 h
      simp only [Bool.and_eq_true, Bool.or_eq_true, beq_iff_eq] at h1
      have hle := hc j o ho hl e he h1.1
      rcases h1.2 with h2 | h2
      · rw [← h2]; exact hle
      · exact waits_listed hc fuel e.on h2 hle

/-- What is ready: all that it waits for is listed. -/
theorem waits_ready {L : Array Bool} {i j : Nat} (hc : Closed ops L) {o : Oper} (ho : ops[j]? = some o) (hr : ∀ e ∈ o.after, Region.binds .any e = true → L.getD e.on false = true) : ∀ (fuel : Nat), waits ops i fuel j = true → L.getD i false = true
  | 0, h => by simp [waits] at h
  | fuel + 1, h => by
    unfold waits at h
    rw [ho] at h
    obtain ⟨e, he, h1⟩ := Array.any_eq_true'.1 h
    simp only [Bool.and_eq_true, Bool.or_eq_true, beq_iff_eq] at h1
    have hle := hr e he h1.1
    rcases h1.2 with h2 | h2
    · rw [← h2]; exact hle
    · exact waits_listed hc fuel e.on h2 hle

theorem mem_ready' {L : Array Bool} {i : Nat} (h : i ∈ Region.ready .any ops L) : L.getD i true = false ∧ ∃ o, ops[i]? = some o ∧ ∀ e ∈ o.after, Region.binds .any e = true → L.getD e.on false = true := by
  unfold Region.ready at h
  obtain ⟨h1, h2⟩ := List.mem_filter.1 h
  simp only [Bool.and_eq_true, Bool.not_eq_true'] at h2
  obtain ⟨h2, h3⟩ := h2
  have hlt := List.mem_range.1 h1
  refine ⟨h2, ops[i], Array.getElem?_eq_getElem hlt, fun e he hb => ?_⟩
  rw [Array.getElem?_eq_getElem hlt] at h3
  simp only [Option.map_some, Option.getD_some] at h3
  have := Array.all_eq_true_iff_forall_mem.1 h3 e he
  simpa [hb] using this

theorem drawOk_spec {tl : List Nat} (h : drawOk ops tl = true) {j : Nat} {y : Oper} (hy : ops[j]? = some y) :
    (∀ e ∈ y.after, Region.binds .any e = true → e.on < j) ∧ ∀ i x, i < j → ops[i]? = some x → (bound ops x y = true ∨ (i ∈ tl ∧ j ∈ tl ∧ (isRd x && isRd y) = false)) → waits ops i ops.size j = true := by
  have hj : j < ops.size := (Array.getElem?_eq_some_iff.1 hy).1
  have h1 := List.all_eq_true.1 h j (List.mem_range.2 hj)
  rw [hy] at h1
  simp only [Bool.and_eq_true] at h1
  refine ⟨fun e he hb => ?_, fun i x hi hx hbd => ?_⟩
  · have := Array.all_eq_true_iff_forall_mem.1 h1.1 e he
    simpa [hb] using this
  · have h2 := List.all_eq_true.1 h1.2 i (List.mem_range.2 hi)
    rw [hx] at h2
    simp only [Bool.or_eq_true, Bool.not_eq_true'] at h2
    rcases h2 with h2 | h2
    · exfalso
      rcases hbd with hb | ⟨ha, hb, hc⟩
      · rw [hb] at h2; simp at h2
      · simp at h2; have := h2.2 ha hb; rw [this.1, this.2] at hc; cases hc
    · exact h2

theorem getD_set {L : Array Bool} {i k : Nat} {b : Bool} (hi : i < L.size) : (L.setIfInBounds i true).getD k b = if i = k then true else L.getD k b := by
  simp only [Array.getD_eq_getD_getElem?]
  by_cases h : i = k
  · subst h; simp [hi]
  · simp [Array.getElem?_setIfInBounds_ne h, h]

def unlisted (L : Array Bool) (n : Nat) : Nat := ((List.range n).filter fun k => !L.getD k false).length

theorem unlisted_set {L : Array Bool} {i n : Nat} (hi : i < L.size) (hn : i < n) (hu : L.getD i false = false) : unlisted (L.setIfInBounds i true) n + 1 = unlisted L n := by
  unfold unlisted
  have : ∀ m, ((List.range m).filter fun k => !(L.setIfInBounds i true).getD k false).length + (if i < m then 1 else 0) = ((List.range m).filter fun k => !L.getD k false).length := by
    intro m
    induction m with
    | zero => simp
    | succ m ih =>
      rw [List.range_succ, List.filter_append, List.filter_append, List.length_append, List.length_append]
      by_cases h1 : i = m
      · subst h1
        have f1 : List.filter (fun k => !(L.setIfInBounds i true).getD k false) [i] = [] := by rw [List.filter_cons, getD_set hi]; simp
        have f2 : List.filter (fun k => !L.getD k false) [i] = [i] := by rw [List.filter_cons, hu]; simp
        rw [f1, f2]
        rw [if_neg (Nat.lt_irrefl _)] at ih
        rw [if_pos (Nat.lt_succ_self _)]
        simp only [List.length_nil, List.length_cons]
        omega
      · have h2 : ((List.filter (fun k => !(L.setIfInBounds i true).getD k false) [m]).length) = (List.filter (fun k => !L.getD k false) [m]).length := by
          simp [List.filter_cons, getD_set hi, h1]
        rw [h2]
        have : (if i < m + 1 then 1 else 0) = if i < m then 1 else 0 := by
          by_cases h3 : i < m
          · rw [if_pos h3, if_pos (by omega)]
          · rw [if_neg h3, if_neg (by omega)]
        rw [this]; omega
  have := this n
  rw [if_pos hn] at this
  exact this


/-- Operation k changes what is owned. -/
def wr (ops : Array Oper) (tch : Nat → Bool) (k : Nat) : Bool := tch k && (match ops[k]? with
  | some o => !isRd o
  | none => false)
theorem wr_spec {tch : Nat → Bool} {k : Nat} (h : wr ops tch k = true) : ∃ x, ops[k]? = some x ∧ tch k = true ∧ isRd x = false := by
  simp only [wr, Bool.and_eq_true] at h
  obtain ⟨h1, h2⟩ := h
  split at h2
  · rename_i o ho; exact ⟨o, ho, h1, by simpa using h2⟩
  · cases h2
theorem Trace.rest {E G N val ex tch} (tr : Trace P ops 0 E G N val ex tch) {m : Nat} (hm : m < ops.size) (h : wr ops tch m = false) : G (m + 1) = G m ∧ N (m + 1) = N m := by
  cases ht : tch m with
  | false => exact tr.still m (Nat.zero_le _) hm ht
  | true =>
    have ho : ops[m]? = some ops[m] := Array.getElem?_eq_getElem hm
    exact tr.calm m (Nat.zero_le _) _ ho (by simpa [wr, ht, hm] using h)
theorem Trace.span {E G N val ex tch} (tr : Trace P ops 0 E G N val ex tch) {a : Nat} : ∀ {b : Nat}, (∀ k, a ≤ k → k < b → wr ops tch k = false) → a ≤ b → b ≤ ops.size → G b = G a ∧ N b = N a := by
  intro b
  induction b with
  | zero => intro _ h _; have : a = 0 := by omega
            subst this; exact ⟨rfl, rfl⟩
  | succ m ihm =>
    intro hno h1 h2
    rcases Nat.eq_or_lt_of_le h1 with rfl | hlt
    · exact ⟨rfl, rfl⟩
    · obtain ⟨g1, g2⟩ := ihm (fun k h3 h4 => hno k h3 (by omega)) (by omega) (by omega)
      obtain ⟨g3, g4⟩ := tr.rest (by omega) (hno m (by omega) (by omega))
      exact ⟨g3.trans g1, g4.trans g2⟩

/-- In whatever order. -/
theorem any_sound {n : Nat} {F : Nat → Prop} {ρ0 : Names} {H0 : Heap} {nx0 : Nat} {w0 : World} {Q : Exit → Act → World → Prop} {E G N val ex tch} (tr : Trace P ops 0 E G N val ex tch) {tl : List Nat}
    (htl : ∀ k, k < ops.size → tch k = true → k ∈ tl) (hok : drawOk ops tl = true) (hdst : ∀ (k : Nat) (o : Oper), ops[k]? = some o → ∀ d, o.dst = some d → d < n)
    (hQ : ∀ (a : Act) (w : World), (∃ ρ, St F ρ (G ops.size) (N ops.size) w ∧ a.tmps.size = n ∧ (∀ t x, E ops.size t = some x → ∃ v, a.tmps[t]? = some v ∧ R (ctx F ρ (G ops.size) w) x v) ∧ Evo ρ0 H0 nx0 w0 ρ (G ops.size) (N ops.size) w ∧ a.defers = []) → Q .normal a w) :
    ∀ (fuel : Nat) (L : Array Bool) (a : Act) (w : World) (p : Nat) (ρ : Names), L.size = ops.size → Closed ops L → unlisted L ops.size = fuel → p ≤ ops.size → (∀ k, k < p → wr ops tch k = true → L.getD k false = true) → (∀ k, p ≤ k → k < ops.size → wr ops tch k = true → L.getD k false = false) →
      St F ρ (G p) (N p) w → a.tmps.size = n → (∀ t x, envAt ops (E 0) val (fun k => L.getD k false) ops.size t = some x → ∃ v, a.tmps[t]? = some v ∧ R (ctx F ρ (G p) w) x v) →
      Evo ρ0 H0 nx0 w0 ρ (G p) (N p) w → a.defers = [] → wpAny P .any ops Q fuel L a w := by
  -- nothing is left
  have done : ∀ (L : Array Bool) (a : Act) (w : World) (p : Nat) (ρ : Names), L.size = ops.size → Closed ops L → Region.ready .any ops L = [] → p ≤ ops.size → (∀ k, p ≤ k → k < ops.size → wr ops tch k = true → L.getD k false = false) →
      St F ρ (G p) (N p) w → a.tmps.size = n → (∀ t x, envAt ops (E 0) val (fun k => L.getD k false) ops.size t = some x → ∃ v, a.tmps[t]? = some v ∧ R (ctx F ρ (G p) w) x v) →
      Evo ρ0 H0 nx0 w0 ρ (G p) (N p) w → a.defers = [] → Q .normal a w := by
    intro L a w p ρ hsz hc hr hp hpt hs hts henv hv hd
    have hall : ∀ k, k < ops.size → L.getD k false = true := by
      intro k
      induction k using Nat.strongRecOn with
      | _ k ih =>
        intro hk
        cases hlk : L.getD k false with
        | true => rfl
        | false =>
          exfalso
          have ho : ops[k]? = some ops[k] := Array.getElem?_eq_getElem hk
          have : k ∈ Region.ready .any ops L := by
            unfold Region.ready
            refine List.mem_filter.2 ⟨List.mem_range.2 hk, ?_⟩
            have h1 : L.getD k true = false := by
              have hk2 : k < L.size := by omega
              simp [hk2] at hlk ⊢
              exact hlk
            simp only [h1, ho, Option.map_some, Option.getD_some, Bool.not_false, Bool.true_and]
            refine Array.all_eq_true_iff_forall_mem.2 fun e he => ?_
            cases hb : Region.binds .any e with
            | false => rfl
            | true =>
              have := (drawOk_spec hok ho).1 e he hb
              simp [ih e.on this (by omega)]
          rw [hr] at this; cases this
    have hG : ∀ m, m ≤ ops.size → p ≤ m → G m = G p ∧ N m = N p := by
      intro m
      induction m with
      | zero => intro _ h; have : p = 0 := by omega
                subst this; exact ⟨rfl, rfl⟩
      | succ m ih =>
        intro hm h
        rcases Nat.eq_or_lt_of_le h with rfl | hlt
        · exact ⟨rfl, rfl⟩
        · obtain ⟨g1, g2⟩ := ih (by omega) (by omega)
          have ht : wr ops tch m = false := by
            cases h1 : wr ops tch m with
            | false => rfl
            | true =>
              have h2 := hpt m (by omega) (by omega) h1
              rw [hall m (by omega)] at h2; cases h2
          obtain ⟨g3, g4⟩ := tr.rest (by omega) ht
          exact ⟨g3.trans g1, g4.trans g2⟩
    obtain ⟨g1, g2⟩ := hG ops.size (Nat.le_refl _) hp
    refine hQ a w ⟨ρ, by rw [g1, g2]; exact hs, hts, fun t x hx => ?_, by rw [g1, g2]; exact hv, hd⟩
    rw [g1]
    refine henv t x ?_
    rw [envAt_trace tr ops.size (Nat.le_refl _) t] at hx
    rw [← hx]
    exact envAt_congr ops.size fun k hk _ => hall k hk
  intro fuel
  induction fuel with
  | zero =>
    intro L a w p ρ hsz hc hu hp hp1 hpt hs hts henv hv hd
    have hr : Region.ready .any ops L = [] := by
      cases h : Region.ready .any ops L with
      | nil => rfl
      | cons i is =>
        exfalso
        obtain ⟨h1, o, ho, _⟩ := mem_ready' (L := L) (i := i) (by rw [h]; exact List.mem_cons_self)
        have hi : i < ops.size := (Array.getElem?_eq_some_iff.1 ho).1
        have h2 : L.getD i false = false := by
          have : i < L.size := by omega
          simp [this] at h1 ⊢
          exact h1
        unfold unlisted at hu
        have : i ∈ (List.range ops.size).filter fun k => !L.getD k false := List.mem_filter.2 ⟨List.mem_range.2 hi, by rw [h2]; rfl⟩
        rw [List.eq_nil_of_length_eq_zero hu] at this
        cases this
    exact ⟨hr, done L a w p ρ hsz hc hr hp hpt hs hts henv hv hd⟩
  | succ fuel ih =>
    intro L a w p ρ hsz hc hu hp hp1 hpt hs hts henv hv hd
    refine ⟨fun hr => done L a w p ρ hsz hc hr hp hpt hs hts henv hv hd, fun i hi => ?_⟩
    obtain ⟨hl1, o, ho, hall⟩ := mem_ready' hi
    have hilt : i < ops.size := (Array.getElem?_eq_some_iff.1 ho).1
    have hiL : i < L.size := by omega
    have hl : L.getD i false = false := by
      simp [hiL] at hl1 ⊢
      exact hl1
    obtain ⟨hedge, hw⟩ := drawOk_spec hok ho
    -- what is bound and ahead is listed; what is bound and behind is not
    have ahead : ∀ k x, k < i → ops[k]? = some x → (bound ops x o = true ∨ (tch k = true ∧ tch i = true ∧ (isRd x && isRd o) = false)) → L.getD k false = true := fun k x hk hx hb =>
      waits_ready hc ho hall _ (hw k x hk hx (hb.imp id fun h => ⟨htl k (by omega) h.1, htl i hilt h.2.1, h.2.2⟩))
    have behind : ∀ k x, i < k → ops[k]? = some x → (bound ops o x = true ∨ (tch k = true ∧ tch i = true ∧ (isRd o && isRd x) = false)) → L.getD k false = false := fun k x hk hx hb => by
      cases h : L.getD k false with
      | false => rfl
      | true =>
        have hks : k < ops.size := (Array.getElem?_eq_some_iff.1 hx).1
        have := waits_listed hc _ k ((drawOk_spec hok hx).2 i o hk ho (hb.imp id fun h => ⟨htl i hilt h.2.1, htl k hks h.1, h.2.2⟩)) h
        rw [hl] at this; cases this
    have opk : ∀ k t, dstOf ops k = some t → ∃ x, ops[k]? = some x ∧ x.dst = some t := fun k t h => by
      unfold dstOf at h
      cases hx : ops[k]? with
      | none => rw [hx] at h; cases h
      | some x => rw [hx] at h; exact ⟨x, rfl, h⟩
    -- what the operation looks at is as in the text's order
    have seen : ∀ t, t ∈ looks ops o → envAt ops (E 0) val (fun k => L.getD k false) ops.size t = E i t := by
      intro t ht
      rw [envAt_trace tr i (by omega) t]
      rw [envAt_none (m := i) ops.size (by omega) (fun k h1 h2 hd => ?_)]
      · refine envAt_congr i fun k hk hd => ?_
        obtain ⟨x, hx, hxd⟩ := opk k t hd
        exact ahead k x hk hx (.inl (by unfold bound; rw [hxd]; simp [ht]))
      · obtain ⟨x, hx, hxd⟩ := opk k t hd
        rcases Nat.eq_or_lt_of_le h1 with rfl | hlt
        · exact hl
        · exact behind k x hlt hx (.inl (by unfold bound; rw [hxd]; simp [ht]))
    -- a value put
    have putEnv : ∀ (c : Ctx) (a' : Act) (v' : Value), a'.tmps.size = n → (∀ t x, envAt ops (E 0) val (fun k => L.getD k false) ops.size t = some x → ∃ v, a'.tmps[t]? = some v ∧ R c x v) → R c (val i) v' →
        ∀ t x, envAt ops (E 0) val (fun k => (L.setIfInBounds i true).getD k false) ops.size t = some x → ∃ v, (a'.put o.dst v').tmps[t]? = some v ∧ R c x v := by
      intro c a' v' hts' he hv' t x hx
      have hS : (fun k => (L.setIfInBounds i true).getD k false) = fun k => if i = k then true else L.getD k false := by
        funext k; exact getD_set hiL
      rw [hS] at hx
      by_cases hd : o.dst = some t
      · -- the last one that writes it
        have h1 : envAt ops (E 0) val (fun k => if i = k then true else L.getD k false) ops.size t = some (val i) := by
          rw [envAt_none (m := i + 1) ops.size hilt (fun k h1 h2 hdk => ?_)]
          · have : dstOf ops i = some t := by unfold dstOf; rw [ho]; exact hd
            simp [envAt, this]
          · obtain ⟨y, hy, hyd⟩ := opk k t hdk
            have := behind k y (by omega) hy (.inl (by unfold bound; rw [hd]; simp [hyd]))
            rw [if_neg (by omega)]; exact this
        rw [h1] at hx
        obtain rfl := Option.some.inj hx
        have ht : t < n := hdst i o ho t hd
        exact ⟨v', by rw [hd]; simp [Act.put, hts', ht], hv'⟩
      · have h1 : envAt ops (E 0) val (fun k => if i = k then true else L.getD k false) ops.size t = envAt ops (E 0) val (fun k => L.getD k false) ops.size t :=
          envAt_congr ops.size fun k hk hdk => by
            have : i ≠ k := by
              rintro rfl
              unfold dstOf at hdk
              rw [ho] at hdk
              exact hd hdk
            simp [this]
        rw [h1] at hx
        obtain ⟨v, hv1, hv2⟩ := he t x hx
        refine ⟨v, ?_, hv2⟩
        cases hod : o.dst with
        | none => exact hv1
        | some d =>
          have : d ≠ t := fun hh => hd (by rw [hod, hh])
          simp [Act.put, Array.getElem?_setIfInBounds_ne this, hv1]
    have closed' : Closed ops (L.setIfInBounds i true) := by
      intro j y hy hj e he hb
      rw [getD_set hiL] at hj ⊢
      by_cases hij : i = j
      · subst hij
        obtain rfl := Option.some.inj (ho.symm.trans hy)
        split
        · rfl
        · exact hall e he hb
      · rw [if_neg hij] at hj
        split
        · rfl
        · exact hc j y hy hj e he hb
    have unl : unlisted (L.setIfInBounds i true) ops.size = fuel := by
      have := unlisted_set hiL hilt hl
      omega
    -- the guard
    have hwanted : Region.wanted o (yielded ops a.tmps) = ex i := by
      have hg := tr.guard i (Nat.zero_le _) o ho
      cases hgo : o.guard with
      | none => rw [hgo] at hg; rw [hg]; simp [Region.wanted, hgo]
      | some jw =>
        obtain ⟨j, want⟩ := jw
        rw [hgo] at hg
        obtain ⟨d, y, hd1, hd2, hd3⟩ := hg
        have hdl : d ∈ looks ops o := by unfold looks; rw [hgo]; simp [hd1]
        obtain ⟨v, hv1, hv2⟩ := henv d y (by rw [seen d hdl]; exact hd2)
        rcases hd3 with ⟨x, rfl, hd3⟩ | ⟨rfl, hd3⟩
        · simp only [R] at hv2
          subst hv2
          have := yielded_at hd1 hv1
          rw [hd3]
          simp [Region.wanted, hgo, this]
        · simp only [R, Rt] at hv2
          obtain ⟨vs, rfl, hvs⟩ := hv2
          have hvs2 : vs = #[] := by simpa using hvs
          subst hvs2
          have := yielded_undef hd1 hv1
          rw [hd3]
          simp [Region.wanted, hgo, this]
    unfold wpOp
    rw [ho]
    simp only [hwanted]
    cases hex : ex i with
    | false =>
      obtain ⟨hval, htc⟩ := tr.skip i (Nat.zero_le _) hilt hex
      rw [if_neg (by simp)]
      refine ih _ _ w p ρ (by simp [hsz]) closed' unl hp (fun k hk ht => ?_) (fun k h1 h2 ht => ?_) hs (by cases o.dst <;> simp [Act.put, hts]) (putEnv _ a undef hts henv (by rw [hval]; exact R_undef _)) hv (by rw [put_defers]; exact hd)
      · rw [getD_set hiL]; split
        · rfl
        · exact hp1 k hk ht
      · rw [getD_set hiL]; split
        · rename_i hik; subst hik; rw [wr, htc] at ht; cases ht
        · exact hpt k h1 h2 ht
    | true =>
      rw [if_pos (by simp)]
      refine .inl ?_
      have holds : ∀ (T : Env), (∀ t, T.get t = E i t) → Holds (ctx F ρ (G p) w) T (opTmps o) a.tmps := fun T hT t ht x hx => by
        refine henv t x ?_
        rw [seen t (by unfold looks; exact List.mem_append.2 (.inl ht)), ← hT t]; exact hx
      cases htc : tch i with
      | false =>
        obtain ⟨T, hT, hq⟩ := tr.quiet i (Nat.zero_le _) o ho hex htc
        refine hq F ρ _ _ w a hs (holds T hT) _ _ fun v' w' g1 g2 g3 => ?_
        refine ih _ _ w' p ρ (by simp [hsz]) closed' unl hp (fun k hk ht => ?_) (fun k h1 h2 ht => ?_) g1 (by cases o.dst <;> simp [Act.put, hts])
          (putEnv _ a v' hts (fun t x hx => let ⟨v, h1, h2⟩ := henv t x hx; ⟨v, h1, R.lasts g2.lasts _ _ h2⟩) g3) (hv.trans g2) (by rw [put_defers]; exact hd)
        · rw [getD_set hiL]; split
          · rfl
          · exact hp1 k hk ht
        · rw [getD_set hiL]; split
          · rename_i hik; subst hik; rw [wr, htc] at ht; cases ht
          · exact hpt k h1 h2 ht
      | true =>
        cases hrd : isRd o with
        | true =>
          have wi : wr ops tch i = false := by simp [wr, ho, hrd]
          have hG : G i = G p ∧ N i = N p := by
            rcases Nat.le_total p i with hpi | hpi
            · exact tr.span (fun k h1 h2 => by
                cases h : wr ops tch k with
                | false => rfl
                | true =>
                  have h3 := hpt k h1 (by omega) h
                  obtain ⟨x, hx, hx1, hx2⟩ := wr_spec h
                  rw [ahead k x h2 hx (.inr ⟨hx1, htc, by rw [hx2]; rfl⟩)] at h3
                  cases h3) hpi (by omega)
            · have := tr.span (a := i) (b := p) (fun k h1 h2 => by
                cases h : wr ops tch k with
                | false => rfl
                | true =>
                  have h3 := hp1 k h2 h
                  obtain ⟨x, hx, hx1, hx2⟩ := wr_spec h
                  rcases Nat.eq_or_lt_of_le h1 with rfl | h1
                  · rw [wi] at h; cases h
                  · rw [behind k x h1 hx (.inr ⟨hx1, htc, by rw [hx2]; simp⟩)] at h3
                    cases h3) hpi (by omega)
              exact ⟨this.1.symm, this.2.symm⟩
          obtain ⟨e1, e2⟩ := hG
          obtain ⟨c1, c2⟩ := tr.calm i (Nat.zero_le _) o ho hrd
          obtain ⟨T, hT, hq⟩ := tr.loud i (Nat.zero_le _) o ho hex htc
          rw [c1, c2, e1, e2] at hq
          refine hq F ρ w a hs (holds T hT) _ _ fun ρ' v' w' g1 g2 g3 => ?_
          refine ih _ _ w' p ρ' (by simp [hsz]) closed' unl hp (fun k hk ht => ?_) (fun k h1 h2 ht => ?_) g1 (by cases o.dst <;> simp [Act.put, hts])
            (putEnv _ a v' hts (fun t x hx => let ⟨v, h1, h2⟩ := henv t x hx; ⟨v, h1, R.lasts g2.lasts _ _ h2⟩) g3) (hv.trans g2) (by rw [put_defers]; exact hd)
          · rw [getD_set hiL]; split
            · rfl
            · exact hp1 k hk ht
          · rw [getD_set hiL]; split
            · rename_i hik; subst hik; rw [wi] at ht; cases ht
            · exact hpt k h1 h2 ht
        | false =>
        have wi : wr ops tch i = true := by simp [wr, ho, hrd, htc]
        have hpi : p ≤ i := by
          rcases Nat.lt_or_ge i p with h | h
          · have := hp1 i h wi; rw [hl] at this; cases this
          · exact h
        have hno : ∀ k, p ≤ k → k < i → wr ops tch k = false := fun k h1 h2 => by
          cases h : wr ops tch k with
          | false => rfl
          | true =>
            have h3 := hpt k h1 (by omega) h
            obtain ⟨x, hx, hx1, hx2⟩ := wr_spec h
            rw [ahead k x h2 hx (.inr ⟨hx1, htc, by rw [hx2]; rfl⟩)] at h3
            cases h3
        obtain ⟨e1, e2⟩ := tr.span hno hpi (by omega)
        obtain ⟨T, hT, hq⟩ := tr.loud i (Nat.zero_le _) o ho hex htc
        rw [e1, e2] at hq
        refine hq F ρ w a hs (holds T hT) _ _ fun ρ' v' w' g1 g2 g3 => ?_
        refine ih _ _ w' (i + 1) ρ' (by simp [hsz]) closed' unl hilt (fun k hk ht => ?_) (fun k h1 h2 ht => ?_) g1 (by cases o.dst <;> simp [Act.put, hts])
          (putEnv _ a v' hts (fun t x hx => let ⟨v, h1, h2⟩ := henv t x hx; ⟨v, h1, R.lasts g2.lasts _ _ h2⟩) g3) (hv.trans g2) (by rw [put_defers]; exact hd)
        · rw [getD_set hiL]; split
          · rfl
          · rename_i hik
            rcases Nat.lt_or_ge k p with h | h
            · exact hp1 k h ht
            · rw [hno k h (by omega)] at ht; cases ht
        · rw [getD_set hiL]; split
          · omega
          · obtain ⟨x, hx, hx1, hx2⟩ := wr_spec ht
            exact behind k x (by omega) hx (.inr ⟨hx1, htc, by rw [hrd]; rfl⟩)

/-- A region whose order is open. -/
theorem draw_sound (hT : Sig P tys) (hmix : P.follows .mixedOrders = true) {ro : Nat → Bool} {n : Nat} {K : Env → Heap → Nat → List Nat → Prop} {F : Nat → Prop} {ρ0 : Names} {H0 : Heap} {nx0 : Nat} {w0 : World} {Q : Exit → Act → World → Prop} {id : Nat}
    (hQ : ∀ T H nx tl a w, K T H nx tl → Lift F ρ0 H0 nx0 w0 n T H nx a w → Q .normal a w) {T : Env} {H : Heap} {nx : Nat} {a : Act} {w : World}
    (h : vcOps P tys ro false n ops (fun T H nx tl => drawOk ops tl = true ∧ K T H nx tl) ops.toList 0 T H nx []) (hl : Lift F ρ0 H0 nx0 w0 n T H nx a w) : (Code.region id ops true).wp P Q a w := by
  obtain ⟨E, G, N, val, ex, tch, tr, e1, e2, e3, e4, T', tl', ⟨hok, e5⟩, e6, e7, _⟩ := vcOps_trace hT ops.toList 0 T H nx [] (by simp) (Nat.zero_le _) h
  obtain ⟨ρ, hs, he, hv, hd⟩ := hl
  refine wp_region_any hmix ?_
  obtain ⟨hv1, hs1⟩ := hs.drew
  have hunl : unlisted (Array.replicate ops.size false) ops.size = ops.size := by
    unfold unlisted
    rw [List.filter_eq_self.2]
    · simp
    · intro k hk
      have := List.mem_range.1 hk
      simp [this]
  refine any_sound (n := n) (F := F) (ρ0 := ρ0) (H0 := H0) (nx0 := nx0) (w0 := w0) tr (fun k hk ht => e7 k (Nat.zero_le _) hk ht) hok (fun k o ho d hd => e4 k o (Nat.zero_le _) ho d hd) ?_
    ops.size (Array.replicate ops.size false) a _ 0 ρ (by simp) ?_ hunl (Nat.zero_le _) (fun k hk => by omega) (fun k _ hk _ => by simp [hk]) (by rw [e2, e3]; exact hs1) he.size ?_ (by rw [e2, e3]; exact hv.trans hv1) hd
  · rintro a w ⟨ρ, g1, g2, g3, g4, g5⟩
    exact hQ T' _ _ tl' a w e5 ⟨ρ, g1, ⟨g2, fun t x hx => g3 t x (by rw [← e6]; exact hx)⟩, g4, g5⟩
  · intro j y hy hj
    have : j < ops.size := (Array.getElem?_eq_some_iff.1 hy).1
    simp [this] at hj
  · intro t x hx
    have h0 : envAt ops (E 0) val (fun k => (Array.replicate ops.size false).getD k false) ops.size t = E 0 t := by
      rw [envAt_none (m := 0) ops.size (Nat.zero_le _) (fun k _ hk _ => by simp [hk])]
      rfl
    rw [h0, e1] at hx
    obtain ⟨v, h1, h2⟩ := he.get t x hx
    rw [e2]
    exact ⟨v, h1, R.lasts hv1.lasts _ _ h2⟩

end
end Go.L1
