import Derived.Test.YtppolfmipkjdhaaLd
/-! L1, part e: what part d says of an operation is so. -/
set_option linter.all false
namespace Go.L1
open Go.RowKit
variable [Zero Prop]

section
variable {P : Program} {tys : Nat → TI} {T : Env} {o : Oper}

theorem mem_tmpsOf {xs : List Operand} {x : Operand} {t : Nat} (h : x ∈ xs) (e : x = .tmp t) : t ∈ tmpsOf xs := by
  subst e
  exact List.mem_filterMap.2 ⟨_, h, rfl⟩

theorem PStep.val {v : V} (h : ∀ (c : Ctx) (a : Act), Holds c T (opTmps o) a.tmps → ∃ v', R c v v' ∧ (execOp a.eval o).run P c.w = .ok (.value v') c.w) : PStep P o T v := by
  intro F ρ H nx w a hs hh next Q k
  obtain ⟨v', hR, hrun⟩ := h (ctx F ρ H w) a hh
  unfold Oper.wp
  have hrun' : (execOp a.eval o).run P w = .ok (.value v') w := hrun
  rw [hrun']
  exact k v' w hs (Evo.refl _ _ _ _) hR

theorem St.own_lt {F ρ H nx w} (hs : St F ρ H nx w) {b : Nat} (hb : (ctx F ρ H w).own b) : b < w.heap.size := by
  rcases hb with hb | ⟨e, he, L, hL, hp, rfl⟩
  · exact hs.fr b hb
  · obtain ⟨L', hL', hF, _⟩ := hs.rel e he
    obtain rfl := Option.some.inj (hL.symm.trans hL')
    exact (hF hp).2

theorem Evo.grow {F ρ H nx w w'} (hs : St F ρ H nx w) (os : w'.os = w.os) (tape : w'.tape = w.tape) (output : w'.output = w.output) (drawn : w.drawn ≤ w'.drawn)
    (size : w.heap.size ≤ w'.heap.size) (keep : ∀ b, b < w.heap.size → w'.heap[b]? = w.heap[b]?) : Evo ρ H nx w ρ H nx w' ∧ St F ρ H nx w' := by
  have he : Evo ρ H nx w ρ H nx w' := ⟨os, tape, output, fun _ => drawn, size, fun b hb _ => keep b hb, fun _ h => .inl h, fun _ _ _ h => h, fun _ _ _ h => .inl h, fun e he => .inl ⟨e, he, rfl⟩, Nat.le_refl _⟩
  refine ⟨he, ?_⟩
  refine ⟨fun e hm => ?_, hs.ids, hs.apart, hs.fresh, hs.vers, fun b hb => Nat.lt_of_lt_of_le (hs.fr b hb) size⟩
  obtain ⟨L, hL, hF, hB⟩ := hs.rel e hm
  exact ⟨L, hL, fun hp => ⟨(hF hp).1, Nat.lt_of_lt_of_le (hF hp).2 size⟩, BlkRel.lasts (c := ctx F ρ H w) (fun hp => keep _ (hF hp).2) he.lasts hB⟩

theorem St.alloc {F ρ H nx w} (hs : St F ρ H nx w) (obj : Obj) : Evo ρ H nx w ρ H nx (w.alloc obj) ∧ St F ρ H nx (w.alloc obj) :=
  Evo.grow hs rfl rfl rfl (Nat.le_refl _) (by show w.heap.size ≤ (w.heap.push obj).size; simp) fun b hb => Below.heap_alloc w obj b hb

theorem PStep.allocs {v : V} (h : ∀ F ρ H nx w (a : Act), St F ρ H nx w → Holds (ctx F ρ H w) T (opTmps o) a.tmps → ∃ obj v', (execOp a.eval o).run P w = .ok (.value v') (w.alloc obj) ∧
      (Lasts (ctx F ρ H w) (ctx F ρ H (w.alloc obj)) → ¬ (ctx F ρ H (w.alloc obj)).own w.heap.size → R (ctx F ρ H (w.alloc obj)) v v')) : PStep P o T v := by
  intro F ρ H nx w a hs hh next Q k
  obtain ⟨obj, v', hrun, hR⟩ := h F ρ H nx w a hs hh
  unfold Oper.wp
  rw [hrun]
  obtain ⟨he, hs'⟩ := hs.alloc obj
  exact k v' _ hs' he (hR he.lasts fun hb => Nat.lt_irrefl _ (hs.own_lt hb))

/-! ### Operation by operation -/

theorem sound_move {x : Operand} {v : V} (ho : o.op = .move x ∨ o.op = .assign x) (hx : ev T x = some v) : PStep P o T v := by
  refine PStep.val fun c a hh => ⟨a.eval x, ev_R hh hx ?_, ?_⟩
  · intro t ht; rcases ho with ho | ho <;> exact mem_tmpsOf (x := x) (by simp [ho, Op.operands]) ht
  · rcases ho with ho | ho <;> simp [execOp, ho]

theorem sound_pick {c x y : Operand} {v w u : V} {p : Bool} (ho : o.op = .pick c x y) (hc : ev T c = some (.b p)) (hx : p = true → ev T x = some v) (hy : p = false → ev T y = some v) : PStep P o T v := by
  refine PStep.val fun k a hh => ?_
  have h1 := ev_R hh hc (fun t ht => mem_tmpsOf (x := c) (by simp [ho, Op.operands]) ht)
  simp only [R] at h1
  cases p with
  | true =>
    refine ⟨a.eval x, ev_R hh (hx rfl) (fun t ht => mem_tmpsOf (x := x) (by simp [ho, Op.operands]) ht), ?_⟩
    simp [execOp, ho, h1, asBool]
  | false =>
    refine ⟨a.eval y, ev_R hh (hy rfl) (fun t ht => mem_tmpsOf (x := y) (by simp [ho, Op.operands]) ht), ?_⟩
    simp [execOp, ho, h1, asBool]

theorem sound_nilCheck {x : Operand} {v : V} (ho : o.op = .nilCheck x) (hx : ev T x = some v) (hv : (∃ l u j f, v = .ptr l u j f) ∨ ∃ cs, v = .dptr cs) : PStep P o T v := by
  refine PStep.val fun k a hh => ?_
  have h1 := ev_R hh hx (fun t ht => mem_tmpsOf (x := x) (by simp [ho, Op.operands]) ht)
  refine ⟨a.eval x, h1, ?_⟩
  rcases hv with ⟨l, u, j, f, rfl⟩ | ⟨cs, rfl⟩
  · simp only [R] at h1
    obtain ⟨L, _, h1⟩ := h1
    simp [execOp, ho, h1]
  · simp only [R] at h1
    obtain ⟨b, f, h1, _⟩ := h1
    simp [execOp, ho, h1]

theorem R_b {c : Ctx} {p : Bool} : R c (.b p) (.bool p) := by simp only [R]
theorem R_i {c : Ctx} {k : IntKind} {n : Int} (h : InK k n) : R c (.i k n) (.int k n) := by simp only [R]; exact ⟨trivial, h⟩

theorem intBin_run {op : BinOp} {k : IntKind} {a c : Int} {p : Prop} {v : V} (h : intBin op k a c = some (p, v)) (hp : p) (t : Nat) (w : World) (kk : Ctx) :
    ∃ v', R kk v v' ∧ (binOp op t (.int k a) (.int k c)).run P w = .ok v' w := by
  cases op <;> simp only [intBin, Option.some.injEq, Prod.mk.injEq, reduceCtorEq] at h <;> obtain ⟨rfl, rfl⟩ := h
  case add => exact ⟨_, R_i (InK.wrap _ _), by simp [binOp, Op.intArith]⟩
  case sub => exact ⟨_, R_i (InK.wrap _ _), by simp [binOp, Op.intArith]⟩
  case mul => exact ⟨_, R_i (InK.wrap _ _), by simp [binOp, Op.intArith]⟩
  case quo => exact ⟨_, R_i (InK.wrap _ _), by simp [binOp, Op.intDiv, hp]⟩
  case rem => exact ⟨_, R_i hp.2, by simp [binOp, Op.intDiv, hp.1]⟩
  case and => exact ⟨_, R_i (InK.wrap _ _), by simp [binOp, Op.intBits, bitsV]⟩
  case or => exact ⟨_, R_i (InK.wrap _ _), by simp [binOp, Op.intBits, bitsV]⟩
  case xor => exact ⟨_, R_i (InK.wrap _ _), by simp [binOp, Op.intBits, bitsV]⟩
  case andNot => exact ⟨_, R_i (InK.wrap _ _), by simp [binOp, Op.intBits, bitsV]⟩
  case eql => exact ⟨_, R_b, by simp [binOp, Op.intCmp]; rfl⟩
  case neq => exact ⟨_, R_b, by simp [binOp, Op.intCmp]; rfl⟩
  case lss => exact ⟨_, R_b, by simp [binOp, Op.intCmp]⟩
  case leq => exact ⟨_, R_b, by simp [binOp, Op.intCmp]⟩
  case gtr => exact ⟨_, R_b, by simp [binOp, Op.intCmp]⟩
  case geq => exact ⟨_, R_b, by simp [binOp, Op.intCmp]⟩

theorem shV_run {op : BinOp} {k k' : IntKind} {a c : Int} {p : Prop} {v : V} (h : shV op k a c = some (p, v)) (hp : p) (t : Nat) (w : World) (kk : Ctx) :
    ∃ v', R kk v v' ∧ (binOp op t (.int k a) (.int k' c)).run P w = .ok v' w := by
  cases op <;> simp only [shV, Option.some.injEq, Prod.mk.injEq, reduceCtorEq] at h <;> obtain ⟨rfl, rfl⟩ := h
  case shl => exact ⟨_, R_i (InK.wrap _ _), by simp [binOp, Op.shift, Int.not_lt.2 hp]⟩
  case shr => exact ⟨_, R_i hp.2, by simp [binOp, Op.shift, Int.not_lt.2 hp.1]⟩

theorem bytes_beq (a c : ByteArray) : (a.toList == c.toList) = decide (a = c) := by
  rw [ByteArray.toList_eq, ByteArray.toList_eq, Bool.eq_iff_iff, beq_iff_eq, decide_eq_true_eq]
  exact ⟨WideShapes.bytes_inj, fun h => by rw [h]⟩

theorem strBin_run {op : BinOp} {a c : ByteArray} {p : Prop} {v : V} (h : strBin op a c = some (p, v)) (hp : p) (t : Nat) (w : World) (kk : Ctx) :
    ∃ v', R kk v v' ∧ (binOp op t (.string a) (.string c)).run P w = .ok v' w := by
  cases op <;> simp only [strBin, Option.some.injEq, Prod.mk.injEq, reduceCtorEq] at h <;> obtain ⟨rfl, rfl⟩ := h
  case add =>
    refine ⟨.string (a ++ c), ?_, ?_⟩
    · simp only [R]; exact ⟨trivial, by unfold maxLen; simpa using hp⟩
    · have : ¬ (((a.size + c.size : Nat) : Int) > IntKind.i64.max) := by
        have : IntKind.i64.max = 9223372036854775807 := by decide
        rw [this]; omega
      simp only [binOp, Op.stringOp, this, if_false, Sem.run_pure]
  case eql => exact ⟨_, R_b, by simp only [binOp, Op.stringOp, bytes_beq, Sem.run_pure]⟩
  case neq => exact ⟨_, R_b, by simp only [binOp, Op.stringOp, bytes_beq, Sem.run_pure]⟩
  case lss => exact ⟨_, R_b, by simp only [binOp, Op.stringOp, sless, ByteArray.toList_eq, Sem.run_pure]⟩
  case leq => exact ⟨_, R_b, by simp only [binOp, Op.stringOp, sless, bytes_beq, Sem.run_pure]; simp only [ByteArray.toList_eq]⟩
  case gtr => exact ⟨_, R_b, by simp only [binOp, Op.stringOp, sless, bytes_beq, Sem.run_pure]; simp only [ByteArray.toList_eq]⟩
  case geq => exact ⟨_, R_b, by simp only [binOp, Op.stringOp, sless, bytes_beq, Sem.run_pure]; simp only [ByteArray.toList_eq]⟩

theorem eqGuard_plain {op : BinOp} {t : TypeId} {x y : Operand} {a b : Value} (ha : ∀ cs, a ≠ .agg cs) (hb : a ≠ .nilIface) (w : World) : (eqGuard op t x y a b).run P w = .ok () w := by
  unfold eqGuard
  cases op <;> first
    | rfl
    | (simp only [Bool.not_true, Bool.false_eq_true, if_false]
       split
       · exact absurd rfl hb
       · exact absurd rfl (ha _)
       · rfl)

theorem sound_binOp {op : BinOp} {t t' : Nat} {x y : Operand} {vx vy v : V} (ho : o.op = .binOp op t x y t') (hx : ev T x = some vx) (hy : ev T y = some vy)
    (hrun : ∀ (c : Ctx) a b, R c vx a → R c vy b → (∀ cs, a ≠ .agg cs) ∧ a ≠ .nilIface ∧ ∃ v', R c v v' ∧ (binOp op t a b).run P c.w = .ok v' c.w) : PStep P o T v := by
  refine PStep.val fun k a hh => ?_
  have h1 := ev_R hh hx (fun t ht => mem_tmpsOf (x := x) (by simp [ho, Op.operands]) ht)
  have h2 := ev_R hh hy (fun t ht => mem_tmpsOf (x := y) (by simp [ho, Op.operands]) ht)
  obtain ⟨g1, g2, v', hR, hr⟩ := hrun k _ _ h1 h2
  refine ⟨v', hR, ?_⟩
  simp [execOp, ho, eqGuard_plain g1 g2, hr]

theorem sound_unOp {op : UnOp} {t : Nat} {x : Operand} {vx v : V} (ho : o.op = .unOp op t x) (hx : ev T x = some vx)
    (hrun : ∀ (c : Ctx) a, R c vx a → ∃ v', R c v v' ∧ (Op.unary op a).run P c.w = .ok v' c.w) : PStep P o T v := by
  refine PStep.val fun k a hh => ?_
  have h1 := ev_R hh hx (fun t ht => mem_tmpsOf (x := x) (by simp [ho, Op.operands]) ht)
  obtain ⟨v', hR, hr⟩ := hrun k _ h1
  exact ⟨v', hR, by simp [execOp, ho, hr]⟩

theorem sound_convert {s d : Nat} {x : Operand} {vx v : V} (ho : o.op = .convert s d x) (hx : ev T x = some vx)
    (hrun : ∀ (c : Ctx) a, R c vx a → ∃ v', R c v v' ∧ (convert s d a).run P c.w = .ok v' c.w) : PStep P o T v := by
  refine PStep.val fun k a hh => ?_
  have h1 := ev_R hh hx (fun t ht => mem_tmpsOf (x := x) (by simp [ho, Op.operands]) ht)
  obtain ⟨v', hR, hr⟩ := hrun k _ h1
  exact ⟨v', hR, by simp [execOp, ho, hr]⟩

theorem convert_int (hT : Sig P tys) {s d : Nat} {k k' : IntKind} {n : Int} (hs : (tys s).k ≠ .other) (hd : (tys d).k = .int k) (c : Ctx) :
    ∃ v', R c (.i k (k.wrap n)) v' ∧ (convert s d (.int k' n)).run P c.w = .ok v' c.w := by
  obtain ⟨ds, h1, _⟩ := sig_under hT hs
  have h2 := sig_int hT hd
  refine ⟨_, R_i (InK.wrap _ _), ?_⟩
  simp only [convert, Sem.run_bind, run_underlying h1, run_underlying h2, Result.andThen_ok, Conv.intToInt]
  cases ds <;> rfl

/-- Frozen rows of bytes, read. -/
theorem Els.bytes {c : Ctx} : ∀ {els : List (List V)} {b f : Nat}, Els c 1 els b f → els.all isByte = true →
    ∃ vs : List Value, vs.length = els.length ∧ (∀ j v, vs[j]? = some v → c.w.cell? ⟨b, f + j, none⟩ = some v) ∧ vs = (els.map fun el => Value.int .u8 (byteOf el).toNat)
  | [], _, _, _, _ => ⟨[], rfl, by simp, rfl⟩
  | el :: els, b, f, h, hb => by
    simp only [List.all_cons, Bool.and_eq_true] at hb
    simp only [Els] at h
    obtain ⟨h1, h2, h3⟩ := h
    obtain ⟨vs, e1, e2, e3⟩ := Els.bytes h3 hb.2
    match el, hb.1 with
    | [.i .u8 n], _ =>
      simp only [Cells, R] at h2
      obtain ⟨⟨v, hc, _, _, rfl, hk⟩, _⟩ := h2
      simp only [InK] at hk
      refine ⟨.int .u8 n :: vs, by simp [e1], fun j v hj => ?_, ?_⟩
      · cases j with
        | zero => simp at hj; subst hj; exact hc
        | succ j =>
          have := e2 j v (by simpa using hj)
          rwa [show f + 1 + j = f + (j + 1) from by omega] at this
      · simp only [List.map_cons, e3, byteOf]
        congr 2
        have : (UInt8.ofNat n.toNat).toNat = n.toNat := by
          rw [UInt8.toNat_ofNat']
          omega
        rw [this]
        omega

theorem pushAll : ∀ (l : List UInt8) (s : ByteArray), l.foldl (fun (s : ByteArray) b => s.push b) s = s ++ ⟨l.toArray⟩ := by
  intro l
  induction l with
  | nil => intro s; apply WideShapes.bytes_inj; simp [ByteArray.data_append]
  | cons x xs ih =>
    intro s
    rw [List.foldl_cons, ih]
    apply WideShapes.bytes_inj
    simp [ByteArray.push, ByteArray.data_append]

theorem run_pushBytes (P : Program) (w : World) : ∀ (bs : List UInt8) (s : ByteArray),
    (forIn (bs.map fun b => Value.int .u8 b.toNat) s (fun c (s : ByteArray) => do
      let .int .u8 n := c | stuck "bytesToString: byte expected"
      pure (ForInStep.yield (s.push (UInt8.ofNat n.toNat))) : Value → ByteArray → Sem (ForInStep ByteArray))).run P w = .ok (bs.foldl (fun (s : ByteArray) b => s.push b) s) w := by
  intro bs
  induction bs with
  | nil => intro s; rfl
  | cons b bs ih =>
    intro s
    simp only [List.map_cons, List.forIn_cons, Sem.run_bind, List.foldl_cons]
    have : UInt8.ofNat (b.toNat : Int).toNat = b := by simp
    simp only [this, Sem.run_pure, Result.andThen_ok, ih]

theorem bytesToString_run {c : Ctx} {els : List (List V)} {b f cap : Nat} (h : Els c 1 els b f) (hb : els.all isByte = true) :
    (Conv.bytesToString (.slice (some ⟨b, f, none⟩) els.length cap)).run P c.w = .ok (.string (strOf els)) c.w := by
  obtain ⟨vs, e1, e2, e3⟩ := Els.bytes h hb
  have hl := run_loadCells_list (P := P) (w := c.w) ⟨b, f, none⟩ vs (fun j v hj => by
    have := e2 j v hj
    rw [show (⟨b, f, none⟩ : Addr).add j = ⟨b, f + j, none⟩ from by unfold Addr.add; split <;> simp_all]
    exact this)
  simp only [Conv.bytesToString]
  rw [e1] at hl
  simp only [Sem.run_bind, hl, Result.andThen_ok]
  have e4 : vs = (els.map byteOf).map fun b => Value.int .u8 b.toNat := by rw [e3, List.map_map]; rfl
  have e5 : (forIn vs.toArray ByteArray.empty (fun c (s : ByteArray) => do
      let .int .u8 n := c | stuck "bytesToString: byte expected"
      pure (ForInStep.yield (s.push (UInt8.ofNat n.toNat))) : Value → ByteArray → Sem (ForInStep ByteArray))).run P c.w = .ok ((els.map byteOf).foldl (fun (s : ByteArray) b => s.push b) ByteArray.empty) c.w := by
    rw [List.forIn_toArray, e4]
    exact run_pushBytes P c.w _ _
  have e6 : (els.map byteOf).foldl (fun (s : ByteArray) b => s.push b) ByteArray.empty = strOf els := by
    rw [pushAll]
    apply WideShapes.bytes_inj
    simp [ByteArray.data_append, strOf]
  rw [e6] at e5
  refine (congrArg (fun r => Result.andThen r _) e5).trans ?_
  rfl

theorem strOf_size (els : List (List V)) : (strOf els).size = els.length := by simp [strOf, ByteArray.size]

end
end Go.L1
