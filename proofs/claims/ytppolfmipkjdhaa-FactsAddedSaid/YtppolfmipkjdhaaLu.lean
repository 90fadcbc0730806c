import Derived.Test.YtppolfmipkjdhaaLt
/-! L1, part u: what is to be shown of a piece of code, one step at a time: equations for 'simp only'. -/
set_option linter.all false
namespace Go.L1
open Go.RowKit
variable [Zero Prop]

section
variable (P : Program) (tys : Nat → TI) (ro : Nat → Bool) (wf : Bool) (n : Nat) (ops : Array Oper) (K : Env → Heap → Nat → List Nat → Prop) (rest : List Oper) (i : Nat) (T : Env) (H : Heap) (nx : Nat) (tl : List Nat) (Q : Post)

/-- Behind one operation. -/
def opK (d : Nat) (v : V) (H' : Heap) (nx' : Nat) (t : Bool) : Prop := vcOps P tys ro wf n ops K rest (i + 1) ((d, v) :: T) H' nx' (if t then i :: tl else tl)
def op0 (v : V) (H' : Heap) (nx' : Nat) (t : Bool) : Prop := vcOps P tys ro wf n ops K rest (i + 1) T H' nx' (if t then i :: tl else tl)

def stepK (Kv : V → Heap → Nat → Bool → Prop) (op : Op) : Option (Prop × V) → Prop
  | some (p, v) => p ∧ Kv v H nx false
  | none => hop P tys wf T H nx Kv op

theorem stepK_some (Kv : V → Heap → Nat → Bool → Prop) (op : Op) (p : Prop) (v : V) : stepK P tys wf T H nx Kv op (some (p, v)) = (p ∧ Kv v H nx false) := rfl
theorem stepK_none (Kv : V → Heap → Nat → Bool → Prop) (op : Op) : stepK P tys wf T H nx Kv op none = hop P tys wf T H nx Kv op := rfl

theorem opK_f (d : Nat) (v : V) (H' : Heap) (nx' : Nat) : opK P tys ro wf n ops K rest i T tl d v H' nx' false = vcOps P tys ro wf n ops K rest (i + 1) ((d, v) :: T) H' nx' tl := rfl
theorem opK_t (d : Nat) (v : V) (H' : Heap) (nx' : Nat) : opK P tys ro wf n ops K rest i T tl d v H' nx' true = vcOps P tys ro wf n ops K rest (i + 1) ((d, v) :: T) H' nx' (i :: tl) := rfl
theorem op0_f (v : V) (H' : Heap) (nx' : Nat) : op0 P tys ro wf n ops K rest i T tl v H' nx' false = vcOps P tys ro wf n ops K rest (i + 1) T H' nx' tl := rfl
theorem op0_t (v : V) (H' : Heap) (nx' : Nat) : op0 P tys ro wf n ops K rest i T tl v H' nx' true = vcOps P tys ro wf n ops K rest (i + 1) T H' nx' (i :: tl) := rfl

theorem vcOp_eq (r : Bool) (o : Oper) (Kv : V → Heap → Nat → Bool → Prop) : vcOp P tys r wf o T H nx Kv = stepK P tys wf T H nx Kv o.op (pop tys r T o.op) := by
  unfold vcOp
  cases pop tys r T o.op with
  | none => rfl
  | some pv => rfl

theorem vcOps_nil : vcOps P tys ro wf n ops K [] i T H nx tl = K T H nx tl := rfl

theorem vcOps_plain (d : Nat) (op : Op) (ty : TypeId) (pos : String) (after : Array Edge) :
    vcOps P tys ro wf n ops K (⟨some d, op, ty, pos, after, none⟩ :: rest) i T H nx tl = (d < n ∧ stepK P tys wf T H nx (opK P tys ro wf n ops K rest i T tl d) op (pop tys (ro d) T op)) := by
  simp only [vcOps, Option.some.injEq, forall_eq', vcOp_eq]
  rfl

theorem vcOps_plain0 (op : Op) (ty : TypeId) (pos : String) (after : Array Edge) :
    vcOps P tys ro wf n ops K (⟨none, op, ty, pos, after, none⟩ :: rest) i T H nx tl = stepK P tys wf T H nx (op0 P tys ro wf n ops K rest i T tl) op (pop tys (ro 0) T op) := by
  simp only [vcOps, vcOp_eq, reduceCtorEq, false_imp_iff, implies_true, true_and]
  rfl

/-- A guarded one: where the guard lies; what it says. -/
def guardV (d : Nat) (op : Op) (want : Bool) (g : Nat) : Option V → Prop
  | some (.b x) => (x = want → stepK P tys wf ((g, .b want) :: T) H nx (opK P tys ro wf n ops K rest i ((g, .b want) :: T) tl d) op (pop tys (ro d) ((g, .b want) :: T) op)) ∧
      (x = !want → vcOps P tys ro wf n ops K rest (i + 1) ((d, .tup []) :: (g, .b (!want)) :: T) H nx tl)
  | some (.tup []) => vcOps P tys ro wf n ops K rest (i + 1) ((d, .tup []) :: T) H nx tl
  | _ => False
def guardD (d : Nat) (op : Op) (want : Bool) : Option Nat → Prop
  | some g => guardV P tys ro wf n ops K rest i T H nx tl d op want g (T.get g)
  | none => False

theorem guardD_some (d : Nat) (op : Op) (want : Bool) (g : Nat) : guardD P tys ro wf n ops K rest i T H nx tl d op want (some g) = guardV P tys ro wf n ops K rest i T H nx tl d op want g (T.get g) := rfl
theorem guardV_u (d : Nat) (op : Op) (want : Bool) (g : Nat) : guardV P tys ro wf n ops K rest i T H nx tl d op want g (some (.tup [])) = vcOps P tys ro wf n ops K rest (i + 1) ((d, .tup []) :: T) H nx tl := rfl
theorem guardV_tt (d : Nat) (op : Op) (g : Nat) : guardV P tys ro wf n ops K rest i T H nx tl d op true g (some (.b true)) = stepK P tys wf ((g, .b true) :: T) H nx (opK P tys ro wf n ops K rest i ((g, .b true) :: T) tl d) op (pop tys (ro d) ((g, .b true) :: T) op) := by
  simp [guardV]
theorem guardV_ff (d : Nat) (op : Op) (g : Nat) : guardV P tys ro wf n ops K rest i T H nx tl d op false g (some (.b false)) = stepK P tys wf ((g, .b false) :: T) H nx (opK P tys ro wf n ops K rest i ((g, .b false) :: T) tl d) op (pop tys (ro d) ((g, .b false) :: T) op) := by
  simp [guardV]
theorem guardV_tf (d : Nat) (op : Op) (g : Nat) : guardV P tys ro wf n ops K rest i T H nx tl d op true g (some (.b false)) = vcOps P tys ro wf n ops K rest (i + 1) ((d, .tup []) :: (g, .b false) :: T) H nx tl := by
  simp [guardV]
theorem guardV_ft (d : Nat) (op : Op) (g : Nat) : guardV P tys ro wf n ops K rest i T H nx tl d op false g (some (.b true)) = vcOps P tys ro wf n ops K rest (i + 1) ((d, .tup []) :: (g, .b true) :: T) H nx tl := by
  simp [guardV]
theorem guardV_t (d : Nat) (op : Op) (g : Nat) (x : Bool) : guardV P tys ro wf n ops K rest i T H nx tl d op true g (some (.b x)) = ((x = true → guardV P tys ro wf n ops K rest i T H nx tl d op true g (some (.b true))) ∧ (x = false → guardV P tys ro wf n ops K rest i T H nx tl d op true g (some (.b false)))) := by
  cases x <;> simp
theorem guardV_f (d : Nat) (op : Op) (g : Nat) (x : Bool) : guardV P tys ro wf n ops K rest i T H nx tl d op false g (some (.b x)) = ((x = true → guardV P tys ro wf n ops K rest i T H nx tl d op false g (some (.b true))) ∧ (x = false → guardV P tys ro wf n ops K rest i T H nx tl d op false g (some (.b false)))) := by
  cases x <;> simp

theorem guardV_bt (d : Nat) (op : Op) (g : Nat) (x : Bool) : guardV P tys ro wf n ops K rest i T H nx tl d op true g (some (.b x)) = (if x = true then guardV P tys ro wf n ops K rest i T H nx tl d op true g (some (.b true)) else guardV P tys ro wf n ops K rest i T H nx tl d op true g (some (.b false))) := by
  cases x <;> simp
theorem guardV_bf (d : Nat) (op : Op) (g : Nat) (x : Bool) : guardV P tys ro wf n ops K rest i T H nx tl d op false g (some (.b x)) = (if x = true then guardV P tys ro wf n ops K rest i T H nx tl d op false g (some (.b true)) else guardV P tys ro wf n ops K rest i T H nx tl d op false g (some (.b false))) := by
  cases x <;> simp

theorem vcOps_guard (d : Nat) (op : Op) (ty : TypeId) (pos : String) (after : Array Edge) (j : Nat) (want : Bool) :
    vcOps P tys ro wf n ops K (⟨some d, op, ty, pos, after, some (j, want)⟩ :: rest) i T H nx tl = (d < n ∧ guardD P tys ro wf n ops K rest i T H nx tl d op want (dstOf ops j)) := by
  simp only [vcOps, Option.some.injEq, forall_eq', vcOp_eq]
  congr 1
  unfold guardD
  cases dstOf ops j with
  | none => rfl
  | some g =>
    simp only
    unfold guardV
    cases T.get g with
    | none => rfl
    | some v => cases v <;> rfl

/-- Behind a region. -/
def seqK (T : Env) (H : Heap) (nx : Nat) (_ : List Nat) : Prop := Q .normal T H nx
def drawK (T : Env) (H : Heap) (nx : Nat) (tl : List Nat) : Prop := drawOk ops tl = true ∧ Q .normal T H nx
theorem seqK_eq : seqK Q T H nx tl = Q .normal T H nx := rfl
theorem drawK_eq : drawK ops Q T H nx tl = (drawOk ops tl = true ∧ Q .normal T H nx) := rfl

theorem vcOps_congr {ops ops' : Array Oper} (h : ∀ j, dstOf ops j = dstOf ops' j) : ∀ (l : List Oper) (i : Nat) (T : Env) (H : Heap) (nx : Nat) (tl : List Nat), vcOps P tys ro wf n ops K l i T H nx tl = vcOps P tys ro wf n ops' K l i T H nx tl
  | [], _, _, _, _, _ => rfl
  | o :: l, i, T, H, nx, tl => by
    have ih : vcOps P tys ro wf n ops K l = vcOps P tys ro wf n ops' K l := by funext i T H nx tl; exact vcOps_congr h l i T H nx tl
    simp only [vcOps, h, ih]
/-- Operations of which only the destinations are told. -/
def stub (ds : List (Option Nat)) : Array Oper := (ds.map fun d => ⟨d, .move (.tmp 0), 0, "", #[], none⟩).toArray
theorem dstOf_stub (ds : List (Option Nat)) (j : Nat) : dstOf (stub ds) j = (ds[j]?).bind id := by
  unfold dstOf stub
  simp only [List.getElem?_toArray, List.getElem?_map]
  cases ds[j]? <;> rfl
theorem dstOf_list (l : List Oper) (j : Nat) : dstOf l.toArray j = dstOf (stub (l.map (·.dst))) j := by
  rw [dstOf_stub]
  unfold dstOf
  simp only [List.getElem?_toArray, List.getElem?_map]
  cases l[j]? <;> rfl
theorem vc_skip : vc P tys ro n .skip Q T H nx = Q .normal T H nx := rfl
theorem vc_label (l : Nat) : vc P tys ro n (.label l) Q T H nx = Q .normal T H nx := rfl
theorem vc_exit (l : Nat) : vc P tys ro n (.exit l) Q T H nx = Q (.exit l) T H nx := rfl
theorem vc_ret : vc P tys ro n .ret Q T H nx = Q .ret T H nx := rfl
theorem vc_region (id : Nat) (l : List Oper) : vc P tys ro n (.region id l.toArray false) Q T H nx = vcOps P tys ro true n (stub (l.map (·.dst))) (seqK Q) l 0 T H nx [] := vcOps_congr P tys ro true n (seqK Q) (dstOf_list l) l 0 T H nx []
theorem vc_draw (id : Nat) (l : List Oper) : vc P tys ro n (.region id l.toArray true) Q T H nx = vcOps P tys ro false n (stub (l.map (·.dst))) (drawK l.toArray Q) l 0 T H nx [] := vcOps_congr P tys ro false n (drawK l.toArray Q) (dstOf_list l) l 0 T H nx []
/-- What is still to come. -/
inductive Kont where
  | seq (c : Code)
  | blk (id : Nat)
  | rnd (J : Env → Heap → Nat → Prop)
def kq (F : Post) : List Kont → Post
  | [] => F
  | .seq b :: ks => thenQ (vc P tys ro n b (kq F ks)) (kq F ks)
  | .blk id :: ks => inBlockQ id (kq F ks)
  | .rnd J :: ks => thenQ J (kq F ks)
theorem kq_nil (F : Post) (e : Exit) : kq P tys ro n F [] e T H nx = F e T H nx := rfl
theorem kq_seq_n (F : Post) (b : Code) (ks : List Kont) : kq P tys ro n F (.seq b :: ks) .normal T H nx = vc P tys ro n b (kq P tys ro n F ks) T H nx := rfl
theorem kq_seq_r (F : Post) (b : Code) (ks : List Kont) : kq P tys ro n F (.seq b :: ks) .ret T H nx = kq P tys ro n F ks .ret T H nx := rfl
theorem kq_seq_x (F : Post) (b : Code) (ks : List Kont) (id : Nat) : kq P tys ro n F (.seq b :: ks) (.exit id) T H nx = kq P tys ro n F ks (.exit id) T H nx := rfl
theorem kq_rnd_n (F : Post) (J : Env → Heap → Nat → Prop) (ks : List Kont) : kq P tys ro n F (.rnd J :: ks) .normal T H nx = J T H nx := rfl
theorem kq_rnd_r (F : Post) (J : Env → Heap → Nat → Prop) (ks : List Kont) : kq P tys ro n F (.rnd J :: ks) .ret T H nx = kq P tys ro n F ks .ret T H nx := rfl
theorem kq_rnd_x (F : Post) (J : Env → Heap → Nat → Prop) (ks : List Kont) (id : Nat) : kq P tys ro n F (.rnd J :: ks) (.exit id) T H nx = kq P tys ro n F ks (.exit id) T H nx := rfl
theorem kq_blk_n (F : Post) (id : Nat) (ks : List Kont) : kq P tys ro n F (.blk id :: ks) .normal T H nx = kq P tys ro n F ks .normal T H nx := rfl
theorem kq_blk_r (F : Post) (id : Nat) (ks : List Kont) : kq P tys ro n F (.blk id :: ks) .ret T H nx = kq P tys ro n F ks .ret T H nx := rfl
theorem kq_blk_hit (F : Post) (id : Nat) (ks : List Kont) : kq P tys ro n F (.blk id :: ks) (.exit id) T H nx = kq P tys ro n F ks .normal T H nx := by simp [kq, inBlockQ]
theorem kq_blk_miss (F : Post) (id id' : Nat) (ks : List Kont) (h : (id' == id) = false) : kq P tys ro n F (.blk id :: ks) (.exit id') T H nx = kq P tys ro n F ks (.exit id') T H nx := by simp at h; simp [kq, inBlockQ, h]
theorem thenQ_rnd (F : Post) (J : Env → Heap → Nat → Prop) (ks : List Kont) : thenQ J (kq P tys ro n F ks) = kq P tys ro n F (.rnd J :: ks) := rfl
theorem vc_seq (F : Post) (ks : List Kont) (a b : Code) : vc P tys ro n (.seq a b) (kq P tys ro n F ks) T H nx = vc P tys ro n a (kq P tys ro n F (.seq b :: ks)) T H nx := rfl
theorem vc_block (F : Post) (ks : List Kont) (id : Nat) (c : Code) : vc P tys ro n (.block id c) (kq P tys ro n F ks) T H nx = vc P tys ro n c (kq P tys ro n F (.blk id :: ks)) T H nx := rfl
theorem vc_loop (c : Code) : vc P tys ro n (.loop c) Q T H nx = LoopK (vc P tys ro n c) Q T H nx := rfl

def condV (a b : Code) (d : Nat) : Option V → Prop
  | some (.b x) => (x = true → vc P tys ro n a Q ((d, .b true) :: T) H nx) ∧ (x = false → vc P tys ro n b Q ((d, .b false) :: T) H nx)
  | _ => False
theorem vc_cond (a b : Code) (d : Nat) : vc P tys ro n (.cond (.tmp d) a b) Q T H nx = condV P tys ro n T H nx Q a b d (T.get d) := by
  simp only [vc]
  cases T.get d with
  | none => rfl
  | some v => cases v <;> rfl
theorem condV_t (a b : Code) (d : Nat) : condV P tys ro n T H nx Q a b d (some (.b true)) = vc P tys ro n a Q ((d, .b true) :: T) H nx := by simp [condV]
theorem condV_f (a b : Code) (d : Nat) : condV P tys ro n T H nx Q a b d (some (.b false)) = vc P tys ro n b Q ((d, .b false) :: T) H nx := by simp [condV]
theorem condV_x (a b : Code) (d : Nat) (x : Bool) : condV P tys ro n T H nx Q a b d (some (.b x)) = ((x = true → vc P tys ro n a Q ((d, .b true) :: T) H nx) ∧ (x = false → vc P tys ro n b Q ((d, .b false) :: T) H nx)) := rfl

theorem condV_b (a b : Code) (d : Nat) (x : Bool) : condV P tys ro n T H nx Q a b d (some (.b x)) = (if x = true then vc P tys ro n a Q ((d, .b true) :: T) H nx else vc P tys ro n b Q ((d, .b false) :: T) H nx) := by
  cases x <;> simp [condV]
theorem thenQ_normal (Kt : Env → Heap → Nat → Prop) : thenQ Kt Q .normal T H nx = Kt T H nx := rfl
theorem thenQ_ret (Kt : Env → Heap → Nat → Prop) : thenQ Kt Q .ret T H nx = Q .ret T H nx := rfl
theorem thenQ_exit (Kt : Env → Heap → Nat → Prop) (id : Nat) : thenQ Kt Q (.exit id) T H nx = Q (.exit id) T H nx := rfl
theorem inBlockQ_normal (id : Nat) : inBlockQ id Q .normal T H nx = Q .normal T H nx := rfl
theorem inBlockQ_ret (id : Nat) : inBlockQ id Q .ret T H nx = Q .ret T H nx := rfl
theorem inBlockQ_hit (id : Nat) : inBlockQ id Q (.exit id) T H nx = Q .normal T H nx := by simp [inBlockQ]
theorem inBlockQ_miss (id id' : Nat) (h : (id' == id) = false) : inBlockQ id Q (.exit id') T H nx = Q (.exit id') T H nx := by simp at h; simp [inBlockQ, h]
theorem fnPost_normal (rs : List ResultVar) (v' : V) (H' : Heap) (nx' : Nat) : fnPost tys rs v' H' nx' .normal T H nx = resK tys T H rs fun vs => Fin (packV vs) H v' H' nx' := rfl
theorem fnPost_ret (rs : List ResultVar) (v' : V) (H' : Heap) (nx' : Nat) : fnPost tys rs v' H' nx' .ret T H nx = resK tys T H rs fun vs => Fin (packV vs) H v' H' nx' := rfl

theorem get_hit (k : Nat) (v : V) (T : Env) : Env.get ((k, v) :: T) k = some v := by simp [Env.get]
theorem get_miss (k t : Nat) (v : V) (T : Env) (h : (k == t) = false) : Env.get ((k, v) :: T) t = T.get t := by simp at h; simp [Env.get, h]
end

mutual
theorem frV_nil : ∀ v : V, frV [] v = v
  | .fn f cs => by simp only [frV, frVs_nil cs]
  | .agg cs => by simp only [frV, frVs_nil cs]
  | .tup cs => by simp only [frV, frVs_nil cs]
  | .sl .. => by simp only [frV, hget]
  | .ptr .. => by simp only [frV, hget]
  | .b _ => by simp only [frV]
  | .i _ _ => by simp only [frV]
  | .s _ => by simp only [frV]
  | .nilP => by simp only [frV]
  | .dptr _ => by simp only [frV]
  | .nilS => by simp only [frV]
  | .dsl _ _ => by simp only [frV]
  | .mp _ => by simp only [frV]
  | .nilM => by simp only [frV]
  | .it _ => by simp only [frV]
theorem frVs_nil : ∀ vs : List V, frVs [] vs = vs
  | [] => by simp only [frVs]
  | x :: xs => by simp only [frVs, frV_nil x, frVs_nil xs]
end

mutual
theorem bl_of_nl (n : Nat) : ∀ v : V, (nl v = true → bl n v = true) ∧ (nl v = true → ∀ H, frV H v = v)
  | .fn f cs => by simp only [nl, bl, frV, V.fn.injEq, true_and]; exact bls_of_nls n cs
  | .agg cs => by simp only [nl, bl, frV, V.agg.injEq]; exact bls_of_nls n cs
  | .tup cs => by simp only [nl, bl, frV, V.tup.injEq]; exact bls_of_nls n cs
  | .sl .. => by simp [nl]
  | .ptr .. => by simp [nl]
  | .b _ => by simp [bl, frV]
  | .i _ _ => by simp [bl, frV]
  | .s _ => by simp [bl, frV]
  | .nilP => by simp [bl, frV]
  | .dptr _ => by simp [bl, frV]
  | .nilS => by simp [bl, frV]
  | .dsl _ _ => by simp [bl, frV]
  | .mp _ => by simp [nl]
  | .nilM => by simp [bl, frV]
  | .it _ => by simp [nl]
theorem bls_of_nls (n : Nat) : ∀ vs : List V, (nls vs = true → bls n vs = true) ∧ (nls vs = true → ∀ H, frVs H vs = vs)
  | [] => by simp [bls, frVs]
  | x :: xs => by
    simp only [nls, bls, frVs, Bool.and_eq_true, List.cons.injEq]
    exact ⟨fun h => ⟨(bl_of_nl n x).1 h.1, (bls_of_nls n xs).1 h.2⟩, fun h H => ⟨(bl_of_nl n x).2 h.1 H, (bls_of_nls n xs).2 h.2 H⟩⟩
end

/-! ### Calls -/
/-- Less told. -/
def Wk (x y : V) : Prop := ∀ c v, R c x v → R c y v
def Wks (xs ys : List V) : Prop := ∀ c vs, Rs c xs vs → Rs c ys vs
def Wkt (xs ys : List V) : Prop := ∀ c vs, Rt c xs vs → Rt c ys vs

theorem Wk.refl (x : V) : Wk x x := fun _ _ h => h
theorem Wkt.refl (xs : List V) : Wkt xs xs := fun _ _ h => h
theorem Wks.refl (xs : List V) : Wks xs xs := fun _ _ h => h
theorem Wkt.cons {x y : V} {xs ys : List V} (h : Wk x y) (hs : Wkt xs ys) : Wkt (x :: xs) (y :: ys) := fun c vs hr => by
  simp only [Rt] at hr ⊢
  obtain ⟨v, vs', e, h1, h2⟩ := hr
  exact ⟨v, vs', e, h c v h1, hs c vs' h2⟩
theorem Wks.cons {x y : V} {xs ys : List V} (h : Wk x y) (hs : Wks xs ys) : Wks (x :: xs) (y :: ys) := fun c vs hr => by
  simp only [Rs] at hr ⊢
  obtain ⟨v, vs', e, h0, h1, h2⟩ := hr
  exact ⟨v, vs', e, h0, h c v h1, hs c vs' h2⟩
theorem Wk.agg {xs ys : List V} (h : Wks xs ys) : Wk (.agg xs) (.agg ys) := fun c v hr => by
  simp only [R] at hr ⊢
  obtain ⟨vs, e, h1⟩ := hr
  exact ⟨vs, e, h c _ h1⟩
theorem Wk.tup {xs ys : List V} (h : Wkt xs ys) : Wk (.tup xs) (.tup ys) := fun c v hr => by
  simp only [R] at hr ⊢
  obtain ⟨vs, e, h1⟩ := hr
  exact ⟨vs, e, h c _ h1⟩
theorem Wk.fn {f : Nat} {xs ys : List V} (h : Wks xs ys) : Wk (.fn f xs) (.fn f ys) := fun c v hr => by
  simp only [R] at hr ⊢
  obtain ⟨vs, e, h1⟩ := hr
  exact ⟨vs, e, h c _ h1⟩
theorem Wk.nil (sz : Nat) : Wk .nilS (.dsl sz []) := fun c v hr => by
  simp only [R] at hr ⊢
  subst hr
  exact ⟨none, 0, by simp, Nat.le_refl _, by unfold maxLen; omega, .inl trivial⟩

section
variable {P : Program}
theorem C.args {f nx as as' H v H' nx'} (h : C P f nx as' H v H' nx') (hw : Wkt as as') : C P f nx as H v H' nx' :=
  ⟨h.1, fun F ρ w vs hs hr => h.2 F ρ w vs hs (hw _ _ hr)⟩
theorem C.out {f nx as H v v' H' nx'} (h : C P f nx as H v H' nx') (hw : Wk v v') : C P f nx as H v' H' nx' :=
  ⟨h.1, fun F ρ w vs hs hr => (h.2 F ρ w vs hs hr).mono fun e w' ⟨v2, ρ', h1, h2, h3, h4⟩ => ⟨v2, ρ', h1, h2, h3, hw _ _ h4⟩⟩

/-- A function that touches nothing that is owned, at any names. -/
def CV (P : Program) (f : Nat) (as : List V) (v : V) : Prop := ∀ nx, C P f nx as [] v [] nx

theorem CallK.pure {fid : Nat} {as as' : List V} {v : V} {H : Heap} {nx : Nat} {wf : Bool} {K : V → Heap → Nat → Bool → Prop} (h : CV P fid as' v) (hw : Wkt as as') (hk : (wf = true → Wf v) → K v H nx false) :
    CallK P fid as H nx wf K := .inl ⟨v, fun nx => (h nx).args hw, hk⟩

theorem CallK.own {fid : Nat} {as as' : List V} {v : V} {H H1 H2 H1' : Heap} {nx nx' : Nat} {wf : Bool} {K : V → Heap → Nat → Bool → Prop} (hp : H.Perm (H1 ++ H2)) (h : C P fid nx as' H1 v H1' nx') (hw : Wkt as as')
    (hk : (wf = true → Wf v) → K v (H1' ++ H2) nx' true) : CallK P fid as H nx wf K := .inr ⟨H1, H2, v, H1', nx', hp, h.args hw, hk⟩

theorem C.of_vck {tys : Nat → TI} (hT : Sig P tys) (hmix : P.follows .mixedOrders = true) {f : Nat} {fn : Func} {c : Code} {rs : List ResultVar} {n : Nat} (ro : Nat → Bool) {args : List V} {v' : V} {H H' : Heap} {nx nx' : Nat} (hf : P.funcs[f]? = some fn) (hent : Ent P f)
    (hb : fn.body = some c) (hrs : fn.results = rs.toArray) (hn : fn.ntmps = n) (hle : args.length ≤ n) (hnx : nx ≤ nx')
    (h : Wfs args → vc P tys ro n c (kq P tys ro n (fnPost tys rs v' H' nx') []) (argEnv 0 args) H nx) : C P f nx args H v' H' nx' :=
  C.of_vc hT hmix ro hf hent hb hrs hn hle hnx h

/-- A function that touches nothing that is owned: its arguments and what it answers have no names. -/
theorem CV.of_vc {tys : Nat → TI} (hT : Sig P tys) (hmix : P.follows .mixedOrders = true) {f : Nat} {fn : Func} {c : Code} {rs : List ResultVar} {n : Nat} (ro : Nat → Bool) {args : List V} {v' : V} (hf : P.funcs[f]? = some fn) (hent : Ent P f)
    (hb : fn.body = some c) (hrs : fn.results = rs.toArray) (hn : fn.ntmps = n) (hle : args.length ≤ n)
    (h : ∀ nx, Wfs args → vc P tys ro n c (kq P tys ro n (fnPost tys rs v' [] nx) []) (argEnv 0 args) [] nx) : CV P f args v' :=
  fun nx => C.of_vc hT hmix ro hf hent hb hrs hn hle (Nat.le_refl _) (h nx)

/-- The same, the new names told as numbers from 0 on. -/
theorem CV.of_vc0 {tys : Nat → TI} (hT : Sig P tys) (hmix : P.follows .mixedOrders = true) {f : Nat} {fn : Func} {c : Code} {rs : List ResultVar} {n : Nat} (ro : Nat → Bool) {args : List V} {v' : V} (hf : P.funcs[f]? = some fn) (hent : Ent P f)
    (hb : fn.body = some c) (hrs : fn.results = rs.toArray) (hn : fn.ntmps = n) (hle : args.length ≤ n) (ha : nls args = true) (hv : nl v' = true)
    (h : Wfs args → vc P tys ro n c (kq P tys ro n (fnPost tys rs v' [] 0) []) (argEnv 0 args) [] 0) : CV P f args v' :=
  CP.use (CP.of_vc hT hmix ro hf hent hb hrs hn hle h) ha hv
end

theorem spl {x : Bool} {A B : Prop} (h1 : x = true → A) (h2 : x = false → B) : if x = true then A else B := by
  cases x
  · simpa using h2 rfl
  · simpa using h1 rfl

theorem bsize_lit (l : List UInt8) : ByteArray.size ⟨l.toArray⟩ = l.length := by simp [ByteArray.size]
theorem ev_int (T : Env) (k : IntKind) (n : Int) (h : InK k n) : ev T (.const (.int k n)) = some (.i k n) := by simp [ev, constV, constC, h]
theorem ev_str (T : Env) (x : ByteArray) (h : x.size ≤ 65536) : ev T (.const (.string x)) = some (.s x) := by simp [ev, constV, constC, h]
theorem wrap_in {k : IntKind} {n : Int} (h : InK k n) : k.wrap n = n := by
  cases k <;> simp only [InK] at h <;> simp only [IntKind.wrap, IntKind.bits, IntKind.signed] <;> (try simp) <;> (try split) <;> omega
theorem fin_pure (v v' : V) (nx' : Nat) : Fin v [] v' [] nx' = (v = v' ∧ bl nx' v' = true) := by
  apply propext
  constructor
  · rintro ⟨rest, hp, h1, h2, _⟩
    have : rest = [] := by simpa using hp.symm
    subst this
    exact ⟨by rw [← h1, frV_nil], h2⟩
  · rintro ⟨rfl, h⟩
    exact ⟨[], by simp, frV_nil _, h, by simp⟩
theorem fin_drop (v v' : V) (H : Heap) (nx' : Nat) (h1 : frV H v = v') (h2 : bl nx' v' = true) : Fin v H v' [] nx' := ⟨H, by simp, h1, h2, by simp⟩
theorem Fin.nl {v v' : V} {H : Heap} {nx' : Nat} (h : v = v') (hn : L1.nl v = true) : Fin v H v' [] nx' := by
  subst h; exact fin_drop _ _ _ _ ((bl_of_nl 0 v).2 hn H) ((bl_of_nl nx' v).1 hn)
theorem bl_nl (n : Nat) {v : V} (h : nl v = true) : bl n v = true := (bl_of_nl n v).1 h
end Go.L1
