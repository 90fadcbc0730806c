import Derived.Test.YtppolfmipkjdhaaLc
/-! L1, part d: the operations that touch nothing that is owned. -/
set_option linter.all false
namespace Go.L1
open Go.RowKit
variable [Zero Prop]

inductive TK where
  | int (k : IntKind) | bool | str | slice (e : Nat) | map (k e : Nat) | struct (fs : List (Nat × Nat)) | ptr | func | other
  deriving DecidableEq, Inhabited

/-- What is told of a type. -/
structure TI where
  k : TK
  size : Nat
  bytes : Nat
  zero : List V

def kdOk : TK → TypeDesc → Bool
  | .int k, .int k' => k == k'
  | .bool, .bool => true
  | .str, .string => true
  | .slice e, .slice e' => e == e'
  | .map k e, .map k' e' => k == k' && e == e'
  | .struct fs, .struct fields => fields.toList.map (fun f => (f.type, f.offset)) == fs
  | .ptr, .pointer _ => true
  | .func, .func .. => true
  | _, _ => false

structure TyOk (P : Program) (t : Nat) (ti : TI) : Prop where
  size : ∃ i, P.info? t = some i ∧ i.size = ti.size ∧ i.bytes = ti.bytes ∧ ∃ z, i.zero = some z ∧ constCs z.cells.toList = some ti.zero ∧ (∀ fs, ti.k = .struct fs → ∃ cs, z = .agg cs) ∧ ((∀ fs, ti.k ≠ .struct fs) → One z) ∧ z.cells.size = ti.size
  desc : ∃ d, P.underlying t = some d ∧ kdOk ti.k d = true
  names : ∀ fields, P.underlying t = some (.struct fields) → (∀ f ∈ fields.toList, f.name ≠ "_") ∧ P.stoodInHeld t = false ∧ P.eqGuardType P.depth t = false

def Sig (P : Program) (tys : Nat → TI) : Prop := ∀ t, (tys t).k ≠ .other → TyOk P t (tys t)

def isAggK : TK → Bool
  | .struct _ => true
  | _ => false

def kindsFs (f : Nat → Option (List TK)) : Nat → List (Nat × Nat) → Option (List TK)
  | _, [] => some []
  | off, (t, o) :: fs =>
    if o = off then
      match f t with
      | some ks => match kindsFs f (off + ks.length) fs with
        | some ks' => some (ks ++ ks')
        | none => none
      | none => none
    else none

/-- The kinds of a type's cells, where all of them can be compared plainly. -/
def kindsOf (tys : Nat → TI) : Nat → Nat → Option (List TK)
  | 0, _ => none
  | n + 1, t =>
    match (tys t).k with
    | .int k => some [.int k]
    | .str => some [.str]
    | .bool => some [.bool]
    | .struct fs => match kindsFs (kindsOf tys n) 0 fs with
      | some ks => if ks.length = (tys t).size then some ks else none
      | none => none
    | _ => none

def fitK : TK → V → Bool
  | .int k, .i k' _ => k == k'
  | .str, .s _ => true
  | .bool, .b _ => true
  | _, _ => false

def fitKs : List TK → List V → Bool
  | [], [] => true
  | k :: ks, x :: xs => fitK k x && fitKs ks xs
  | _, _ => false

def scEq : V → V → Bool
  | .i _ a, .i _ c => decide (a = c)
  | .s a, .s c => decide (a = c)
  | .b a, .b c => a == c
  | _, _ => false

def cellsEq : List V → List V → Bool
  | [], [] => true
  | x :: xs, y :: ys => scEq x y && cellsEq xs ys
  | _, _ => false

/-- A value of such a type. -/
def fits (tys : Nat → TI) (t : Nat) (x : V) : Bool :=
  match kindsOf tys 5 t, x with
  | some ks, .agg cs => isAggK (tys t).k && fitKs ks cs
  | some [k], x => !isAggK (tys t).k && fitK k x
  | _, _ => false

def keyEq : V → V → Bool
  | .agg xs, .agg ys => cellsEq xs ys
  | x, y => scEq x y

section
variable {P : Program} {tys : Nat → TI}

theorem sig_under (hT : Sig P tys) {t : Nat} (h : (tys t).k ≠ .other) : ∃ d, P.underlying t = some d ∧ kdOk (tys t).k d = true := (hT t h).desc
theorem sig_slice (hT : Sig P tys) {t e : Nat} (h : (tys t).k = .slice e) : P.underlying t = some (.slice e) := by
  obtain ⟨d, h1, h2⟩ := sig_under hT (t := t) (by rw [h]; simp)
  rw [h] at h2
  cases d <;> simp [kdOk] at h2
  rw [h1, h2]
theorem sig_map (hT : Sig P tys) {t k e : Nat} (h : (tys t).k = .map k e) : P.underlying t = some (.map k e) := by
  obtain ⟨d, h1, h2⟩ := sig_under hT (t := t) (by rw [h]; simp)
  rw [h] at h2
  cases d <;> simp [kdOk] at h2
  rw [h1, h2.1, h2.2]
theorem sig_str (hT : Sig P tys) {t : Nat} (h : (tys t).k = .str) : P.underlying t = some .string := by
  obtain ⟨d, h1, h2⟩ := sig_under hT (t := t) (by rw [h]; simp)
  rw [h] at h2
  cases d <;> simp [kdOk] at h2
  exact h1
theorem sig_bool (hT : Sig P tys) {t : Nat} (h : (tys t).k = .bool) : P.underlying t = some .bool := by
  obtain ⟨d, h1, h2⟩ := sig_under hT (t := t) (by rw [h]; simp)
  rw [h] at h2
  cases d <;> simp [kdOk] at h2
  exact h1
theorem sig_int (hT : Sig P tys) {t : Nat} {k : IntKind} (h : (tys t).k = .int k) : P.underlying t = some (.int k) := by
  obtain ⟨d, h1, h2⟩ := sig_under hT (t := t) (by rw [h]; simp)
  rw [h] at h2
  cases d <;> simp [kdOk] at h2
  rw [h1, h2]
theorem sig_struct (hT : Sig P tys) {t : Nat} {fs : List (Nat × Nat)} (h : (tys t).k = .struct fs) :
    ∃ fields, P.underlying t = some (.struct fields) ∧ fields.toList.map (fun f => (f.type, f.offset)) = fs := by
  obtain ⟨d, h1, h2⟩ := sig_under hT (t := t) (by rw [h]; simp)
  rw [h] at h2
  cases d <;> simp [kdOk] at h2
  rename_i fields
  exact ⟨fields, h1, by simpa using h2⟩
theorem sig_size (hT : Sig P tys) {t : Nat} (h : (tys t).k ≠ .other) (w : World) : (sizeOf t).run P w = .ok (tys t).size w := by
  obtain ⟨i, h1, h2, _⟩ := (hT t h).size
  simp [sizeOf, typeInfo, h1, h2]
theorem sig_info (hT : Sig P tys) {t : Nat} (h : (tys t).k ≠ .other) : ∃ i, P.info? t = some i ∧ i.size = (tys t).size ∧ i.bytes = (tys t).bytes := by
  obtain ⟨i, h1, h2, h3, _⟩ := (hT t h).size
  exact ⟨i, h1, h2, h3⟩
theorem sig_zero (hT : Sig P tys) {t : Nat} (h : (tys t).k ≠ .other) (c : Ctx) : ∃ z, (∀ w, (zeroValue t).run P w = .ok z w) ∧ Rs c (tys t).zero z.cells.toList ∧ z.cells.size = (tys t).size := by
  obtain ⟨i, h1, h2, h3, z, h4, h5, _, _, h6⟩ := (hT t h).size
  exact ⟨z, fun w => by simp [zeroValue, typeInfo, h1, h4], constCs_R c _ _ h5, h6⟩

theorem sig_isAgg (hT : Sig P tys) {t : Nat} (h : (tys t).k ≠ .other) (w : World) : (isAgg t).run P w = .ok (isAggK (tys t).k) w := by
  obtain ⟨d, h1, h2⟩ := sig_under hT h
  have hu := run_underlying h1 w
  simp only [isAgg, Sem.run_bind, hu, Result.andThen_ok]
  cases hk : (tys t).k <;> rw [hk] at h2 <;> cases d <;> simp [kdOk] at h2 <;> rfl

/-! ### The values -/

def sless (a b : ByteArray) : Bool := Op.bytesLess a.data.toList b.data.toList
def byteAt (x : ByteArray) (n : Nat) : Int := ((x.data.toList.getD n 0).toNat : Int)
def bitsV (op : BinOp) (k : IntKind) (x y : Int) : Int :=
  let a := BitVec.ofInt k.bits x
  let b := BitVec.ofInt k.bits y
  match op with
  | .and => k.wrap (a &&& b).toNat
  | .or => k.wrap (a ||| b).toNat
  | .xor => k.wrap (a ^^^ b).toNat
  | _ => k.wrap (a &&& ~~~b).toNat

def intBin (op : BinOp) (k : IntKind) (a c : Int) : Option (Prop × V) :=
  match op with
  | .add => some (True, .i k (k.wrap (a + c)))
  | .sub => some (True, .i k (k.wrap (a - c)))
  | .mul => some (True, .i k (k.wrap (a * c)))
  | .quo => some (c ≠ 0, .i k (k.wrap (a.tdiv c)))
  | .rem => some (c ≠ 0 ∧ InK k (a.tmod c), .i k (a.tmod c))
  | .and => some (True, .i k (bitsV .and k a c))
  | .or => some (True, .i k (bitsV .or k a c))
  | .xor => some (True, .i k (bitsV .xor k a c))
  | .andNot => some (True, .i k (bitsV .andNot k a c))
  | .eql => some (True, .b (decide (a = c)))
  | .neq => some (True, .b (!decide (a = c)))
  | .lss => some (True, .b (decide (a < c)))
  | .leq => some (True, .b (decide (a ≤ c)))
  | .gtr => some (True, .b (decide (c < a)))
  | .geq => some (True, .b (decide (c ≤ a)))
  | _ => none

def shV (op : BinOp) (k : IntKind) (a c : Int) : Option (Prop × V) :=
  match op with
  | .shl => some (0 ≤ c, .i k (k.wrap (a * 2 ^ (min c.toNat k.bits))))
  | .shr => some (0 ≤ c ∧ InK k (a.fdiv (2 ^ (min c.toNat k.bits))), .i k (a.fdiv (2 ^ (min c.toNat k.bits))))
  | _ => none

def strBin (op : BinOp) (a c : ByteArray) : Option (Prop × V) :=
  match op with
  | .add => some (a.size + c.size ≤ 9223372036854775807, .s (a ++ c))
  | .eql => some (True, .b (decide (a = c)))
  | .neq => some (True, .b (!decide (a = c)))
  | .lss => some (True, .b (sless a c))
  | .leq => some (True, .b (sless a c || decide (a = c)))
  | .gtr => some (True, .b (!(sless a c || decide (a = c))))
  | .geq => some (True, .b (!sless a c))
  | _ => none

def isSh : BinOp → Bool
  | .shl | .shr => true
  | _ => false

/-- Parts laid into a struct's cells. -/
def fillV (fs : List (Nat × Nat)) (tys : Nat → TI) : List V → List (Nat × V) → Option (List V)
  | cells, [] => some cells
  | cells, (i, x) :: rest =>
    match fs[i]?, x.cells with
    | some (t, off), some cs =>
      if cs.length = (tys t).size ∧ off + cs.length ≤ cells.length then fillV fs tys (cells.take off ++ cs ++ cells.drop (off + cs.length)) rest else none
    | _, _ => none

/-- Parts laid into a slice's elements. -/
def fillE (sz : Nat) : List (List V) → List (Nat × V) → Option (List (List V))
  | els, [] => some els
  | els, (i, x) :: rest =>
    match x.cells with
    | some cs => if cs.length = sz ∧ i < els.length then fillE sz (els.set i cs) rest else none
    | none => none

def evs (T : Env) : List Operand → Option (List V)
  | [] => some []
  | x :: xs => match ev T x, evs T xs with
    | some v, some vs => some (v :: vs)
    | _, _ => none

def evp (T : Env) : List (Nat × Operand) → Option (List (Nat × V))
  | [] => some []
  | (i, x) :: xs => match ev T x, evp T xs with
    | some v, some vs => some ((i, v) :: vs)
    | _, _ => none

def allOne : List V → Bool
  | [] => true
  | .agg _ :: _ => false
  | .tup _ :: _ => false
  | _ :: xs => allOne xs

/-- Bytes out of a row of bytes. -/
def byteOf : List V → UInt8
  | [.i _ n] => UInt8.ofNat n.toNat
  | _ => 0
def isByte : List V → Bool
  | [.i .u8 _] => true
  | _ => false

def strOf (els : List (List V)) : ByteArray := ⟨(els.map byteOf).toArray⟩

def lenV : V → Option Int
  | .s x => some x.size
  | .dsl _ els => some els.length
  | .sl _ _ _ n _ => some n
  | .nilS => some 0
  | .nilM => some 0
  | _ => none

/-- The value of an operation that touches nothing that is owned, and what it wants. -/
def pop (tys : Nat → TI) (ro : Bool) (T : Env) : Op → Option (Prop × V)
  | .move x => (ev T x).map fun v => (True, v)
  | .assign x => (ev T x).map fun v => (True, v)
  | .pick c x y =>
    match ev T c, ev T x, ev T y with
    | some (.b p), some (.b q), some (.b r) => some (True, .b (bif p then q else r))
    | some (.b true), some v, _ => some (True, v)
    | some (.b false), _, some v => some (True, v)
    | _, _, _ => none
  | .nilCheck x =>
    match ev T x with
    | some (.ptr l u j o) => some (True, .ptr l u j o)
    | some (.dptr cs) => some (True, .dptr cs)
    | _ => none
  | .binOp op t x y _ =>
    match ev T x, ev T y with
    | some (.i k a), some (.i k' c) => if isSh op then shV op k a c else if k = k' then intBin op k a c else none
    | some (.s a), some (.s c) => strBin op a c
    | some (.b a), some (.b c) =>
      match op, (tys t).k with
      | .eql, .bool => some (True, .b (a == c))
      | .neq, .bool => some (True, .b (!(a == c)))
      | _, _ => none
    | some (.agg xs), some (.agg ys) =>
      if fits tys t (.agg xs) && fits tys t (.agg ys) then
        match op with
        | .eql => some (True, .b (cellsEq xs ys))
        | .neq => some (True, .b (!cellsEq xs ys))
        | _ => none
      else none
    | _, _ => none
  | .unOp op _ x =>
    match op, ev T x with
    | .not, some (.b p) => some (True, .b (!p))
    | .neg, some (.i k n) => some (True, .i k (k.wrap (0 - n)))
    | _, _ => none
  | .convert src dst x =>
    match (tys src).k, (tys dst).k, ev T x with
    | .other, _, _ => none
    | _, .int k, some (.i _ n) => some (True, .i k (k.wrap n))
    | .str, .str, some (.s x) => some (True, .s x)
    | .slice e, .str, some (.dsl sz els) => if (tys e).k = .int .u8 ∧ sz = 1 then some (els.all isByte = true, .s (strOf els)) else none
    | .slice e, .str, some .nilS => if (tys e).k = .int .u8 then some (True, .s ⟨#[]⟩) else none
    | _, _, _ => none
  | .field t x f =>
    match (tys t).k, ev T x with
    | .struct fs, some (.agg cs) =>
      match fs[f]? with
      | some (ft, off) =>
        match (tys ft).k with
        | .other => none
        | .struct _ => some (off + (tys ft).size ≤ cs.length, .agg ((cs.drop off).take (tys ft).size))
        | _ => match cs[off]? with
          | some v => some (True, v)
          | none => none
      | none => none
    | _, _ => none
  | .fieldAddr t x f =>
    match (tys t).k, ev T x with
    | .struct fs, some v =>
      match fs[f]? with
      | some (ft, off) =>
        if (tys ft).k = .other ∨ (tys ft).size = 0 then none else
        match v with
        | .dptr cs => some (True, .dptr (cs.drop off))
        | .ptr l u j o => some (True, .ptr l u j (o + off))
        | _ => none
      | none => none
    | _, _ => none
  | .indexAddr t x y =>
    match (tys t).k, ev T x, ev T y with
    | .slice e, some (.dsl sz els), some (.i _ n) => if (tys e).size = sz ∧ (tys e).k ≠ .other then some (0 ≤ n ∧ n < els.length, .dptr (els.getD n.toNat [])) else none
    | .slice e, some (.sl l u j m sz), some (.i _ n) => if (tys e).size = sz ∧ (tys e).k ≠ .other then some (0 ≤ n ∧ n < m, .ptr l u (j + n.toNat) 0) else none
    | _, _, _ => none
  | .index t x y =>
    match (tys t).k, ev T x, ev T y with
    | .str, some (.s b), some (.i _ n) => some (0 ≤ n ∧ n < b.size, .i .u8 (byteAt b n.toNat))
    | _, _, _ => none
  | .load t x =>
    match ev T x, (tys t).k with
    | some (.dptr _), .other => none
    | some (.dptr cs), .struct _ => some ((tys t).size ≤ cs.length, .agg (cs.take (tys t).size))
    | some (.dptr cs), _ => match cs with
      | v :: _ => some (True, v)
      | [] => none
    | _, _ => none
  | .box _ x =>
    if ro then
      match ev T x with
      | some v => match v.cells with
        | some cs => if nls cs then some (True, .dptr cs) else none
        | none => none
      | none => none
    else none
  | .build t parts =>
    match (tys t).k, evp T parts.toList with
    | .struct fs, some ps =>
      match fillV fs tys (tys t).zero ps with
      | some cs => if fs.all fun f => (tys f.1).k ≠ .other then some (True, .agg cs) else none
      | none => none
    | _, _ => none
  | .buildSlice t len parts =>
    if ro ∨ len = 0 then
      match (tys t).k, evp T parts.toList with
      | .slice e, some ps =>
        if (tys e).k = .other ∨ (tys e).size = 0 ∨ 65536 < len * (tys e).size then none else
        match fillE (tys e).size (List.replicate len (tys e).zero) ps with
        | some els => if els.all nls then some (True, .dsl (tys e).size els) else none
        | none => none
      | _, _ => none
    else none
  | .extract x i =>
    match ev T x with
    | some (.tup vs) => match vs[i]? with
      | some v => some (True, v)
      | none => none
    | _ => none
  | .makeFunc (.func f) first cap =>
    if first.isEmpty then
      match evs T cap.toList with
      | some vs => if allOne vs then some (True, .fn f vs) else none
      | none => none
    else none
  | .call { callee := .builtin .len, args, argTypes } =>
    match args.toList, argTypes.toList with
    | [x], [t] =>
      match ev T x, (tys t).k with
      | some (.s b), .str => some (True, .i .i64 b.size)
      | some (.dsl _ els), .slice _ => some (True, .i .i64 els.length)
      | some (.sl _ _ _ n _), .slice _ => some (True, .i .i64 n)
      | some .nilS, .slice _ => some (True, .i .i64 0)
      | some .nilM, .map _ _ => some (True, .i .i64 0)
      | _, _ => none
    | _, _ => none
  | _ => none

end
end Go.L1
