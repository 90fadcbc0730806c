import Derived.WalkKit
/-! L1, part a: values, what it is that a value of L1 stands for in a world, and how that lasts. No program in sight. -/
set_option linter.all false
namespace Go.L1
open Go.RowKit

/-- A value: data, or a name of memory that is owned. Frozen memory is told by what it holds. -/
inductive V where
  | b (x : Bool)
  | i (k : IntKind) (n : Int)
  | s (x : ByteArray)
  | nilP
  | ptr (l u j o : Nat)
  | dptr (cs : List V)
  | nilS
  | sl (l u j n sz : Nat)
  | dsl (sz : Nat) (els : List (List V))
  | mp (l : Nat)
  | nilM
  | fn (f : Nat) (cap : List V)
  | agg (cs : List V)
  | tup (vs : List V)
  | it (l : Nat)
  deriving Inhabited

/-- Where owned memory lies: block, first cell, cells an element, how many elements there is room for, the element's type. -/
structure Loc where
  blk : Nat
  base : Nat
  sz : Nat
  cap : Nat
  e : TypeId

abbrev Names := Nat → Nat → Option Loc

structure Ctx where
  w : World
  own : Nat → Prop
  ρ : Names

/-- A value of one cell. -/
def One : Value → Prop
  | .agg _ | .tuple _ => False
  | _ => True

theorem One.oneCell {v : Value} (h : One v) : v.oneCell' = true := by cases v <;> first | rfl | exact h.elim
theorem One.cells {v : Value} (h : One v) : v.cells = #[v] := by cases v <;> first | rfl | exact h.elim

/-- In its kind's range. -/
def InK : IntKind → Int → Prop
  | .i8, n => -128 ≤ n ∧ n ≤ 127
  | .i16, n => -32768 ≤ n ∧ n ≤ 32767
  | .i32, n => -2147483648 ≤ n ∧ n ≤ 2147483647
  | .i64, n => -9223372036854775808 ≤ n ∧ n ≤ 9223372036854775807
  | .u8, n => 0 ≤ n ∧ n ≤ 255
  | .u16, n => 0 ≤ n ∧ n ≤ 65535
  | .u32, n => 0 ≤ n ∧ n ≤ 4294967295
  | .u64, n => 0 ≤ n ∧ n ≤ 18446744073709551615

theorem InK.wrap (k : IntKind) (n : Int) : InK k (k.wrap n) := by
  cases k <;> simp only [InK, IntKind.wrap, IntKind.bits, IntKind.signed] <;> (try simp) <;> (try split) <;> omega

/-- Nothing has a name. -/
def Ctx.bare (c : Ctx) : Ctx := ⟨c.w, c.own, fun _ _ => none⟩

mutual
/-- x stands for v. -/
def R (c : Ctx) : V → Value → Prop
  | .b x, v => v = .bool x
  | .i k n, v => v = .int k n ∧ InK k n
  | .s x, v => v = .string x ∧ x.size ≤ maxLen
  | .nilP, v => v = .pointer none
  | .ptr l u j o, v => ∃ L, c.ρ l u = some L ∧ v = .pointer (some ⟨L.blk, L.base + j * L.sz + o, none⟩)
  | .dptr cs, v => ∃ b o, v = .pointer (some ⟨b, o, none⟩) ∧ Cells c.bare cs b o
  | .nilS, v => v = .slice none 0 0
  | .sl l u j n sz, v => ∃ L a cap, c.ρ l u = some L ∧ L.sz = sz ∧ v = .slice a n cap ∧ n ≤ cap ∧ cap ≤ maxLen ∧
      (cap = 0 ∨ (a = some ⟨L.blk, L.base + j * L.sz, none⟩ ∧ j + cap = L.cap))
  | .dsl sz els, v => ∃ a cap, v = .slice a els.length cap ∧ els.length ≤ cap ∧ cap ≤ maxLen ∧
      (els = [] ∨ ∃ b o, a = some ⟨b, o, none⟩ ∧ Els c.bare sz els b o)
  | .mp l, v => ∃ L, c.ρ l 0 = some L ∧ v = .map (some L.blk)
  | .nilM, v => v = .map none
  | .fn f cs, v => ∃ vs, v = .func (.func f) #[] vs ∧ Rs c cs vs.toList
  | .agg cs, v => ∃ vs, v = .agg vs ∧ Rs c cs vs.toList
  | .tup ts, v => ∃ vs, v = .tuple vs ∧ Rt c ts vs.toList
  | .it l, v => ∃ L, c.ρ l 0 = some L ∧ v = .pointer (some ⟨L.blk, 0, none⟩)
/-- Cell by cell. -/
def Rs (c : Ctx) : List V → List Value → Prop
  | [], vs => vs = []
  | x :: xs, vs => ∃ v vs', vs = v :: vs' ∧ One v ∧ R c x v ∧ Rs c xs vs'
/-- Value by value. -/
def Rt (c : Ctx) : List V → List Value → Prop
  | [], vs => vs = []
  | x :: xs, vs => ∃ v vs', vs = v :: vs' ∧ R c x v ∧ Rt c xs vs'
/-- Frozen cells hold them. -/
def Cells (c : Ctx) : List V → Nat → Nat → Prop
  | [], _, _ => True
  | x :: xs, b, o => (∃ v, c.w.cell? ⟨b, o, none⟩ = some v ∧ ¬ c.own b ∧ One v ∧ R c x v) ∧ Cells c xs b (o + 1)
/-- Frozen rows hold them. -/
def Els (c : Ctx) (sz : Nat) : List (List V) → Nat → Nat → Prop
  | [], _, _ => True
  | el :: els, b, o => el.length = sz ∧ Cells c el b o ∧ Els c sz els b (o + sz)
end

/-- What lasts from c to c': frozen cells hold what they held, names mean what they meant. -/
structure Lasts (c c' : Ctx) : Prop where
  cell : ∀ b o v, c.w.cell? ⟨b, o, none⟩ = some v → ¬ c.own b → c'.w.cell? ⟨b, o, none⟩ = some v ∧ ¬ c'.own b
  name : ∀ l u L, c.ρ l u = some L → c'.ρ l u = some L

theorem Lasts.refl (c : Ctx) : Lasts c c := ⟨fun _ _ _ h k => ⟨h, k⟩, fun _ _ _ h => h⟩
theorem Lasts.trans {a b c : Ctx} (h : Lasts a b) (k : Lasts b c) : Lasts a c :=
  ⟨fun bl o v x y => let ⟨p, q⟩ := h.cell bl o v x y; k.cell bl o v p q, fun l u L x => k.name l u L (h.name l u L x)⟩

theorem Lasts.bare {a b : Ctx} (h : Lasts a b) : Lasts a.bare b.bare := ⟨h.cell, fun _ _ _ x => by cases x⟩

mutual
theorem R.lasts {c c' : Ctx} (h : Lasts c c') : ∀ (x : V) (v : Value), R c x v → R c' x v
  | .b _, _, r => by simpa only [R] using r
  | .i _ _, _, r => by simpa only [R] using r
  | .s _, _, r => by simpa only [R] using r
  | .nilP, _, r => by simpa only [R] using r
  | .ptr l u j o, v, r => by
      simp only [R] at r ⊢
      obtain ⟨L, hL, hv⟩ := r
      exact ⟨L, h.name _ _ _ hL, hv⟩
  | .dptr cs, v, r => by
      simp only [R] at r ⊢
      obtain ⟨b, o, hv, hc⟩ := r
      exact ⟨b, o, hv, Cells.lasts h.bare cs b o hc⟩
  | .nilS, _, r => by simpa only [R] using r
  | .sl l u j n sz, v, r => by
      simp only [R] at r ⊢
      obtain ⟨L, a, cap, hL, rest⟩ := r
      exact ⟨L, a, cap, h.name _ _ _ hL, rest⟩
  | .dsl sz els, v, r => by
      simp only [R] at r ⊢
      obtain ⟨a, cap, hv, hl, hm, he⟩ := r
      refine ⟨a, cap, hv, hl, hm, ?_⟩
      rcases he with he | ⟨b, o, ha, he⟩
      · exact .inl he
      · exact .inr ⟨b, o, ha, Els.lasts h.bare sz els b o he⟩
  | .mp l, v, r => by
      simp only [R] at r ⊢
      obtain ⟨L, hL, hv⟩ := r
      exact ⟨L, h.name _ _ _ hL, hv⟩
  | .nilM, _, r => by simpa only [R] using r
  | .fn f cs, v, r => by
      simp only [R] at r ⊢
      obtain ⟨vs, hv, hc⟩ := r
      exact ⟨vs, hv, Rs.lasts h cs _ hc⟩
  | .agg cs, v, r => by
      simp only [R] at r ⊢
      obtain ⟨vs, hv, hc⟩ := r
      exact ⟨vs, hv, Rs.lasts h cs _ hc⟩
  | .tup ts, v, r => by
      simp only [R] at r ⊢
      obtain ⟨vs, hv, hc⟩ := r
      exact ⟨vs, hv, Rt.lasts h ts _ hc⟩
  | .it l, v, r => by
      simp only [R] at r ⊢
      obtain ⟨L, hL, hv⟩ := r
      exact ⟨L, h.name _ _ _ hL, hv⟩
theorem Rs.lasts {c c' : Ctx} (h : Lasts c c') : ∀ (xs : List V) (vs : List Value), Rs c xs vs → Rs c' xs vs
  | [], _, r => by simpa only [Rs] using r
  | x :: xs, vs, r => by
      simp only [Rs] at r ⊢
      obtain ⟨v, vs', e, o, rx, rr⟩ := r
      exact ⟨v, vs', e, o, R.lasts h x v rx, Rs.lasts h xs vs' rr⟩
theorem Rt.lasts {c c' : Ctx} (h : Lasts c c') : ∀ (xs : List V) (vs : List Value), Rt c xs vs → Rt c' xs vs
  | [], _, r => by simpa only [Rt] using r
  | x :: xs, vs, r => by
      simp only [Rt] at r ⊢
      obtain ⟨v, vs', e, rx, rr⟩ := r
      exact ⟨v, vs', e, R.lasts h x v rx, Rt.lasts h xs vs' rr⟩
theorem Cells.lasts {c c' : Ctx} (h : Lasts c c') : ∀ (xs : List V) (b o : Nat), Cells c xs b o → Cells c' xs b o
  | [], _, _, _ => by simp only [Cells]
  | x :: xs, b, o, r => by
      simp only [Cells] at r ⊢
      obtain ⟨⟨v, hc, ho, h1, rx⟩, rr⟩ := r
      have := h.cell b o v hc ho
      exact ⟨⟨v, this.1, this.2, h1, R.lasts h x v rx⟩, Cells.lasts h xs b (o + 1) rr⟩
theorem Els.lasts {c c' : Ctx} (h : Lasts c c') (sz : Nat) : ∀ (els : List (List V)) (b o : Nat), Els c sz els b o → Els c' sz els b o
  | [], _, _, _ => by simp only [Els]
  | el :: els, b, o, r => by
      simp only [Els] at r ⊢
      obtain ⟨hl, hc, rr⟩ := r
      exact ⟨hl, Cells.lasts h el b o hc, Els.lasts h sz els b (o + sz) rr⟩
end

/-! ### What a value that stands for something keeps to -/
mutual
def Wf : V → Prop
  | .b _ | .nilP | .ptr .. | .nilS | .mp _ | .nilM | .it _ => True
  | .i k n => InK k n
  | .s x => x.size ≤ maxLen
  | .dptr cs => Wfs cs
  | .sl _ _ _ n _ => n ≤ maxLen
  | .dsl _ els => els.length ≤ maxLen ∧ Wfe els
  | .fn _ cs => Wfs cs
  | .agg cs => Wfs cs
  | .tup vs => Wfs vs
def Wfs : List V → Prop
  | [] => True
  | x :: xs => Wf x ∧ Wfs xs
def Wfe : List (List V) → Prop
  | [] => True
  | x :: xs => Wfs x ∧ Wfe xs
end

mutual
theorem R.wf : ∀ {c : Ctx} (x : V) (v : Value), R c x v → Wf x
  | _, .b _, _, _ => by simp only [Wf]
  | _, .i _ _, _, r => by simp only [R] at r; simpa only [Wf] using r.2
  | _, .s _, _, r => by simp only [R] at r; simpa only [Wf] using r.2
  | _, .nilP, _, _ => by simp only [Wf]
  | _, .ptr .., _, _ => by simp only [Wf]
  | _, .dptr cs, _, r => by
      simp only [R] at r
      obtain ⟨b, o, _, hc⟩ := r
      simpa only [Wf] using Cells.wf cs b o hc
  | _, .nilS, _, _ => by simp only [Wf]
  | _, .sl .., _, r => by
      simp only [R] at r
      obtain ⟨L, a, cap, _, _, _, h1, h2, _⟩ := r
      simpa only [Wf] using Nat.le_trans h1 h2
  | _, .dsl sz els, _, r => by
      simp only [R] at r
      obtain ⟨a, cap, _, h1, h2, he⟩ := r
      simp only [Wf]
      refine ⟨Nat.le_trans h1 h2, ?_⟩
      rcases he with rfl | ⟨b, o, _, he⟩
      · simp only [Wfe]
      · exact Els.wf sz els b o he
  | _, .mp _, _, _ => by simp only [Wf]
  | _, .nilM, _, _ => by simp only [Wf]
  | _, .fn f cs, _, r => by
      simp only [R] at r
      obtain ⟨vs, _, hc⟩ := r
      simpa only [Wf] using Rs.wf cs _ hc
  | _, .agg cs, _, r => by
      simp only [R] at r
      obtain ⟨vs, _, hc⟩ := r
      simpa only [Wf] using Rs.wf cs _ hc
  | _, .tup ts, _, r => by
      simp only [R] at r
      obtain ⟨vs, _, hc⟩ := r
      simpa only [Wf] using Rt.wf ts _ hc
  | _, .it _, _, _ => by simp only [Wf]
theorem Rs.wf : ∀ {c : Ctx} (xs : List V) (vs : List Value), Rs c xs vs → Wfs xs
  | _, [], _, _ => by simp only [Wfs]
  | _, x :: xs, vs, r => by
      simp only [Rs] at r
      obtain ⟨v, vs', _, _, rx, rr⟩ := r
      simp only [Wfs]
      exact ⟨R.wf x v rx, Rs.wf xs vs' rr⟩
theorem Rt.wf : ∀ {c : Ctx} (xs : List V) (vs : List Value), Rt c xs vs → Wfs xs
  | _, [], _, _ => by simp only [Wfs]
  | _, x :: xs, vs, r => by
      simp only [Rt] at r
      obtain ⟨v, vs', _, rx, rr⟩ := r
      simp only [Wfs]
      exact ⟨R.wf x v rx, Rt.wf xs vs' rr⟩
theorem Cells.wf : ∀ {c : Ctx} (xs : List V) (b o : Nat), Cells c xs b o → Wfs xs
  | _, [], _, _, _ => by simp only [Wfs]
  | _, x :: xs, b, o, r => by
      simp only [Cells] at r
      obtain ⟨⟨v, _, _, _, rx⟩, rr⟩ := r
      simp only [Wfs]
      exact ⟨R.wf x v rx, Cells.wf xs b (o + 1) rr⟩
theorem Els.wf : ∀ {c : Ctx} (sz : Nat) (els : List (List V)) (b o : Nat), Els c sz els b o → Wfe els
  | _, _, [], _, _, _ => by simp only [Wfe]
  | _, sz, el :: els, b, o, r => by
      simp only [Els] at r
      obtain ⟨_, hc, rr⟩ := r
      simp only [Wfe]
      exact ⟨Cells.wf el b o hc, Els.wf sz els b (o + sz) rr⟩
end

/-! ### Other names -/
mutual
/-- No name in it (what is frozen has none). -/
def nl : V → Bool
  | .ptr .. | .sl .. | .mp _ | .it _ => false
  | .fn _ cs => nls cs
  | .agg cs => nls cs
  | .tup vs => nls vs
  | _ => true
def nls : List V → Bool
  | [] => true
  | x :: xs => nl x && nls xs
end

mutual
def ren (σ : Nat → Nat) : V → V
  | .ptr l u j o => .ptr (σ l) u j o
  | .sl l u j n sz => .sl (σ l) u j n sz
  | .mp l => .mp (σ l)
  | .it l => .it (σ l)
  | .fn f cs => .fn f (rens σ cs)
  | .agg cs => .agg (rens σ cs)
  | .tup vs => .tup (rens σ vs)
  | .b x => .b x
  | .i k n => .i k n
  | .s x => .s x
  | .nilP => .nilP
  | .dptr cs => .dptr cs
  | .nilS => .nilS
  | .dsl sz els => .dsl sz els
  | .nilM => .nilM
def rens (σ : Nat → Nat) : List V → List V
  | [] => []
  | x :: xs => ren σ x :: rens σ xs
end

def Ctx.sub (c : Ctx) (σ : Nat → Nat) : Ctx := ⟨c.w, c.own, fun l u => c.ρ (σ l) u⟩

mutual
theorem R.ren {c : Ctx} (σ : Nat → Nat) : ∀ (x : V) (v : Value), R c (ren σ x) v ↔ R (c.sub σ) x v
  | .ptr l u j o, v => by simp only [L1.ren, R]; exact Iff.rfl
  | .sl l u j n sz, v => by simp only [L1.ren, R]; exact Iff.rfl
  | .mp l, v => by simp only [L1.ren, R]; exact Iff.rfl
  | .it l, v => by simp only [L1.ren, R]; exact Iff.rfl
  | .fn f cs, v => by simp only [L1.ren, R, Rs.ren σ cs]
  | .agg cs, v => by simp only [L1.ren, R, Rs.ren σ cs]
  | .tup ts, v => by simp only [L1.ren, R, Rt.ren σ ts]
  | .b x, v => by simp only [L1.ren, R]
  | .i k n, v => by simp only [L1.ren, R]
  | .s x, v => by simp only [L1.ren, R]
  | .nilP, v => by simp only [L1.ren, R]
  | .dptr cs, v => by simp only [L1.ren, R]; exact Iff.rfl
  | .nilS, v => by simp only [L1.ren, R]
  | .dsl sz els, v => by simp only [L1.ren, R]; exact Iff.rfl
  | .nilM, v => by simp only [L1.ren, R]
theorem Rs.ren {c : Ctx} (σ : Nat → Nat) : ∀ (xs : List V) (vs : List Value), Rs c (rens σ xs) vs ↔ Rs (c.sub σ) xs vs
  | [], vs => by simp only [rens, Rs]
  | x :: xs, vs => by simp only [rens, Rs, R.ren σ x, Rs.ren σ xs]
theorem Rt.ren {c : Ctx} (σ : Nat → Nat) : ∀ (xs : List V) (vs : List Value), Rt c (rens σ xs) vs ↔ Rt (c.sub σ) xs vs
  | [], vs => by simp only [rens, Rt]
  | x :: xs, vs => by simp only [rens, Rt, R.ren σ x, Rt.ren σ xs]
end

mutual
theorem R.nameless {c : Ctx} : ∀ (x : V) (v : Value), nl x = true → R c x v → R c.bare x v
  | .ptr l u j o, v, h, _ => by simp [nl] at h
  | .sl l u j n sz, v, h, _ => by simp [nl] at h
  | .mp l, v, h, _ => by simp [nl] at h
  | .it l, v, h, _ => by simp [nl] at h
  | .fn f cs, v, h, r => by
      simp only [nl] at h; simp only [R] at r ⊢
      obtain ⟨vs, hv, hc⟩ := r
      exact ⟨vs, hv, Rs.nameless cs _ h hc⟩
  | .agg cs, v, h, r => by
      simp only [nl] at h; simp only [R] at r ⊢
      obtain ⟨vs, hv, hc⟩ := r
      exact ⟨vs, hv, Rs.nameless cs _ h hc⟩
  | .tup cs, v, h, r => by
      simp only [nl] at h; simp only [R] at r ⊢
      obtain ⟨vs, hv, hc⟩ := r
      exact ⟨vs, hv, Rt.nameless cs _ h hc⟩
  | .b x, v, _, r => by simpa only [R] using r
  | .i k n, v, _, r => by simpa only [R] using r
  | .s x, v, _, r => by simpa only [R] using r
  | .nilP, v, _, r => by simpa only [R] using r
  | .dptr cs, v, _, r => by simp only [R] at r ⊢; exact r
  | .nilS, v, _, r => by simpa only [R] using r
  | .dsl sz els, v, _, r => by simp only [R] at r ⊢; exact r
  | .nilM, v, _, r => by simpa only [R] using r
theorem Rs.nameless {c : Ctx} : ∀ (xs : List V) (vs : List Value), nls xs = true → Rs c xs vs → Rs c.bare xs vs
  | [], vs, _, r => by simpa only [Rs] using r
  | x :: xs, vs, h, r => by
      simp only [nls, Bool.and_eq_true] at h; simp only [Rs] at r ⊢
      obtain ⟨v, vs', e, h1, rx, rr⟩ := r
      exact ⟨v, vs', e, h1, R.nameless x v h.1 rx, Rs.nameless xs vs' h.2 rr⟩
theorem Rt.nameless {c : Ctx} : ∀ (xs : List V) (vs : List Value), nls xs = true → Rt c xs vs → Rt c.bare xs vs
  | [], vs, _, r => by simpa only [Rt] using r
  | x :: xs, vs, h, r => by
      simp only [nls, Bool.and_eq_true] at h; simp only [Rt] at r ⊢
      obtain ⟨v, vs', e, rx, rr⟩ := r
      exact ⟨v, vs', e, R.nameless x v h.1 rx, Rt.nameless xs vs' h.2 rr⟩
end

/-- The cells of a value; a tuple has none. -/
def V.cells : V → Option (List V)
  | .agg cs => some cs
  | .tup _ => none
  | x => some [x]

theorem Rs.single {c : Ctx} {x : V} {v : Value} (h1 : One v) (h : R c x v) : Rs c [x] v.cells.toList := by
  rw [One.cells h1]
  simp only [Rs]
  exact ⟨v, [], rfl, h1, h, rfl⟩

theorem R.cells {c : Ctx} {x : V} {v : Value} {cs : List V} (h : R c x v) (hc : x.cells = some cs) : Rs c cs v.cells.toList := by
  cases x <;> simp only [V.cells, Option.some.injEq] at hc <;> (try (cases hc; done)) <;> subst hc
  case agg cs => simp only [R] at h; obtain ⟨vs, rfl, hr⟩ := h; exact hr
  all_goals
    refine Rs.single ?_ h
    simp only [R] at h
  case b => subst h; trivial
  case i => obtain ⟨rfl, h⟩ := h; trivial
  case s => obtain ⟨rfl, h⟩ := h; trivial
  case nilP => subst h; trivial
  case ptr => obtain ⟨L, hL, rfl⟩ := h; trivial
  case dptr => obtain ⟨b, o, rfl, h⟩ := h; trivial
  case nilS => subst h; trivial
  case sl => obtain ⟨L, a, cap, hL, hz, rfl, h⟩ := h; trivial
  case dsl => obtain ⟨a, cap, rfl, h⟩ := h; trivial
  case mp => obtain ⟨L, hL, rfl⟩ := h; trivial
  case nilM => subst h; trivial
  case fn => obtain ⟨vs, rfl, h⟩ := h; trivial
  case it => obtain ⟨L, hL, rfl⟩ := h; trivial

theorem Rs.length {c : Ctx} : ∀ {xs : List V} {vs : List Value}, Rs c xs vs → xs.length = vs.length
  | [], _, h => by simp only [Rs] at h; subst h; rfl
  | x :: xs, _, h => by simp only [Rs] at h; obtain ⟨v, vs', rfl, _, _, h⟩ := h; simp [h.length]

theorem Rt.length {c : Ctx} : ∀ {xs : List V} {vs : List Value}, Rt c xs vs → xs.length = vs.length
  | [], _, h => by simp only [Rt] at h; subst h; rfl
  | x :: xs, _, h => by simp only [Rt] at h; obtain ⟨v, vs', rfl, _, h⟩ := h; simp [h.length]

theorem Rs.get {c : Ctx} : ∀ {xs : List V} {vs : List Value} {i : Nat} {x : V}, Rs c xs vs → xs[i]? = some x → ∃ v, vs[i]? = some v ∧ One v ∧ R c x v
  | [], _, _, _, _, h => by simp at h
  | y :: xs, _, i, x, r, h => by
    simp only [Rs] at r
    obtain ⟨v, vs', rfl, h1, rx, rr⟩ := r
    cases i with
    | zero => simp at h; subst h; exact ⟨v, rfl, h1, rx⟩
    | succ i => simpa using Rs.get rr (by simpa using h)

theorem Rt.get {c : Ctx} : ∀ {xs : List V} {vs : List Value} {i : Nat} {x : V}, Rt c xs vs → xs[i]? = some x → ∃ v, vs[i]? = some v ∧ R c x v
  | [], _, _, _, _, h => by simp at h
  | y :: xs, _, i, x, r, h => by
    simp only [Rt] at r
    obtain ⟨v, vs', rfl, rx, rr⟩ := r
    cases i with
    | zero => simp at h; subst h; exact ⟨v, rfl, rx⟩
    | succ i => simpa using Rt.get rr (by simpa using h)

theorem Rs.drop {c : Ctx} : ∀ {xs : List V} {vs : List Value} (n : Nat), Rs c xs vs → Rs c (xs.drop n) (vs.drop n)
  | _, _, 0, r => by simpa using r
  | [], _, n + 1, r => by simp only [Rs] at r; subst r; simp [Rs]
  | y :: xs, _, n + 1, r => by
    simp only [Rs] at r
    obtain ⟨v, vs', rfl, _, _, rr⟩ := r
    simpa using Rs.drop n rr

theorem Rs.take {c : Ctx} : ∀ {xs : List V} {vs : List Value} (n : Nat), Rs c xs vs → Rs c (xs.take n) (vs.take n)
  | _, _, 0, _ => by simp [Rs]
  | [], _, n + 1, r => by simp only [Rs] at r; subst r; simp [Rs]
  | y :: xs, _, n + 1, r => by
    simp only [Rs] at r
    obtain ⟨v, vs', rfl, h1, rx, rr⟩ := r
    simp only [List.take_succ_cons, Rs]
    exact ⟨v, vs'.take n, rfl, h1, rx, Rs.take n rr⟩

theorem Rs.append {c : Ctx} : ∀ {xs : List V} {vs : List Value} {ys : List V} {us : List Value}, Rs c xs vs → Rs c ys us → Rs c (xs ++ ys) (vs ++ us)
  | [], _, _, _, r, k => by simp only [Rs] at r; subst r; simpa using k
  | y :: xs, _, _, _, r, k => by
    simp only [Rs] at r
    obtain ⟨v, vs', rfl, h1, rx, rr⟩ := r
    simp only [List.cons_append, Rs]
    exact ⟨v, _, rfl, h1, rx, Rs.append rr k⟩

theorem Rt.append {c : Ctx} : ∀ {xs : List V} {vs : List Value} {ys : List V} {us : List Value}, Rt c xs vs → Rt c ys us → Rt c (xs ++ ys) (vs ++ us)
  | [], _, _, _, r, k => by simp only [Rt] at r; subst r; simpa using k
  | y :: xs, _, _, _, r, k => by
    simp only [Rt] at r
    obtain ⟨v, vs', rfl, rx, rr⟩ := r
    simp only [List.cons_append, Rt]
    exact ⟨v, _, rfl, rx, Rt.append rr k⟩

theorem Rs.toRt {c : Ctx} : ∀ {xs : List V} {vs : List Value}, Rs c xs vs → Rt c xs vs
  | [], _, r => by simp only [Rs] at r; subst r; simp [Rt]
  | y :: xs, _, r => by
    simp only [Rs] at r
    obtain ⟨v, vs', rfl, h1, rx, rr⟩ := r
    simp only [Rt]
    exact ⟨v, _, rfl, rx, Rs.toRt rr⟩

/-- Frozen cells, one by one. -/
theorem Cells.at {c : Ctx} : ∀ {xs : List V} {b o i : Nat} {x : V}, Cells c xs b o → xs[i]? = some x →
    ∃ v, c.w.cell? ⟨b, o + i, none⟩ = some v ∧ ¬ c.own b ∧ One v ∧ R c x v
  | [], _, _, _, _, _, h => by simp at h
  | y :: xs, b, o, i, x, r, h => by
    simp only [Cells] at r
    obtain ⟨r1, rr⟩ := r
    cases i with
    | zero => simp at h; subst h; exact r1
    | succ i =>
      have := Cells.at rr (i := i) (by simpa using h)
      rwa [show o + 1 + i = o + (i + 1) from by omega] at this

theorem Cells.drop {c : Ctx} : ∀ {xs : List V} {b o : Nat} (n : Nat), Cells c xs b o → Cells c (xs.drop n) b (o + n)
  | _, _, _, 0, r => by simpa using r
  | [], _, _, n + 1, _ => by simp [Cells]
  | y :: xs, b, o, n + 1, r => by
    simp only [Cells] at r
    have := Cells.drop n r.2
    rwa [show o + 1 + n = o + (n + 1) from by omega] at this

/-- Frozen cells, read into values. -/
theorem Cells.read {c : Ctx} : ∀ {xs : List V} {b o : Nat}, Cells c xs b o → ∃ vs, Rs c xs vs ∧ ∀ j v, vs[j]? = some v → c.w.cell? ⟨b, o + j, none⟩ = some v
  | [], _, _, _ => ⟨[], by simp [Rs], fun j v h => by simp at h⟩
  | x :: xs, b, o, r => by
    simp only [Cells] at r
    obtain ⟨⟨v, h1, h2, h3, h4⟩, rr⟩ := r
    obtain ⟨vs, hr, hc⟩ := Cells.read rr
    refine ⟨v :: vs, by simp only [Rs]; exact ⟨v, vs, rfl, h3, h4, hr⟩, fun j u hj => ?_⟩
    cases j with
    | zero => simp at hj; subst hj; exact h1
    | succ j =>
      have := hc j u (by simpa using hj)
      rwa [show o + 1 + j = o + (j + 1) from by omega] at this

theorem Els.at {c : Ctx} {sz : Nat} : ∀ {els : List (List V)} {b o i : Nat} {el : List V}, Els c sz els b o → els[i]? = some el →
    el.length = sz ∧ Cells c el b (o + i * sz)
  | [], _, _, _, _, _, h => by simp at h
  | y :: xs, b, o, i, el, r, h => by
    simp only [Els] at r
    obtain ⟨r1, r2, rr⟩ := r
    cases i with
    | zero => simp at h; subst h; simpa using ⟨r1, r2⟩
    | succ i =>
      have := Els.at rr (i := i) (by simpa using h)
      rwa [show o + sz + i * sz = o + (i + 1) * sz from by rw [Nat.add_mul]; omega] at this

theorem Els.drop {c : Ctx} {sz : Nat} : ∀ {els : List (List V)} {b o : Nat} (n : Nat), Els c sz els b o → Els c sz (els.drop n) b (o + n * sz)
  | _, _, _, 0, r => by simpa using r
  | [], _, _, n + 1, _ => by simp [Els]
  | y :: xs, b, o, n + 1, r => by
    simp only [Els] at r
    have := Els.drop n r.2.2
    rwa [show o + sz + n * sz = o + (n + 1) * sz from by rw [Nat.add_mul]; omega] at this

theorem Els.take {c : Ctx} {sz : Nat} : ∀ {els : List (List V)} {b o : Nat} (n : Nat), Els c sz els b o → Els c sz (els.take n) b o
  | _, _, _, 0, _ => by simp [Els]
  | [], _, _, n + 1, _ => by simp [Els]
  | y :: xs, b, o, n + 1, r => by
    simp only [Els] at r
    simp only [List.take_succ_cons, Els]
    exact ⟨r.1, r.2.1, Els.take n r.2.2⟩

end Go.L1
