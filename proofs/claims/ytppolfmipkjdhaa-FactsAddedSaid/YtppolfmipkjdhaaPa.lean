import Derived.Test.YtppolfmipkjdhaaFp
/-! Plain laws: the order of terms, of facts. -/
-- alias Try
set_option linter.all false
namespace Go.L1.Try
open Go.RowKit Go.Proofs

def lexI (a b : Int) : Int := if a ≠ 0 then a else b
theorem lex_neg {a b : Int} : lexI a b < 0 ↔ a < 0 ∨ (a = 0 ∧ b < 0) := by unfold lexI; split <;> omega
theorem lex_zero {a b : Int} : lexI a b = 0 ↔ a = 0 ∧ b = 0 := by unfold lexI; split <;> omega
theorem lex_anti {a b : Int} : lexI (-a) (-b) = - lexI a b := by unfold lexI; split <;> split <;> omega

structure Lin {α : Type} (c : α → α → Int) : Prop where
  eq : ∀ x y, c x y = 0 → x = y
  anti : ∀ x y, c y x = - c x y
  trans : ∀ x y z, c x y < 0 → c y z < 0 → c x z < 0

theorem Lin.self {α : Type} {c : α → α → Int} (h : Lin c) (x : α) : c x x = 0 := by
  have := h.anti x x; omega

theorem lin_cmpI : Lin cmpI := by
  refine ⟨fun x y => ?_, fun x y => ?_, fun x y z => ?_⟩ <;> simp only [cmpI] <;> (repeat' split) <;> omega

theorem lex_trans {α : Type} {c1 : α → α → Int} (h : Lin c1) {a b c : α} {p q r : Int} (h1 : lexI (c1 a b) p < 0) (h2 : lexI (c1 b c) q < 0) (h3 : p < 0 → q < 0 → r < 0) : lexI (c1 a c) r < 0 := by
  rw [lex_neg] at h1 h2 ⊢
  rcases h1 with h1 | ⟨h1, p1⟩ <;> rcases h2 with h2 | ⟨h2, p2⟩
  · exact .inl (h.trans _ _ _ h1 h2)
  · rw [← h.eq _ _ h2]; exact .inl h1
  · rw [h.eq _ _ h1]; exact .inl h2
  · rw [h.eq _ _ h1, h.eq _ _ h2]; exact .inr ⟨h.self _, h3 p1 p2⟩

theorem cb_cons (a b : UInt8) (x y : List UInt8) : Lib.compareBytes (a :: x) (b :: y) = lexI (cmpI a.toNat b.toNat) (Lib.compareBytes x y) := by
  simp only [Lib.compareBytes, lexI, cmpI, UInt8.lt_iff_toNat_lt, Int.ofNat_lt]
  split
  · simp
  · split <;> simp

theorem lin_u8 : Lin fun a b : UInt8 => cmpI a.toNat b.toNat :=
  ⟨fun x y h => UInt8.toNat_inj.1 (by have := lin_cmpI.eq _ _ h; omega), fun x y => lin_cmpI.anti _ _, fun x y z => lin_cmpI.trans _ _ _⟩

theorem cmpB_lin : Lin Lib.compareBytes := by
  refine ⟨fun x => ?_, fun x => ?_, fun x => ?_⟩
  · induction x with
    | nil => intro y h; cases y <;> simp_all [Lib.compareBytes]
    | cons a x ih =>
      intro y h
      cases y with
      | nil => simp [Lib.compareBytes] at h
      | cons b y =>
        rw [cb_cons, lex_zero] at h
        rw [lin_u8.eq _ _ h.1, ih y h.2]
  · induction x with
    | nil => intro y; cases y <;> simp [Lib.compareBytes]
    | cons a x ih =>
      intro y
      cases y with
      | nil => simp [Lib.compareBytes]
      | cons b y => rw [cb_cons, cb_cons, lin_u8.anti a b, ih y, lex_anti]
  · induction x with
    | nil =>
      intro y z h1 h2
      cases z with
      | nil => cases y <;> simp_all [Lib.compareBytes]
      | cons c z => simp [Lib.compareBytes]
    | cons a x ih =>
      intro y z h1 h2
      cases y with
      | nil => simp [Lib.compareBytes] at h1
      | cons b y =>
        cases z with
        | nil => simp [Lib.compareBytes] at h2
        | cons c z =>
          rw [cb_cons] at h1 h2 ⊢
          exact lex_trans lin_u8 h1 h2 (ih y z)

theorem lin_cmpS : Lin cmpS :=
  ⟨fun x y h => by have := cmpB_lin.eq _ _ h; exact ByteArray.ext (Array.ext' this), fun x y => cmpB_lin.anti _ _, fun x y z => cmpB_lin.trans _ _ _⟩

theorem cmpT_lex (k : Int) (s : ByteArray) (n : Int) (ts : List Tm) (k' : Int) (s' : ByteArray) (n' : Int) (us : List Tm) :
    cmpT (.mk k s n ts) (.mk k' s' n' us) = lexI (cmpI k k') (lexI (cmpI n n') (lexI (cmpI ts.length us.length) (lexI (cmpS s s') (cmpTs ts us)))) := by
  rw [cmpT]
  simp only [orI, lexI]
  repeat' split
  all_goals first | rfl | simp_all

theorem cmpT_eq : ∀ (a b : Tm), cmpT a b = 0 → a = b
  | .mk k s n ts, .mk k' s' n' us, h => by
    rw [cmpT_lex, lex_zero, lex_zero, lex_zero, lex_zero] at h
    obtain ⟨h1, h2, h3, h4, h5⟩ := h
    have key : ∀ (xs : List Tm), (∀ x ∈ xs, x ∈ ts) → ∀ ys, cmpTs xs ys = 0 → xs = ys := by
      intro xs
      induction xs with
      | nil => intro _ ys h; cases ys <;> simp_all [cmpTs]
      | cons x xs ih =>
        intro hx ys h
        cases ys with
        | nil => simp [cmpTs] at h
        | cons y ys =>
          have h' : lexI (cmpT x y) (cmpTs xs ys) = 0 := by rw [← h]; simp [cmpTs, lexI]
          rw [lex_zero] at h'
          rw [cmpT_eq x y h'.1, ih (fun z hz => hx z (List.mem_cons_of_mem _ hz)) ys h'.2]
    rw [lin_cmpI.eq _ _ h1, lin_cmpI.eq _ _ h2, lin_cmpS.eq _ _ h4, key ts (fun _ h => h) us h5]
termination_by a => SizeOf.sizeOf a
decreasing_by
  have := List.sizeOf_lt_of_mem (hx x List.mem_cons_self)
  simp; omega

theorem cmpTs_cons (x y : Tm) (xs ys : List Tm) : cmpTs (x :: xs) (y :: ys) = lexI (cmpT x y) (cmpTs xs ys) := by simp [cmpTs, lexI]

theorem cmpT_anti : ∀ (a b : Tm), cmpT b a = - cmpT a b
  | .mk k s n ts, .mk k' s' n' us => by
    have key : ∀ (xs : List Tm), (∀ x ∈ xs, x ∈ ts) → ∀ ys, cmpTs ys xs = - cmpTs xs ys := by
      intro xs
      induction xs with
      | nil => intro _ ys; cases ys <;> simp [cmpTs]
      | cons x xs ih =>
        intro hx ys
        cases ys with
        | nil => simp [cmpTs]
        | cons y ys =>
          rw [cmpTs_cons, cmpTs_cons, cmpT_anti x y, ih (fun z hz => hx z (List.mem_cons_of_mem _ hz)) ys, lex_anti]
    rw [cmpT_lex, cmpT_lex, lin_cmpI.anti k k', lin_cmpI.anti n n', lin_cmpI.anti (ts.length : Int), lin_cmpS.anti s s', key ts (fun _ h => h) us, lex_anti, lex_anti, lex_anti, lex_anti]
termination_by a => SizeOf.sizeOf a
decreasing_by
  have := List.sizeOf_lt_of_mem (hx x List.mem_cons_self)
  simp; omega

theorem cmpT_self (a : Tm) : cmpT a a = 0 := by have := cmpT_anti a a; omega

theorem cmpT_trans : ∀ (a b c : Tm), cmpT a b < 0 → cmpT b c < 0 → cmpT a c < 0
  | .mk k s n ts, .mk k' s' n' us, .mk k2 s2 n2 vs => by
    have step : ∀ x ∈ ts, ∀ {y z : Tm} {p q r : Int}, lexI (cmpT x y) p < 0 → lexI (cmpT y z) q < 0 → (p < 0 → q < 0 → r < 0) → lexI (cmpT x z) r < 0 := by
      intro x hx y z p q r h1 h2 h3
      rw [lex_neg] at h1 h2 ⊢
      rcases h1 with h1 | ⟨h1, p1⟩ <;> rcases h2 with h2 | ⟨h2, p2⟩
      · exact .inl (cmpT_trans x y z h1 h2)
      · rw [← cmpT_eq _ _ h2]; exact .inl h1
      · rw [cmpT_eq _ _ h1]; exact .inl h2
      · rw [cmpT_eq _ _ h1, cmpT_eq _ _ h2]; exact .inr ⟨cmpT_self _, h3 p1 p2⟩
    have key : ∀ (xs : List Tm), (∀ x ∈ xs, x ∈ ts) → ∀ ys zs, cmpTs xs ys < 0 → cmpTs ys zs < 0 → cmpTs xs zs < 0 := by
      intro xs
      induction xs with
      | nil => intro _ ys zs h1 h2; cases zs <;> cases ys <;> simp_all [cmpTs]
      | cons x xs ih =>
        intro hx ys zs h1 h2
        cases ys with
        | nil => simp [cmpTs] at h1
        | cons y ys =>
          cases zs with
          | nil => simp [cmpTs] at h2
          | cons z zs =>
            rw [cmpTs_cons] at h1 h2 ⊢
            exact step x (hx x List.mem_cons_self) h1 h2 (ih (fun z hz => hx z (List.mem_cons_of_mem _ hz)) ys zs)
    intro h1 h2
    rw [cmpT_lex] at h1 h2 ⊢
    exact lex_trans lin_cmpI h1 h2 fun h1 h2 => lex_trans lin_cmpI h1 h2 fun h1 h2 => lex_trans lin_cmpI h1 h2 fun h1 h2 => lex_trans lin_cmpS h1 h2 fun h1 h2 => key ts (fun _ h => h) us vs h1 h2
termination_by a => SizeOf.sizeOf a
decreasing_by
  have := List.sizeOf_lt_of_mem hx
  simp; omega

theorem lin_cmpT : Lin cmpT := ⟨cmpT_eq, cmpT_anti, cmpT_trans⟩

theorem cmpF_lex (x y : Fc) : cmpF x y = lexI (cmpT x.t y.t) (lexI (cmpI x.a y.a) (cmpI x.b y.b)) := by
  simp only [cmpF, orI, lexI]
  repeat' split
  all_goals first | rfl | simp_all

theorem lin_cmpF : Lin cmpF := by
  refine ⟨fun x y h => ?_, fun x y => ?_, fun x y z h1 h2 => ?_⟩
  · rw [cmpF_lex, lex_zero, lex_zero] at h
    obtain ⟨t, a, b⟩ := x
    obtain ⟨t', a', b'⟩ := y
    simp only at h
    rw [lin_cmpT.eq _ _ h.1, lin_cmpI.eq _ _ h.2.1, lin_cmpI.eq _ _ h.2.2]
  · rw [cmpF_lex, cmpF_lex, lin_cmpT.anti x.t, lin_cmpI.anti x.a, lin_cmpI.anti x.b, lex_anti, lex_anti]
  · rw [cmpF_lex] at h1 h2 ⊢
    exact lex_trans lin_cmpT h1 h2 fun h1 h2 => lex_trans lin_cmpI h1 h2 fun h1 h2 => lin_cmpI.trans _ _ _ h1 h2
end Go.L1.Try
