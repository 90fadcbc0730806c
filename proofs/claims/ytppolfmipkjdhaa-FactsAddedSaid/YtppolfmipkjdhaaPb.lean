import Derived.Test.YtppolfmipkjdhaaFq
/-! Plain laws: terms that may be; their keys tell them apart; own memory changes nothing. -/
-- alias Try
set_option linter.all false
namespace Go.L1.Try
open Go.RowKit Go.Proofs Go.Sort

mutual
def vdT : Tm → Prop
  | .mk k s n ts => (k = 1 ∨ k = 2 ∨ k = 3) ∧ s.size ≤ 16 ∧ numB n = true ∧ ts.length ≤ 4 ∧ vdTs ts
def vdTs : List Tm → Prop
  | [] => True
  | t :: ts => vdT t ∧ vdTs ts
end

theorem numB_0 : numB 0 = true := by decide

theorem mayT_vd : ∀ (t : Tm) (d : Nat) (l : Int), (mayT t d l).1 = true → vdT t
  | .mk k s n ts, d, l, h => by
    rw [mayT] at h
    split at h
    · simp at h
    split at h
    · rename_i hk
      simp only [Bool.and_eq_true, decide_eq_true_eq] at h
      have : ts = [] := List.eq_nil_of_length_eq_zero h.2
      subst this
      exact ⟨.inl hk, word_size h.1.1, by rw [h.1.2]; exact numB_0, by simp, trivial⟩
    split at h
    · rename_i hk
      simp only [Bool.and_eq_true, decide_eq_true_eq] at h
      have : ts = [] := List.eq_nil_of_length_eq_zero h.2
      subst this
      exact ⟨.inr (.inl hk), by omega, h.1.1, by simp, trivial⟩
    split at h
    · rename_i hk
      split at h
      · rename_i hc
        simp only [Bool.and_eq_true, decide_eq_true_eq] at hc
        refine ⟨.inr (.inr hk), word_size hc.1.1, by rw [hc.1.2]; exact numB_0, hc.2, ?_⟩
        have : ∀ (us : List Tm), (∀ u ∈ us, u ∈ ts) → ∀ l, (mayTs us (d - 1) l).1 = true → vdTs us := by
          intro us
          induction us with
          | nil => intro _ l _; trivial
          | cons u us ih =>
            intro hu l hl
            rw [mayTs] at hl
            split at hl
            · rename_i h1
              exact ⟨mayT_vd u (d - 1) l h1, ih (fun v hv => hu v (List.mem_cons_of_mem _ hv)) _ hl⟩
            · simp at hl
        exact this ts (fun _ h => h) _ h
      · simp at h
    · simp at h
termination_by t => SizeOf.sizeOf t
decreasing_by
  have := List.sizeOf_lt_of_mem (hu u (List.mem_cons_self))
  simp; omega

mutual
def gdT : Tm → Prop
  | .mk k _ _ ts => k ≠ 1 ∧ gdTs ts
def gdTs : List Tm → Prop
  | [] => True
  | t :: ts => gdT t ∧ gdTs ts
end

theorem addN_le (ns : List ByteArray) (s : ByteArray) : ns.length ≤ (addN ns s).length ∧ 0 < (addN ns s).length := by
  unfold addN
  split
  · rename_i h
    rw [hasN_iff] at h
    exact ⟨Nat.le_refl _, List.length_pos_of_mem h⟩
  · simp
mutual
theorem noteT_le : ∀ (t : Tm) (ns : List ByteArray), ns.length ≤ (noteT t ns).length ∧ ((noteT t ns).length = 0 → gdT t)
  | .mk k s n ts, ns => by
    rw [noteT]
    have h1 := noteTs_le ts (if k = 1 then addN ns s else ns)
    by_cases hk : k = 1
    · simp only [if_pos hk] at h1 ⊢
      have := addN_le ns s
      exact ⟨by omega, fun h => by omega⟩
    · simp only [if_neg hk] at h1 ⊢
      exact ⟨h1.1, fun h => ⟨hk, h1.2 h⟩⟩
theorem noteTs_le : ∀ (ts : List Tm) (ns : List ByteArray), ns.length ≤ (noteTs ts ns).length ∧ ((noteTs ts ns).length = 0 → gdTs ts)
  | [], ns => ⟨Nat.le_refl _, fun _ => trivial⟩
  | x :: xs, ns => by
    rw [noteTs]
    have h1 := noteT_le x ns
    have h2 := noteTs_le xs (noteT x ns)
    exact ⟨by omega, fun h => ⟨h1.2 (by omega), h2.2 h⟩⟩
end
mutual
theorem ownT_gd : ∀ (t : Tm), gdT t → ownT t = t
  | .mk k s n ts, h => by rw [ownT, if_neg h.1, ownTs_gd ts h.2]
theorem ownTs_gd : ∀ (ts : List Tm), gdTs ts → ownTs ts = ts
  | [], _ => rfl
  | x :: xs, h => by rw [ownTs, ownT_gd x h.1, ownTs_gd xs h.2]
end

theorem isB_own {f : Fc} (h : isB f = true) : ownF f = f := by
  simp only [isB, Bool.and_eq_true, groundB, decide_eq_true_eq] at h
  obtain ⟨t, a, b⟩ := f
  simp only [ownF, Fc.mk.injEq, and_self, and_true]
  exact ownT_gd t ((noteT_le t []).2 h.1.2)

theorem isB_vd {f : Fc} (h : isB f = true) : vdT f.t := by
  simp only [isB, Bool.and_eq_true] at h
  exact mayT_vd _ _ _ h.1.1.2

theorem u8_nat {n : Int} (h0 : 0 ≤ n) : ((u8 n).toNat : Int) = n % 256 := by
  unfold u8
  rw [UInt8.toNat_ofNat']
  have : IntKind.u8.wrap n = n % 256 := by simp [IntKind.wrap, IntKind.bits, IntKind.signed]
  rw [this]
  omega
theorem u8_inj {a b : Int} (ha : 0 ≤ a) (hb : 0 ≤ b) (ha2 : a < 256) (hb2 : b < 256) (h : u8 a = u8 b) : a = b := by
  have h1 := u8_nat ha
  have h2 := u8_nat hb
  rw [h] at h1
  omega

theorem n32_eq (n : Int) (h : numB n = true) : n32 n = if 0 ≤ n then n else n + 4294967296 := by
  simp only [numB, Bool.and_eq_true, decide_eq_true_eq] at h
  unfold n32
  have h1 : IntKind.i32.wrap n = n := wrap_in (by simp only [InK]; omega)
  rw [h1]
  simp [IntKind.wrap, IntKind.bits, IntKind.signed]
  split <;> omega

theorem n32_inj {a b : Int} (ha : numB a = true) (hb : numB b = true) (h3 : u8 ((n32 a).fdiv (2 ^ 24)) = u8 ((n32 b).fdiv (2 ^ 24))) (h2 : u8 ((n32 a).fdiv (2 ^ 16)) = u8 ((n32 b).fdiv (2 ^ 16)))
    (h1 : u8 ((n32 a).fdiv (2 ^ 8)) = u8 ((n32 b).fdiv (2 ^ 8))) (h0 : u8 (n32 a) = u8 (n32 b)) : a = b := by
  have ea := n32_eq a ha
  have eb := n32_eq b hb
  simp only [numB, Bool.and_eq_true, decide_eq_true_eq] at ha hb
  have pa : 0 ≤ n32 a ∧ n32 a < 4294967296 := by rw [ea]; split <;> omega
  have pb : 0 ≤ n32 b ∧ n32 b < 4294967296 := by rw [eb]; split <;> omega
  have key : n32 a = n32 b := by
    generalize n32 a = x at *
    generalize n32 b = y at *
    clear ea eb ha hb
    simp only [Int.fdiv_eq_ediv_of_nonneg _ (show (0:Int) ≤ 2 ^ 24 by decide), Int.fdiv_eq_ediv_of_nonneg _ (show (0:Int) ≤ 2 ^ 16 by decide), Int.fdiv_eq_ediv_of_nonneg _ (show (0:Int) ≤ 2 ^ 8 by decide)] at h1 h2 h3
    have q0 := u8_nat (n := x) pa.1
    have q0' := u8_nat (n := y) pb.1
    have q1 := u8_nat (n := x / 2 ^ 8) (Int.ediv_nonneg pa.1 (by decide))
    have q1' := u8_nat (n := y / 2 ^ 8) (Int.ediv_nonneg pb.1 (by decide))
    have q2 := u8_nat (n := x / 2 ^ 16) (Int.ediv_nonneg pa.1 (by decide))
    have q2' := u8_nat (n := y / 2 ^ 16) (Int.ediv_nonneg pb.1 (by decide))
    have q3 := u8_nat (n := x / 2 ^ 24) (Int.ediv_nonneg pa.1 (by decide))
    have q3' := u8_nat (n := y / 2 ^ 24) (Int.ediv_nonneg pb.1 (by decide))
    rw [h0] at q0
    rw [h1] at q1
    rw [h2] at q2
    rw [h3] at q3
    simp only [show (2:Int) ^ 24 = 16777216 by decide, show (2:Int) ^ 16 = 65536 by decide, show (2:Int) ^ 8 = 256 by decide] at *
    omega
  rw [ea, eb] at key
  split at key <;> split at key <;> omega

theorem keyB_inj : ∀ (t t' : Tm) (r r' : List UInt8), vdT t → vdT t' → keyB t ++ r = keyB t' ++ r' → t = t' ∧ r = r'
  | .mk k s n ts, .mk k' s' n' us, r, r', h, h', e => by
    rw [keyB, keyB] at e
    simp only [List.cons_append, List.cons.injEq, List.append_assoc] at e
    obtain ⟨e1, e2, e3⟩ := e
    obtain ⟨hk, hs, hn, hl, hv⟩ := h
    obtain ⟨hk', hs', hn', hl', hv'⟩ := h'
    have ek : k = k' := u8_inj (by omega) (by omega) (by omega) (by omega) e1
    have es : s.size = s'.size := by have := u8_inj (by omega) (by omega) (by omega) (by omega) e2; omega
    have esl : s.data.toList.length = s'.data.toList.length := by
      have : s.data.size = s'.data.size := es
      simpa using this
    obtain ⟨e4, e5⟩ := List.append_inj e3 esl
    simp only [List.nil_append, List.cons.injEq] at e5
    obtain ⟨e6, e7, e8, e9, e10, e11⟩ := e5
    have en : n = n' := n32_inj hn hn' e6 e7 e8 e9
    have el : ts.length = us.length := by have := u8_inj (by omega) (by omega) (by omega) (by omega) e10; omega
    have key : ∀ (xs : List Tm), (∀ x ∈ xs, x ∈ ts) → ∀ ys, vdTs xs → vdTs ys → xs.length = ys.length → keyBs xs ++ r = keyBs ys ++ r' → xs = ys ∧ r = r' := by
      intro xs
      induction xs with
      | nil =>
        intro _ ys _ _ hl he
        have : ys = [] := List.eq_nil_of_length_eq_zero hl.symm
        subst this
        exact ⟨rfl, by simpa [keyBs] using he⟩
      | cons x xs ih =>
        intro hx ys h1 h2 hl he
        cases ys with
        | nil => simp at hl
        | cons y ys =>
          simp only [keyBs, List.append_assoc] at he
          obtain ⟨g1, g2⟩ := keyB_inj x y _ _ h1.1 h2.1 he
          obtain ⟨g3, g4⟩ := ih (fun z hz => hx z (List.mem_cons_of_mem _ hz)) ys h1.2 h2.2 (by simpa using hl) g2
          exact ⟨by rw [g1, g3], g4⟩
    obtain ⟨g1, g2⟩ := key ts (fun _ h => h) us hv hv' el e11
    refine ⟨?_, g2⟩
    rw [ek, en, g1, ByteArray.ext (Array.ext' e4)]
termination_by t => SizeOf.sizeOf t
decreasing_by
  have := List.sizeOf_lt_of_mem (hx x List.mem_cons_self)
  simp; omega

theorem keyF_inj {f g : Fc} (hf : isB f = true) (hg : isB g = true) (h : keyF f = keyF g) : f = g := by
  obtain ⟨t, a, b⟩ := f
  obtain ⟨t', a', b'⟩ := g
  simp only [keyF, Prod.mk.injEq] at h
  obtain ⟨h1, h2, h3⟩ := h
  obtain ⟨g1, _⟩ := keyB_inj t t' [] [] (isB_vd hf) (isB_vd hg) (by simpa using h1)
  rw [g1, h2, h3]
end Go.L1.Try
