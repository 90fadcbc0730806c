import Derived.Test.YtppolfmipkjdhaaLu
/-! L1, part v: a contract at more names. -/
set_option linter.all false
namespace Go.L1
open Go.RowKit
variable [Zero Prop]

mutual
theorem ren_bl {σ : Nat → Nat} {k : Nat} (hσ : ∀ i, i < k → σ i = i) : ∀ v : V, bl k v = true → ren σ v = v
  | .ptr l u j o, h => by simp only [bl, decide_eq_true_eq] at h; simp only [ren, hσ l h]
  | .sl l u j n sz, h => by simp only [bl, decide_eq_true_eq] at h; simp only [ren, hσ l h]
  | .mp l, h => by simp only [bl, decide_eq_true_eq] at h; simp only [ren, hσ l h]
  | .it l, h => by simp only [bl, decide_eq_true_eq] at h; simp only [ren, hσ l h]
  | .fn f cs, h => by simp only [bl] at h; simp only [ren, rens_bl hσ cs h]
  | .agg cs, h => by simp only [bl] at h; simp only [ren, rens_bl hσ cs h]
  | .tup cs, h => by simp only [bl] at h; simp only [ren, rens_bl hσ cs h]
  | .b _, _ => by simp only [ren]
  | .i _ _, _ => by simp only [ren]
  | .s _, _ => by simp only [ren]
  | .nilP, _ => by simp only [ren]
  | .dptr _, _ => by simp only [ren]
  | .nilS, _ => by simp only [ren]
  | .dsl _ _, _ => by simp only [ren]
  | .nilM, _ => by simp only [ren]
theorem rens_bl {σ : Nat → Nat} {k : Nat} (hσ : ∀ i, i < k → σ i = i) : ∀ vs : List V, bls k vs = true → rens σ vs = vs
  | [], _ => by simp only [rens]
  | x :: xs, h => by simp only [bls, Bool.and_eq_true] at h; simp only [rens, ren_bl hσ x h.1, rens_bl hσ xs h.2]
end

theorem renH_bl {σ : Nat → Nat} {k : Nat} (hσ : ∀ i, i < k → σ i = i) : ∀ H : Heap, (∀ e ∈ H, e.1 < k ∧ blB k e.2.2 = true) → renH σ H = H
  | [], _ => rfl
  | (l, u, b) :: H, h => by
    have h0 := h (l, u, b) List.mem_cons_self
    have ih := renH_bl hσ H fun e he => h e (List.mem_cons_of_mem _ he)
    simp only [renH, List.map_cons, List.cons.injEq] at ih ⊢
    refine ⟨?_, ih⟩
    simp only [renE, hσ l h0.1, Prod.mk.injEq, true_and]
    cases b with
    | row e els =>
      simp only [renB, Blk.row.injEq, true_and]
      have := h0.2
      simp only [blB, List.all_eq_true] at this
      conv => rhs; rw [← List.map_id els]
      apply List.map_congr_left
      intro el he
      exact rens_bl hσ el (this el he)
    | map es =>
      simp only [renB, Blk.map.injEq]
      have := h0.2
      simp only [blB, List.all_eq_true, Bool.and_eq_true] at this
      conv => rhs; rw [← List.map_id es]
      apply List.map_congr_left
      intro e he
      simp only [id]
      rw [ren_bl hσ _ (this e he).1, ren_bl hσ _ (this e he).2]

theorem C.lift {P : Program} {f k : Nat} {args : List V} {H : Heap} {v : V} {H' : Heap} (h : C P f k args H v H' k) (ha : bls k args = true) (hv : bl k v = true)
    (hH : ∀ e ∈ H, e.1 < k ∧ blB k e.2.2 = true) (hH' : ∀ e ∈ H', e.1 < k ∧ blB k e.2.2 = true) {nx : Nat} (hle : k ≤ nx) : C P f nx args H v H' nx := by
  have hσ : ∀ i, i < k → (fun i => if i < k then i else i - k + nx) i = i := fun i hi => by simp [hi]
  have := C.use h (fun i => if i < k then i else i - k + nx) nx nx (Nat.le_refl _) (fun e he => (hH e he).1)
    (by intro i j hi hj; simp [hi, hj]) (by intro i hi; simp [hi]; omega) (by intro i hi; simp [Nat.not_lt.2 hi]) (by intro i hi h2; omega) (Nat.le_refl _)
  rwa [rens_bl hσ _ ha, ren_bl hσ _ hv, renH_bl hσ _ hH, renH_bl hσ _ hH'] at this

/-- The contract of a function that keeps the names below k. -/
def CH (P : Program) (f k : Nat) (args : List V) (H : Heap) (v : V) (H' : Heap) : Prop := ∀ nx, k ≤ nx → C P f nx args H v H' nx

theorem CH.of {P : Program} {f k : Nat} {args : List V} {H : Heap} {v : V} {H' : Heap} (h : C P f k args H v H' k) (ha : bls k args = true) (hv : bl k v = true)
    (hH : ∀ e ∈ H, e.1 < k ∧ blB k e.2.2 = true) (hH' : ∀ e ∈ H', e.1 < k ∧ blB k e.2.2 = true) : CH P f k args H v H' := fun nx hle => h.lift ha hv hH hH' hle

theorem Fin.keep {v v' : V} {H H' rest : Heap} {nx' : Nat} (hp : H.Perm (H' ++ rest)) (h : v = v') (hn : L1.nl v = true) (hH' : ∀ e ∈ H', e.1 < nx' ∧ blB nx' e.2.2 = true) : Fin v H v' H' nx' := by
  subst h; exact ⟨rest, hp, (bl_of_nl 0 v).2 hn rest, (bl_of_nl nx' v).1 hn, hH'⟩
end Go.L1
