import Derived.Test.YtppolfmipkjdhaaLw
/-! L1, part x: what a function hands back, let go or at other names. -/
set_option linter.all false
namespace Go.L1
open Go.RowKit
variable [Zero Prop]

section
variable {P : Program}

/-- Less is told of what is handed back. -/
theorem C.weak {f nx as H v H' nx' v2 H2 nx2} (h : C P f nx as H v H' nx') (hf : Fin v H' v2 H2 nx2) (hle : nx ≤ nx2) : C P f nx as H v2 H2 nx2 := by
  obtain ⟨rest, hp, h1, h2, h3⟩ := hf
  refine ⟨h.1, fun F ρ w vs hs hr => (h.2 F ρ w vs hs hr).mono ?_⟩
  rintro e w' ⟨u, ρ', rfl, g1, g2, g3⟩
  obtain ⟨ρ2, k1, k2, k3⟩ := g1.weak hp h3 hs.fresh g2 hle
  refine ⟨u, ρ2, rfl, k1, k2, ?_⟩
  subst h1
  exact k3 v u h2 g3

/-- A row that is made and handed back: at any names. -/
theorem C.new {f as u n sz e els} (h : C P f 0 as [] (.sl 0 u 0 n sz) [(0, u, .row e els)] 1) (ha : nls as = true) (hel : els.all nls = true) (nx : Nat) :
    C P f nx as [] (.sl nx u 0 n sz) [(nx, u, .row e els)] (nx + 1) := by
  have := C.use h (fun i => i + nx) nx (nx + 1) (Nat.zero_le _) (by simp) (by intro i j _ _ hi; omega) (by intro i hi; omega) (by intro i _; omega) (by intro i _ hi; omega) (by omega)
  rw [rens_nl _ _ ha] at this
  have e1 : els.map (rens fun i => i + nx) = els := by
    conv => rhs; rw [← List.map_id els]
    apply List.map_congr_left
    intro el he
    rw [List.all_eq_true] at hel
    exact rens_nl _ _ (hel el he)
  simpa [ren, renH, renE, renB, e1] using this

/-- A function that makes a row of nameless elements and hands it back. -/
def CN (P : Program) (f : Nat) (as : List V) (u n sz e : Nat) (els : List (List V)) : Prop := ∀ nx, C P f nx as [] (.sl nx u 0 n sz) [(nx, u, .row e els)] (nx + 1)

theorem CN.of {f as u n sz e els} (h : C P f 0 as [] (.sl 0 u 0 n sz) [(0, u, .row e els)] 1) (ha : nls as = true) (hel : els.all nls = true) : CN P f as u n sz e els := C.new h ha hel

theorem CN.froz {f as u n sz e els} (h : CN P f as u n sz e els) (hel : els.all nls = true) (hn : els.length = n) : CV P f as (.dsl sz els) := fun nx =>
  (h nx).weak (fin_drop _ _ _ _ (by simp [frV, hget, hel, hn]; rw [List.take_of_length_le (by omega)]) (by simp [bl])) (Nat.le_refl _)

theorem CallK.new {fid : Nat} {as as' : List V} {u n sz e : Nat} {els : List (List V)} {H : Heap} {nx : Nat} {wf : Bool} {K : V → Heap → Nat → Bool → Prop} (h : CN P fid as' u n sz e els) (hw : Wkt as as')
    (hk : K (.sl nx u 0 n sz) ((nx, u, .row e els) :: H) (nx + 1) true) : CallK P fid as H nx wf K :=
  CallK.own (H1 := []) (H2 := H) (by simp) (h nx) hw fun _ => hk
end
end Go.L1
