import Derived.Test.YtppolfmipkjdhaaFb
import Derived.Shelf.Lay
import Derived.Shelf.Small.Strs
/-! Seat of almagestlaw9.FactsAdded: strings.Compare, by the shelf. -/
-- alias Try
-- tys ty3 ty4 ty5 ty9 ty24
set_option linter.all false
set_option maxRecDepth 100000
namespace Go.Proofs
open Go.Shelf
shelf_lay Lays.n106 Nm 106 at Try as Try.lays106
end Go.Proofs
namespace Go.L1
open Go.RowKit
variable [Zero Prop]
theorem CV.of_plain {P : Program} {f : Nat} {args : List V} {v : V} {vs : Array Value} {u : Value} (hent : Ent P f) (ha : ∀ c us, Rt c args us → us.toArray = vs) (hc : ∀ w, Calls P f vs w fun e w' => e = .returned u ∧ w' = w) (hv : ∀ c, R c v u) : CV P f args v := by
  intro nx
  refine ⟨hent, fun F ρ w us hs hr => ?_⟩
  rw [ha _ _ hr]
  refine (hc w).mono ?_
  rintro e w' ⟨rfl, rfl⟩
  exact ⟨u, ρ, rfl, hs, Evo.refl _ _ _ _, hv _⟩
end Go.L1
namespace Go.L1.Try
open Go.RowKit Go.Proofs
variable [Zero Prop]
def cmpS (a b : ByteArray) : Int := Lib.compareBytes a.data.toList b.data.toList

theorem cmpS_in (a b : List UInt8) : InK .i64 (Lib.compareBytes a b) := by
  induction a generalizing b with
  | nil => cases b <;> simp [Lib.compareBytes, InK]
  | cons x xs ih =>
    cases b with
    | nil => simp [Lib.compareBytes, InK]
    | cons y ys =>
      simp only [Lib.compareBytes]
      split
      · simp [InK]
      · split
        · simp [InK]
        · exact ih ys

theorem c47 (a b : ByteArray) : CV Try.prog 47 [.s a, .s b] (.i .i64 (cmpS a b)) := by
  refine CV.of_plain Try.call47 (fun c us h => ?_) (Go.Proofs.Any.strings_Compare Try.lays106 a b) fun c => ?_
  · simp only [Rt, R] at h
    obtain ⟨v, vs, rfl, ⟨rfl, _⟩, v2, vs2, rfl, ⟨rfl, _⟩, rfl⟩ := h
    rfl
  · simp only [R]
    exact ⟨rfl, cmpS_in _ _⟩
end Go.L1.Try
