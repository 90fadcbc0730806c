import Derived.Test.YtppolfmipkjdhaaFr
import Derived.Test.YtppolfmipkjdhaaLz
/-! almagestlaw9.FactsAdded: what comes in, told. -/
-- alias Try
set_option linter.all false
set_option maxRecDepth 100000
namespace Go.L1.Try
open Go.RowKit Go.Proofs

def plainS (t : Nat) : Bool := [3, 9, 22, 23, 24, 26, 31, 33, 35, 37, 50].contains t
theorem plainS_ok : ∀ t, plainS t = true → plainAt tys plainS t = true := by
  intro t h
  simp only [plainS, List.contains_eq_mem, List.mem_cons, List.not_mem_nil, or_false, decide_eq_true_eq] at h
  rcases h with rfl | rfl | rfl | rfl | rfl | rfl | rfl | rfl | rfl | rfl | rfl <;> decide

theorem szTs_of : ∀ {ts : List Tm}, (∀ t ∈ ts, szT t) → szTs ts
  | [], _ => trivial
  | t :: ts, h => ⟨h t List.mem_cons_self, szTs_of fun x hx => h x (List.mem_cons_of_mem _ hx)⟩

section
variable {B : Nat} (hB : B ≤ 140737488355328)
include hB

theorem ty_tm' : ∀ (m : Nat) (xs : List V), SizeOf.sizeOf xs < m → Ty tys B 33 xs → ∃ t : Tm, xs = t.cells ∧ szT t := by
  intro m
  induction m with
  | zero => intro xs h; omega
  | succ m ih =>
    intro xs hm h
    have h := Ty.of_struct (t := 33) rfl h
    obtain ⟨x1, y1, rfl, h1, h⟩ := Tys.of_cons h
    obtain ⟨x2, y2, rfl, h2, h⟩ := Tys.of_cons h
    obtain ⟨x3, y3, rfl, h3, h⟩ := Tys.of_cons h
    obtain ⟨x4, y4, rfl, h4, h⟩ := Tys.of_cons h
    obtain rfl := Tys.of_nil h
    obtain ⟨k, rfl, _⟩ := Ty.of_int (t := 3) rfl h1
    obtain ⟨s, rfl, hs⟩ := Ty.of_str (t := 9) rfl h2
    obtain ⟨n, rfl, _⟩ := Ty.of_int (t := 3) rfl h3
    obtain ⟨els, rfl, _, he⟩ := Ty.of_slice (t := 31) rfl h4
    have hall := Tye.all he
    obtain ⟨l, hl, hq⟩ := list_of (cells := Tm.cells) (Q := szT) fun el hel => ih el (by
      have := List.sizeOf_lt_of_mem hel
      simp at hm; omega) (hall el hel)
    exact ⟨.mk k s n l, by rw [Tm.cells, cellss_map, hl]; rfl, by omega, szTs_of hq⟩
theorem ty_tm (xs : List V) (h : Ty tys B 33 xs) : ∃ t : Tm, xs = t.cells ∧ szT t := ty_tm' hB _ xs (Nat.lt_succ_self _) h

theorem ty_fc (xs : List V) (h : Ty tys B 37 xs) : ∃ f : Fc, xs = f.cells ∧ szT f.t := by
  have h := Ty.of_struct (t := 37) rfl h
  obtain ⟨x1, y1, rfl, h1, h⟩ := Tys.of_cons h
  obtain ⟨x2, y2, rfl, h2, h⟩ := Tys.of_cons h
  obtain rfl := Tys.of_nil h
  obtain ⟨t, rfl, ht⟩ := ty_tm hB x1 h1
  have h2 := Ty.of_struct (t := 35) rfl h2
  obtain ⟨x3, y3, rfl, h3, h2⟩ := Tys.of_cons h2
  obtain ⟨x4, y4, rfl, h4, h2⟩ := Tys.of_cons h2
  obtain rfl := Tys.of_nil h2
  obtain ⟨a, rfl, _⟩ := Ty.of_int (t := 3) rfl h3
  obtain ⟨b, rfl, _⟩ := Ty.of_int (t := 3) rfl h4
  exact ⟨⟨t, a, b⟩, rfl, ht⟩

theorem ty_kp (xs : List V) (h : Ty tys B 50 xs) : ∃ k : Kp, xs = k.cells ∧ szT k.f.t := by
  have h := Ty.of_struct (t := 50) rfl h
  obtain ⟨x1, y1, rfl, h1, h⟩ := Tys.of_cons h
  obtain ⟨x2, y2, rfl, h2, h⟩ := Tys.of_cons h
  obtain rfl := Tys.of_nil h
  obtain ⟨f, rfl, hf⟩ := ty_fc hB x2 h2
  obtain ⟨n, rfl, _⟩ := Ty.of_int (t := 3) rfl h1
  exact ⟨⟨n, f⟩, by rw [List.append_nil]; rfl, hf⟩

theorem ty_ak (xs : List V) (h : Ty tys B 26 xs) : ∃ p : Ak, xs = p.cells ∧ p.sz := by
  have h := Ty.of_struct (t := 26) rfl h
  obtain ⟨x1, y1, rfl, h1, h⟩ := Tys.of_cons h
  obtain ⟨x2, y2, rfl, h2, h⟩ := Tys.of_cons h
  obtain ⟨x3, y3, rfl, h3, h⟩ := Tys.of_cons h
  obtain rfl := Tys.of_nil h
  obtain ⟨e1, rfl, b1, g1⟩ := Ty.of_slice (t := 22) rfl h1
  obtain ⟨e2, rfl, b2, g2⟩ := Ty.of_slice (t := 23) rfl h2
  obtain ⟨e3, rfl, b3, g3⟩ := Ty.of_slice (t := 24) rfl h3
  obtain ⟨L, rfl, hL⟩ := list_of fun el hel => ty_kp hB el (Tye.all g1 el hel)
  obtain ⟨F, rfl, hF⟩ := list_of fun el hel => ty_fc hB el (Tye.all g2 el hel)
  obtain ⟨N, rfl, _⟩ := list_of (cells := fun n => [V.i .i64 n]) (Q := fun _ => True) fun el hel => by
    obtain ⟨n, rfl, _⟩ := Ty.of_int (t := 3) rfl (Tye.all g3 el hel)
    exact ⟨n, rfl, trivial⟩
  simp only [List.length_map, ty50, ty37, ty3] at b1 b2 b3
  exact ⟨⟨L, F, N⟩, rfl, hL, hF, by simp only; omega, by simp only; omega, by simp only; omega⟩
end
end Go.L1.Try
