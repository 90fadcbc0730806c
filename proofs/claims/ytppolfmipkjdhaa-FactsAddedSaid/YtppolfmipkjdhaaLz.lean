import Derived.Test.YtppolfmipkjdhaaLx
import Derived.ProofKit
/-! L1, part z: what came in, read: plain data stands for a value of L1. -/
set_option linter.all false
set_option maxRecDepth 100000
namespace Go.L1
open Go.RowKit Go.ChangeShapes Go.WideShapes
variable [Zero Prop]

mutual
/-- Cells of a type of plain data. -/
inductive Ty (tys : Nat → TI) (B : Nat) : Nat → List V → Prop
  | int {t : Nat} {k : IntKind} {n : Int} : (tys t).k = .int k → InK k n → Ty tys B t [.i k n]
  | bool {t : Nat} {b : Bool} : (tys t).k = .bool → Ty tys B t [.b b]
  | str {t : Nat} {s : ByteArray} : (tys t).k = .str → s.size ≤ B → Ty tys B t [.s s]
  | slice {t e : Nat} {els : List (List V)} : (tys t).k = .slice e → els.length * (tys e).bytes ≤ B → Tye tys B e els → Ty tys B t [.dsl (tys e).size els]
  | struct {t : Nat} {fs : List (Nat × Nat)} {xs : List V} : (tys t).k = .struct fs → Tys tys B (fs.map (·.1)) xs → Ty tys B t xs
/-- Part by part. -/
inductive Tys (tys : Nat → TI) (B : Nat) : List Nat → List V → Prop
  | nil : Tys tys B [] []
  | cons {t : Nat} {ts : List Nat} {x xs : List V} : Ty tys B t x → Tys tys B ts xs → Tys tys B (t :: ts) (x ++ xs)
/-- Element by element. -/
inductive Tye (tys : Nat → TI) (B : Nat) : Nat → List (List V) → Prop
  | nil {e : Nat} : Tye tys B e []
  | cons {e : Nat} {x : List V} {xs : List (List V)} : Ty tys B e x → Tye tys B e xs → Tye tys B e (x :: xs)
end

def contig (tys : Nat → TI) : Nat → List (Nat × Nat) → Nat → Bool
  | off, [], tot => decide (off = tot)
  | off, (t, o) :: fs, tot => decide (o = off) && contig tys (off + (tys t).size) fs tot

/-- Types that are plain data to the bottom. -/
def plainAt (tys : Nat → TI) (S : Nat → Bool) (t : Nat) : Bool := match (tys t).k with
  | .int _ | .bool | .str => true
  | .slice e => S e && decide (0 < (tys e).size)
  | .struct fs => fs.all (fun f => S f.1) && contig tys 0 fs (tys t).size
  | _ => false

mutual
theorem Ty.nls {tys : Nat → TI} {B : Nat} : ∀ {t : Nat} {xs : List V}, Ty tys B t xs → nls xs = true
  | _, _, .int _ _ => rfl
  | _, _, .bool _ => rfl
  | _, _, .str _ _ => rfl
  | _, _, .slice _ _ _ => rfl
  | _, _, .struct _ h => Tys.nls h
theorem Tys.nls {tys : Nat → TI} {B : Nat} : ∀ {ts : List Nat} {xs : List V}, Tys tys B ts xs → L1.nls xs = true
  | _, _, .nil => rfl
  | _, _, .cons h1 h2 => by rw [nls_append, Ty.nls h1, Tys.nls h2]; rfl
end

theorem Rs.splice {c : Ctx} {xs ys : List V} {a b : List Value} (h1 : Rs c xs a) (h2 : Rs c ys b) : Rs c (xs ++ ys) (a ++ b) := Rs.append h1 h2

section
variable {P : Program} {tys : Nat → TI} {S : Nat → Bool} {H : Type} {enc : TypeId × Value → H} {w : World} {base : Nat} {sp : Nat → Bool} {hd : Bool} {c : Ctx} {B : Nat}

theorem sig_cells (hT : Sig P tys) {t : Nat} (h : (tys t).k ≠ .other) : P.cellsOf t = (tys t).size ∧ P.bytesOf t = (tys t).bytes := by
  obtain ⟨i, h1, h2, h3⟩ := sig_info hT h
  simp [Program.cellsOf, Program.bytesOf, h1, h2, h3]

theorem addr_of {a : Addr} {v : Value} (h : w.cell? a = some v) : a = ⟨a.block, a.off, none⟩ := by
  obtain ⟨b, o, s⟩ := a
  cases s with
  | none => rfl
  | some s =>
    simp only [World.cell?] at h
    split at h <;> simp at h

theorem plain_ko {t : Nat} (h : plainAt tys S t = true) : (tys t).k ≠ .other := by
  intro hk
  simp [plainAt, hk] at h

/-- The parts of a struct. -/
theorem trod_fields (hT : Sig P tys) {n : Nat} (hS : ∀ t, S t = true → plainAt tys S t = true) (ih : ∀ t cs d ps, S t = true → DataW.trod enc P w base sp hd n t cs = some (d, ps) → (∀ x ∈ d.weights P t, x ≤ B) → ∃ xs, Ty tys B t xs ∧ Rs c xs cs) (cs : List Value) (tot : Nat) (htot : cs.length = tot) :
    ∀ (fs : List Field) (off : Nat) (ys : List (DataW H × List MemPlace)), (∀ f ∈ fs, S f.type = true) → contig tys off (fs.map fun f => (f.type, f.offset)) tot = true →
      (∀ (i : Nat) (f : Field), fs[i]? = some f → DataW.trod enc P w base sp hd n f.type ((cs.drop f.offset).take (P.cellsOf f.type)) = ys[i]?) → ys.length = fs.length →
      (∀ x ∈ DataW.weightsEach P (fs.map (·.type)) (ys.map (·.1)), x ≤ B) → ∃ xs, Tys tys B (fs.map (·.type)) xs ∧ Rs c xs (cs.drop off)
  | [], off, ys, _, hc, _, _, _ => by
    simp only [List.map_nil, contig, decide_eq_true_eq] at hc
    refine ⟨[], .nil, ?_⟩
    rw [List.drop_of_length_le (by omega)]
    simp only [Rs]
  | f :: fs, off, ys, hs, hc, hr, hl, hw => by
    simp only [List.map_cons, contig, Bool.and_eq_true, decide_eq_true_eq] at hc
    obtain ⟨ho, hc⟩ := hc
    match ys, hl with
    | y :: ys, hl =>
      have hf := hs f List.mem_cons_self
      have h0 := hr 0 f rfl
      simp only [List.getElem?_cons_zero] at h0
      simp only [List.map_cons, DataW.weightsEach] at hw
      obtain ⟨x, hx1, hx2⟩ := ih f.type _ y.1 y.2 hf h0 fun z hz => hw z (List.mem_append.2 (.inl hz))
      obtain ⟨xs, hxs1, hxs2⟩ := trod_fields hT hS ih cs tot htot fs (off + (tys f.type).size) ys (fun g hg => hs g (List.mem_cons_of_mem _ hg)) hc
        (fun i g hg => by have := hr (i + 1) g (by simpa using hg); simpa using this) (by simpa using hl) fun z hz => hw z (List.mem_append.2 (.inr hz))
      refine ⟨x ++ xs, .cons hx1 hxs1, ?_⟩
      have hsz := (sig_cells hT (plain_ko (hS _ hf))).1
      rw [ho, hsz] at hx2
      have := Rs.append hx2 hxs2
      rw [← List.drop_drop, List.take_append_drop] at this
      exact this

theorem trod_ty (hT : Sig P tys) (hS : ∀ t, S t = true → plainAt tys S t = true) (hcw : c.w = w) (hno : ∀ b, ¬ c.own b) :
    ∀ (n t : Nat) (cs : List Value) (d : DataW H) (ps : List MemPlace), S t = true → DataW.trod enc P w base sp hd n t cs = some (d, ps) → (∀ x ∈ d.weights P t, x ≤ B) → ∃ xs, Ty tys B t xs ∧ Rs c xs cs := by
  intro n
  induction n with
  | zero => intro t cs d ps _ h; simp [DataW.trod] at h
  | succ n ih =>
    intro t cs d ps hst h hwt
    have hpl := hS t hst
    have hpl0 := hpl
    unfold plainAt at hpl
    split at hpl
    · rename_i k hk
      obtain ⟨m, rfl, hd', hwf⟩ := DataW.trod_int (sig_int hT hk) h
      have hin : InK k m := by
        simp only [Lit.wf, Bool.and_eq_true, decide_eq_true_eq] at hwf
        cases k <;> simp_all [InK, IntKind.has, IntKind.bits, IntKind.signed, IntKind.min, IntKind.max] <;> omega
      refine ⟨[.i k m], .int hk hin, ?_⟩
      simp only [Rs, R]
      exact ⟨_, _, rfl, trivial, ⟨rfl, hin⟩, rfl⟩
    · rename_i hk
      obtain ⟨b, rfl, hd'⟩ := DataW.trod_bool (sig_bool hT hk) h
      refine ⟨[.b b], .bool hk, ?_⟩
      simp only [Rs, R]
      exact ⟨_, _, rfl, trivial, rfl, rfl⟩
    · rename_i hk
      obtain ⟨s, rfl, hd', hsz⟩ := DataW.trod_string (sig_str hT hk) h
      simp only [Prod.mk.injEq] at hd'
      obtain ⟨rfl, rfl⟩ := hd'
      refine ⟨[.s s], .str hk ?_, ?_⟩
      · have := hwt s.data.toList.length (by rw [DataW.weights]; exact List.mem_singleton.2 rfl)
        rw [Array.length_toList] at this
        exact this
      · simp only [Rs, R]
        exact ⟨_, _, rfl, trivial, ⟨rfl, hsz⟩, rfl⟩
    · rename_i e hk
      simp only [Bool.and_eq_true, decide_eq_true_eq] at hpl
      obtain ⟨hSe, hse⟩ := hpl
      have hke := plain_ko (hS e hSe)
      obtain ⟨hce, hbe⟩ := sig_cells hT hke
      rcases DataW.trod_slice (sig_slice hT hk) h with ⟨rfl, hd'⟩ | ⟨a, len, cap, elems, rest, m, hm, rfl, hd', hb, hlc, hcm, hel, hat, _, _⟩
      · refine ⟨[.dsl (tys e).size []], .slice hk (by simp) .nil, ?_⟩
        simp only [Rs, R]
        exact ⟨_, _, rfl, trivial, ⟨none, 0, by simp, Nat.le_refl _, by unfold maxLen; omega, .inl trivial⟩, rfl⟩
      · obtain rfl : n = m := by omega
        simp only [Prod.mk.injEq] at hd'
        obtain ⟨rfl, rfl⟩ := hd'
        simp only [DataW.weights, sig_slice hT hk, List.length_map] at hwt
        have hw1 := hwt _ List.mem_cons_self
        have hw2 : ∀ x ∈ DataW.weightsAll P e (elems.map (·.1)), x ≤ B := fun x hx => hwt x (List.mem_cons_of_mem _ (List.mem_append.2 (.inl hx)))
        rw [hbe] at hw1
        have hadr : elems ≠ [] → a = ⟨a.block, a.off, none⟩ := by
          intro hne
          have hl0 : 0 < elems.length := List.length_pos_iff.2 hne
          have h0 := hat 0 (by omega)
          rw [List.getElem?_eq_getElem hl0, Option.bind_eq_some_iff] at h0
          obtain ⟨cs', hcs, _⟩ := h0
          obtain ⟨_, hlen, hcell⟩ := World.cells?_some hcs
          have h1 := hcell 0 (by omega)
          rw [List.getElem?_eq_getElem (show 0 < cs'.length by omega)] at h1
          simp only [Nat.zero_mul, Addr.add, if_true] at h1
          exact addr_of h1
        -- element by element
        have key : a = ⟨a.block, a.off, none⟩ → ∀ (k : Nat) (ys : List (DataW H × List MemPlace)), (∀ i, i < ys.length → (w.cells? base (a.add ((k + i) * P.cellsOf e)) (P.cellsOf e)).bind (DataW.trod enc P w base sp hd n e) = ys[i]?) →
            (∀ x ∈ DataW.weightsAll P e (ys.map (·.1)), x ≤ B) → ∃ els, Tye tys B e els ∧ els.length = ys.length ∧ Els c.bare (tys e).size els a.block (a.off + k * (tys e).size) := by
          intro hadr k ys
          induction ys generalizing k with
          | nil => intro _ _; exact ⟨[], .nil, rfl, trivial⟩
          | cons y ys ihy =>
            intro hat hwt
            have h0 := hat 0 (by simp)
            simp only [List.getElem?_cons_zero, Nat.add_zero, Option.bind_eq_some_iff] at h0
            obtain ⟨cs', hcs, hty⟩ := h0
            obtain ⟨_, hlen, hcell⟩ := World.cells?_some hcs
            rw [hce] at hlen hcell
            simp only [List.map_cons, DataW.weightsAll] at hwt
            obtain ⟨x, hx1, hx2⟩ := ih e cs' y.1 y.2 hSe hty fun z hz => hwt z (List.mem_append.2 (.inl hz))
            obtain ⟨els, q1, q2, q4⟩ := ihy (k + 1) (fun i hi => by
              have := hat (i + 1) (by simpa using hi)
              rw [show k + (i + 1) = k + 1 + i by omega] at this
              simpa using this) fun z hz => hwt z (List.mem_append.2 (.inr hz))
            have hxl : x.length = (tys e).size := by rw [hx2.length, hlen]
            refine ⟨x :: els, .cons hx1 q1, by simp [q2], hxl, ?_, ?_⟩
            · -- the cells
              have cells : ∀ (xs : List V) (vs : List Value) (o : Nat), Rs c xs vs → nls xs = true → (∀ j v, vs[j]? = some v → w.cell? ⟨a.block, o + j, none⟩ = some v) → Cells c.bare xs a.block o := by
                intro xs
                induction xs with
                | nil => intro _ _ _ _ _; trivial
                | cons z zs ihz =>
                  intro vs o hr hn hc
                  simp only [Rs] at hr
                  obtain ⟨v, vs', rfl, h1, rz, rr⟩ := hr
                  simp only [nls, Bool.and_eq_true] at hn
                  refine ⟨⟨v, ?_, hno _, h1, R.nameless _ _ hn.1 rz⟩, ihz vs' (o + 1) rr hn.2 fun j u hj => ?_⟩
                  · have := hc 0 v rfl
                    simp only [Ctx.bare, hcw]
                    simpa using this
                  · have := hc (j + 1) u (by simpa using hj)
                    rwa [show o + 1 + j = o + (j + 1) by omega]
              refine cells x cs' _ hx2 (Ty.nls hx1) fun j v hj => ?_
              have hjl : j < (tys e).size := by rw [← hlen]; exact (List.getElem?_eq_some_iff.1 hj).1
              have h1 := hcell j hjl
              rw [hj, hadr, add_at, add_at] at h1
              exact h1
            · rw [show a.off + k * (tys e).size + (tys e).size = a.off + (k + 1) * (tys e).size by rw [Nat.add_mul]; omega]
              exact q4
        by_cases hne : elems = []
        · subst hne
          refine ⟨[.dsl (tys e).size []], .slice hk (by simp) .nil, ?_⟩
          simp only [Rs, R]
          simp only [List.length_nil] at hel
          subst hel
          exact ⟨_, _, rfl, trivial, ⟨some a, cap, rfl, Nat.zero_le _, hcm, .inl trivial⟩, rfl⟩
        obtain ⟨els, q1, q2, q4⟩ := key (hadr hne) 0 elems (fun i hi => by rw [Nat.zero_add]; exact hat i (by omega)) hw2
        refine ⟨[.dsl (tys e).size els], .slice hk ?_ q1, ?_⟩
        · rw [q2]
          exact Nat.le_trans (Nat.mul_le_mul_right _ (by omega)) hw1
        · simp only [Rs, R]
          exact ⟨_, _, rfl, trivial, ⟨some a, cap, by rw [q2, hel], by omega, hcm, .inr ⟨a.block, a.off, by rw [← hadr hne], by simpa using q4⟩⟩, rfl⟩
    · rename_i fs hk
      simp only [Bool.and_eq_true] at hpl
      obtain ⟨fields, hu, hfs⟩ := sig_struct hT hk
      obtain ⟨ys, m, hm, hd', hcl, hyl, hat⟩ := DataW.trod_struct hu h
      obtain rfl : n = m := by omega
      simp only [Prod.mk.injEq] at hd'
      obtain ⟨rfl, rfl⟩ := hd'
      have hko := plain_ko hpl0
      simp only [DataW.weights, hu] at hwt
      have hall : ∀ f ∈ fields.toList, S f.type = true := fun f hf => by
        have := List.all_eq_true.1 hpl.1 (f.type, f.offset) (by rw [← hfs]; exact List.mem_map.2 ⟨f, hf, rfl⟩)
        simpa using this
      obtain ⟨xs, h1, h2⟩ := trod_fields hT hS ih cs (tys t).size (by rw [hcl, (sig_cells hT hko).1]) fields.toList 0 ys hall (by rw [hfs]; exact hpl.2)
        (fun i f hf => hat i f (by simpa using hf)) (by simpa using hyl) hwt
      refine ⟨xs, .struct hk ?_, by simpa using h2⟩
      rw [← hfs, List.map_map]
      exact h1
    · cases hpl

/-! ### Turned round -/
theorem Ty.of_struct {t : Nat} {fs : List (Nat × Nat)} {xs : List V} (hk : (tys t).k = .struct fs) (h : Ty tys B t xs) : Tys tys B (fs.map (·.1)) xs := by
  cases h with
  | struct hk' h => rw [hk] at hk'; cases hk'; exact h
  | _ hk' => rw [hk] at hk'; cases hk'
theorem Ty.of_slice {t e : Nat} {xs : List V} (hk : (tys t).k = .slice e) (h : Ty tys B t xs) : ∃ els, xs = [.dsl (tys e).size els] ∧ els.length * (tys e).bytes ≤ B ∧ Tye tys B e els := by
  cases h with
  | slice hk' h1 h2 => rw [hk] at hk'; cases hk'; exact ⟨_, rfl, h1, h2⟩
  | _ hk' => rw [hk] at hk'; cases hk'
theorem Ty.of_int {t : Nat} {k : IntKind} {xs : List V} (hk : (tys t).k = .int k) (h : Ty tys B t xs) : ∃ n, xs = [.i k n] ∧ InK k n := by
  cases h with
  | int hk' h1 => rw [hk] at hk'; cases hk'; exact ⟨_, rfl, h1⟩
  | _ hk' => rw [hk] at hk'; cases hk'
theorem Ty.of_str {t : Nat} {xs : List V} (hk : (tys t).k = .str) (h : Ty tys B t xs) : ∃ s, xs = [.s s] ∧ s.size ≤ B := by
  cases h with
  | str hk' h1 => exact ⟨_, rfl, h1⟩
  | _ hk' => rw [hk] at hk'; cases hk'
theorem Ty.of_bool {t : Nat} {xs : List V} (hk : (tys t).k = .bool) (h : Ty tys B t xs) : ∃ b, xs = [.b b] := by
  cases h with
  | bool hk' => exact ⟨_, rfl⟩
  | _ hk' => rw [hk] at hk'; cases hk'
theorem Tys.of_cons {t : Nat} {ts : List Nat} {xs : List V} (h : Tys tys B (t :: ts) xs) : ∃ x ys, xs = x ++ ys ∧ Ty tys B t x ∧ Tys tys B ts ys := by
  cases h with
  | cons h1 h2 => exact ⟨_, _, rfl, h1, h2⟩
theorem Tys.of_nil {xs : List V} (h : Tys tys B [] xs) : xs = [] := by cases h; rfl
theorem Tye.all {e : Nat} : ∀ {els : List (List V)}, Tye tys B e els → ∀ el ∈ els, Ty tys B e el
  | _, .nil, el, h => by cases h
  | _, .cons h1 h2, el, h => by
    rcases List.mem_cons.1 h with rfl | h
    · exact h1
    · exact Tye.all h2 el h
theorem list_of {α : Type} {cells : α → List V} {Q : α → Prop} : ∀ {els : List (List V)}, (∀ el ∈ els, ∃ a, el = cells a ∧ Q a) → ∃ l : List α, els = l.map cells ∧ ∀ a ∈ l, Q a
  | [], _ => ⟨[], rfl, by simp⟩
  | el :: els, h => by
    obtain ⟨a, rfl, ha⟩ := h el List.mem_cons_self
    obtain ⟨l, rfl, hl⟩ := list_of fun e he => h e (List.mem_cons_of_mem _ he)
    exact ⟨a :: l, rfl, by simpa using ⟨ha, hl⟩⟩
end
end Go.L1
