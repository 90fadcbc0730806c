import Derived.Test.YtppolfmipkjdhaaLv
/-! L1, part w: a fast check that an open order does not matter. -/
set_option linter.all false
namespace Go.L1
open Go.RowKit
variable [Zero Prop]

def addAll (xs acc : List Nat) : List Nat := xs.foldl (fun acc x => if acc.contains x then acc else x :: acc) acc

theorem mem_addAll : ∀ (xs acc : List Nat) (i : Nat), i ∈ addAll xs acc → i ∈ xs ∨ i ∈ acc
  | [], acc, i, h => .inr h
  | x :: xs, acc, i, h => by
    simp only [addAll, List.foldl_cons] at h
    rcases mem_addAll xs _ i h with h | h
    · exact .inl (List.mem_cons_of_mem _ h)
    · split at h
      · exact .inr h
      · rcases List.mem_cons.1 h with rfl | h
        · exact .inl List.mem_cons_self
        · exact .inr h

def ancOf (A : List (List Nat)) (o : Oper) : List Nat :=
  (o.after.toList.filter fun e => Region.binds .any e).foldl (fun acc e => addAll (e.on :: (A[e.on]?).getD []) acc) []

theorem mem_ancOf (A : List (List Nat)) : ∀ (es : List Edge) (acc : List Nat) (i : Nat), i ∈ es.foldl (fun acc e => addAll (e.on :: (A[e.on]?).getD []) acc) acc → i ∈ acc ∨ ∃ e ∈ es, e.on = i ∨ i ∈ (A[e.on]?).getD []
  | [], acc, i, h => .inl h
  | e :: es, acc, i, h => by
    simp only [List.foldl_cons] at h
    rcases mem_ancOf A es _ i h with h | ⟨e', h1, h2⟩
    · rcases mem_addAll _ _ _ h with h | h
      · rcases List.mem_cons.1 h with rfl | h
        · exact .inr ⟨e, List.mem_cons_self, .inl rfl⟩
        · exact .inr ⟨e, List.mem_cons_self, .inr h⟩
      · exact .inl h
    · exact .inr ⟨e', List.mem_cons_of_mem _ h1, h2⟩

def ancs : List Oper → List (List Nat) → List (List Nat)
  | [], A => A
  | o :: rest, A => ancs rest (A ++ [ancOf A o])

theorem waits_mono {ops : Array Oper} {i : Nat} : ∀ (f j : Nat), waits ops i f j = true → ∀ f', f ≤ f' → waits ops i f' j = true
  | 0, j, h, _, _ => by simp [waits] at h
  | f + 1, j, h, f', hf => by
    obtain ⟨g, rfl⟩ : ∃ g, f' = g + 1 := ⟨f' - 1, by omega⟩
    simp only [waits] at h ⊢
    split at h
    · rename_i o ho
      rw [Array.any_eq_true'] at h ⊢
      obtain ⟨e, he, h⟩ := h
      refine ⟨e, he, ?_⟩
      simp only [Bool.and_eq_true, Bool.or_eq_true] at h ⊢
      exact ⟨h.1, h.2.imp id fun hw => waits_mono f e.on hw g (by omega)⟩
    · cases h

/-- What the lists say is so. -/
def AncOk (ops : Array Oper) (A : List (List Nat)) : Prop := ∀ j l, A[j]? = some l → ∀ i ∈ l, waits ops i (j + 1) j = true

theorem ancOf_ok {ops : Array Oper} {A : List (List Nat)} {o : Oper} (hA : AncOk ops A) (ho : ops[A.length]? = some o) : ∀ i ∈ ancOf A o, waits ops i (A.length + 1) A.length = true := by
  intro i hi
  rcases mem_ancOf A _ [] i hi with h | ⟨e, he, h⟩
  · cases h
  · simp only [waits, ho]
    rw [Array.any_eq_true']
    simp only [List.mem_filter] at he
    refine ⟨e, by simpa using he.1, ?_⟩
    simp only [he.2, Bool.true_and, Bool.or_eq_true, beq_iff_eq]
    rcases h with h | h
    · exact .inl h
    · right
      cases hl : A[e.on]? with
      | none => rw [hl] at h; cases h
      | some l =>
        rw [hl] at h
        have hlt : e.on < A.length := (List.getElem?_eq_some_iff.1 hl).1
        exact waits_mono _ _ (hA _ _ hl i h) _ (by omega)

theorem ancs_ok {ops : Array Oper} : ∀ (l : List Oper) (A : List (List Nat)), l = ops.toList.drop A.length → AncOk ops A → AncOk ops (ancs l A)
  | [], A, _, h => h
  | o :: l, A, hl, h => by
    have ho : ops[A.length]? = some o := by
      have := congrArg (fun x => x[0]?) hl
      simp only [List.getElem?_cons_zero, List.getElem?_drop, Nat.add_zero, Array.getElem?_toList] at this
      exact this.symm
    have hl2 : l = ops.toList.drop (A.length + 1) := by
      have := congrArg (List.drop 1) hl
      simpa [List.drop_drop, Nat.add_comm] using this
    refine ancs_ok l _ (by rw [List.length_append]; exact hl2) ?_
    intro j l' hj i hi
    rcases Nat.lt_or_ge j A.length with k | k
    · rw [List.getElem?_append_left k] at hj
      exact h j l' hj i hi
    · rw [List.getElem?_append_right k] at hj
      have : j = A.length := by
        have := (List.getElem?_eq_some_iff.1 hj).1
        simp at this; omega
      subst this
      simp at hj; subst hj
      exact ancOf_ok h ho i hi

def drawFast (ops : Array Oper) (tl : List Nat) : Bool :=
  let A := ancs ops.toList []
  (List.range ops.size).all fun j => match ops[j]? with
    | none => true
    | some y => (y.after.all fun e => !Region.binds .any e || e.on < j) &&
      (List.range j).all fun i => match ops[i]? with
        | none => true
        | some x => !(bound ops x y || (tl.contains i && tl.contains j && !(isRd x && isRd y))) || ((A[j]?).getD []).contains i

theorem drawOk_of_fast {ops : Array Oper} {tl : List Nat} (h : drawFast ops tl = true) : drawOk ops tl = true := by
  have hA : AncOk ops (ancs ops.toList []) := ancs_ok ops.toList [] (by simp) (fun j l hj => by simp at hj)
  unfold drawFast at h
  unfold drawOk
  simp only [List.all_eq_true, List.mem_range] at h ⊢
  intro j hj
  have h1 := h j hj
  split at h1
  · rename_i hn; rw [hn]
  · rename_i y hy
    rw [hy]
    simp only [Bool.and_eq_true, List.all_eq_true, List.mem_range] at h1 ⊢
    refine ⟨h1.1, fun i hi => ?_⟩
    have h2 := h1.2 i hi
    split at h2
    · rename_i hn; rw [hn]
    · rename_i x hx
      rw [hx]
      simp only [Bool.or_eq_true] at h2 ⊢
      refine h2.imp id fun hc => ?_
      cases hl : (ancs ops.toList [])[j]? with
      | none => rw [hl] at hc; simp at hc
      | some l =>
        rw [hl] at hc
        exact waits_mono _ _ (hA j l hl i (by simpa using hc)) _ (by omega)

/-- What lies ahead is let go. -/
theorem Weak.drop (rest : Heap) {T : Env} {G G' : Heap} {E : Env} {N : Nat} (h : G = G') (hs : Sub T rest N E) (hb : ∀ e ∈ G', e.1 < N ∧ blB N e.2.2 = true) : Weak T (rest ++ G) E G' N := by
  subst h
  exact ⟨rest, List.perm_append_comm, hs, hb⟩
theorem Weak.p0 {T : Env} {G G' : Heap} {E : Env} {N : Nat} (h : G = G') (hs : Sub T [] N E) (hb : ∀ e ∈ G', e.1 < N ∧ blB N e.2.2 = true) : Weak T G E G' N := Weak.drop [] h hs hb
theorem Weak.p1 {T : Env} {x : Nat × Nat × Blk} {G G' : Heap} {E : Env} {N : Nat} (h : G = G') (hs : Sub T [x] N E) (hb : ∀ e ∈ G', e.1 < N ∧ blB N e.2.2 = true) : Weak T (x :: G) E G' N := Weak.drop [x] h hs hb
theorem Weak.p2 {T : Env} {x y : Nat × Nat × Blk} {G G' : Heap} {E : Env} {N : Nat} (h : G = G') (hs : Sub T [x, y] N E) (hb : ∀ e ∈ G', e.1 < N ∧ blB N e.2.2 = true) : Weak T (x :: y :: G) E G' N := Weak.drop [x, y] h hs hb
theorem Weak.p3 {T : Env} {x y z : Nat × Nat × Blk} {G G' : Heap} {E : Env} {N : Nat} (h : G = G') (hs : Sub T [x, y, z] N E) (hb : ∀ e ∈ G', e.1 < N ∧ blB N e.2.2 = true) : Weak T (x :: y :: z :: G) E G' N := Weak.drop [x, y, z] h hs hb
end Go.L1
