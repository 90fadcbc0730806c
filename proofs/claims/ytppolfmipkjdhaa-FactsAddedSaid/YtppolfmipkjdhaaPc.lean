import Derived.Test.YtppolfmipkjdhaaPb
/-! Plain laws: what is added is found; what is kept, sorted, rises. -/
-- alias Try
set_option linter.all false
namespace Go.L1.Try
open Go.RowKit Go.Proofs Go.Sort

structure Inv (l : List Kp) (n : Int) : Prop where
  lst : listB l = true
  own : ∀ k ∈ l, ownF k.f = k.f
  cnt : ∀ k ∈ l, k.seq < n

theorem hasK_no {ids : List (List UInt8 × Int × Int)} {i : List UInt8 × Int × Int} : hasK ids i = false ↔ i ∉ ids := by
  unfold hasK
  rw [List.any_eq_false]
  constructor
  · intro h hm; simpa using h i hm
  · intro h x hx he
    simp only [decide_eq_true_eq] at he
    exact h (he ▸ hx)

theorem listGo_snoc (k : Kp) (hk : isB k.f = true) (h0 : ¬ k.seq < 0) : ∀ (l : List Kp) (p : Option Int) (ids : List (List UInt8 × Int × Int)), listGo l p ids = true → (∀ x ∈ l, x.seq < k.seq) → behind p k.seq = false →
    keyF k.f ∉ ids → (∀ x ∈ l, keyF x.f ≠ keyF k.f) → listGo (l ++ [k]) p ids = true
  | [], p, ids, _, _, hp, hi, _ => by
    simp only [List.nil_append, listGo, hk, hp, hasK_no.2 hi]
    simp [h0]
  | x :: l, p, ids, h, hs, hp, hi, hd => by
    simp only [listGo, Bool.and_eq_true] at h
    simp only [List.cons_append, listGo, Bool.and_eq_true]
    refine ⟨h.1, listGo_snoc k hk h0 l _ _ h.2 (fun y hy => hs y (List.mem_cons_of_mem _ hy)) ?_ ?_ fun y hy => hd y (List.mem_cons_of_mem _ hy)⟩
    · have := hs x List.mem_cons_self
      simp only [behind, decide_eq_false_iff_not]; omega
    · intro hm
      rcases List.mem_append.1 hm with hm | hm
      · exact hi hm
      · exact hd x List.mem_cons_self (by simp only [List.mem_singleton] at hm; exact hm.symm)

theorem listGo_keys : ∀ (l : List Kp) (p : Option Int) (ids : List (List UInt8 × Int × Int)), listGo l p ids = true → (l.map fun k => keyF k.f).Nodup ∧ ∀ x ∈ l, keyF x.f ∉ ids
  | [], _, _, _ => by simp
  | x :: l, p, ids, h => by
    simp only [listGo, Bool.and_eq_true, Bool.not_eq_true', hasK_no] at h
    obtain ⟨h1, h2⟩ := listGo_keys l _ _ h.2
    refine ⟨?_, fun y hy => ?_⟩
    · rw [List.map_cons, List.nodup_cons]
      refine ⟨fun hm => ?_, h1⟩
      obtain ⟨y, hy, he⟩ := List.mem_map.1 hm
      exact h2 y hy (by rw [he]; simp)
    · rcases List.mem_cons.1 hy with rfl | hy
      · exact h.1.2
      · exact fun hm => h2 y hy (List.mem_append.2 (.inl hm))

theorem atI_no : ∀ (l : List Kp) (f : Fc) (i : Nat), atI l f i < 0 → ∀ k ∈ l, cmpF k.f f ≠ 0
  | [], _, _, _ => by simp
  | k :: l, f, i, h => by
    rw [atI] at h
    split at h
    · omega
    · rename_i hk
      intro x hx
      rcases List.mem_cons.1 hx with rfl | hx
      · exact hk
      · exact atI_no l f (i + 1) h x hx
theorem atI_snoc (k : Kp) (f : Fc) (hk : cmpF k.f f = 0) : ∀ (l : List Kp) (i : Nat), (∀ x ∈ l, cmpF x.f f ≠ 0) → atI (l ++ [k]) f i = (i + l.length : Nat)
  | [], i, _ => by simp [atI, hk]
  | x :: l, i, h => by
    rw [List.cons_append, atI, if_neg (h x List.mem_cons_self), atI_snoc k f hk l (i + 1) fun y hy => h y (List.mem_cons_of_mem _ hy)]
    simp only [List.length_cons]; omega

theorem map_own {l : List Kp} (h : ∀ k ∈ l, ownF k.f = k.f) : l.map ownK = l := by
  conv => rhs; rw [← List.map_id l]
  apply List.map_congr_left
  intro k hk
  simp only [ownK, h k hk, id]

theorem add_find {l : List Kp} {n : Int} {f : Fc} {x : List Kp} (h : Inv l n) (hn : 0 ≤ n) (ha : addV l n f = (x, 0)) : findV' x f = (n, 0) ∧ x.length = l.length + 1 ∧ Inv x (n + 3) := by
  unfold addV at ha
  split at ha
  · rename_i hok
    split at ha
    · simp at ha
    · rename_i hat
      split at ha
      · simp at ha
      · rename_i hlen
        simp only [Prod.mk.injEq, and_true] at ha
        simp only [addOk, Bool.and_eq_true, decide_eq_true_eq] at hok
        obtain ⟨⟨⟨⟨hl, hf⟩, hn1⟩, hn2⟩, hlast⟩ := hok
        have hof := isB_own hf
        rw [map_own h.own, hof] at ha
        subst ha
        have hno := atI_no l f 0 (by omega)
        obtain ⟨_, his⟩ := listB_is hl
        have hlB : listB (l ++ [⟨n, f⟩]) = true := by
          have hl2 := hl
          simp only [listB, Bool.and_eq_true, decide_eq_true_eq] at hl2
          simp only [listB, Bool.and_eq_true, decide_eq_true_eq]
          refine ⟨by simp; omega, listGo_snoc ⟨n, f⟩ hf (by simp only; omega) l none [] hl2.2 h.cnt rfl (by simp) fun y hy he => ?_⟩
          have := keyF_inj (his y hy) hf he
          exact hno y hy (by rw [this]; exact lin_cmpF.self f)
        refine ⟨?_, by simp, hlB, ?_, ?_⟩
        · have ha2 := atI_snoc ⟨n, f⟩ f (lin_cmpF.self f) l 0 hno
          simp only [findV', hlB, hf, and_self, if_true, ha2]
          rw [if_neg (by omega)]
          simp
        · intro k hk
          rcases List.mem_append.1 hk with hk | hk
          · exact h.own k hk
          · simp only [List.mem_singleton] at hk; subst hk; exact hof
        · intro k hk
          rcases List.mem_append.1 hk with hk | hk
          · have := h.cnt k hk; omega
          · simp only [List.mem_singleton] at hk; subst hk; simp only; omega
  · simp at ha

theorem nodup_of_map {α β : Type} (g : α → β) : ∀ {l : List α}, (l.map g).Nodup → l.Nodup
  | [], _ => List.nodup_nil
  | x :: l, h => by
    rw [List.map_cons, List.nodup_cons] at h
    exact List.nodup_cons.2 ⟨fun hm => h.1 (List.mem_map.2 ⟨x, hm, rfl⟩), nodup_of_map g h.2⟩

theorem sorted_ok {l : List Kp} {n : Int} (h : Inv l n) : (sortedV l).2 = 0 ∧ (sortedV l).1.length = l.length ∧ ∀ i a b, (sortedV l).1[i]? = some a → (sortedV l).1[i + 1]? = some b → (orderV a b).2 = 0 ∧ (orderV a b).1 < 0 := by
  have hm : (l.map fun k => ownF k.f) = l.map (·.f) := List.map_congr_left fun k hk => h.own k hk
  have hl := h.lst
  obtain ⟨_, his⟩ := listB_is hl
  have hsv : sortedV l = (sortFs (l.map (·.f)), 0) := by rw [sortedV, if_pos hl, hm]
  rw [hsv]
  have hp : (sortFs (l.map (·.f))).Perm (l.map (·.f)) := sortL_perm _ _
  refine ⟨rfl, by rw [hp.length_eq, List.length_map], fun i a b ha hb => ?_⟩
  have hl2 := hl
  simp only [listB, Bool.and_eq_true] at hl2
  have hnd : (l.map (·.f)).Nodup := by
    have := (listGo_keys l none [] hl2.2).1
    rw [show (l.map fun k => keyF k.f) = (l.map (·.f)).map keyF by rw [List.map_map]; rfl] at this
    exact nodup_of_map _ this
  have hnd2 : (sortFs (l.map (·.f))).Nodup := hp.nodup_iff.2 hnd
  have hs := sortL_sorted lin_cmpF.swo (l.map (·.f))
  have hmem : ∀ c ∈ sortFs (l.map (·.f)), isB c = true := fun c hc => by
    obtain ⟨k, hk, rfl⟩ := List.mem_map.1 (hp.mem_iff.1 hc)
    exact his k hk
  obtain ⟨hi, hia⟩ := List.getElem?_eq_some_iff.1 ha
  obtain ⟨hj, hjb⟩ := List.getElem?_eq_some_iff.1 hb
  have h1 := List.pairwise_iff_getElem.1 hs i (i + 1) hi hj (by omega)
  have h2 := List.pairwise_iff_getElem.1 hnd2 i (i + 1) hi hj (by omega)
  have g1 : (sortL cmpF (l.map (·.f)))[i] = a := hia
  have g2 : (sortL cmpF (l.map (·.f)))[i + 1] = b := hjb
  have h1' : ltOf cmpF b a = false := by rw [← g1, ← g2]; exact h1
  have hia2 : isB a = true := hmem a (hia ▸ List.getElem_mem hi)
  have hjb2 : isB b = true := hmem b (hjb ▸ List.getElem_mem hj)
  have hne : a ≠ b := fun e => h2 (hia.trans (e.trans hjb.symm))
  simp only [orderV, hia2, hjb2, and_self, if_true, true_and]
  simp only [ltOf, decide_eq_false_iff_not] at h1'
  have e1 := lin_cmpF.anti a b
  have e2 : cmpF a b ≠ 0 := fun e => hne (lin_cmpF.eq _ _ e)
  omega
end Go.L1.Try
