import Derived.Test.YtppolfmipkjdhaaLh
import Derived.Laws.StructEq
/-! L1, part i: '==' on numbers, texts, bools and structs of these; a map's keys. -/
set_option linter.all false
namespace Go.L1
open Go.RowKit
variable [Zero Prop]

theorem fitKs_length : ∀ {ks : List TK} {xs : List V}, fitKs ks xs = true → xs.length = ks.length
  | [], [], _ => rfl
  | k :: ks, x :: xs, h => by simp only [fitKs, Bool.and_eq_true] at h; simp [fitKs_length h.2]
  | [], _ :: _, h => by simp [fitKs] at h
  | _ :: _, [], h => by simp [fitKs] at h

theorem fitKs_append : ∀ {ks ks' : List TK} {xs : List V}, fitKs (ks ++ ks') xs = true → fitKs ks (xs.take ks.length) = true ∧ fitKs ks' (xs.drop ks.length) = true
  | [], _, _, h => by simpa [fitKs] using h
  | k :: ks, ks', [], h => by simp [fitKs] at h
  | k :: ks, ks', x :: xs, h => by
    simp only [List.cons_append, fitKs, Bool.and_eq_true] at h
    have := fitKs_append h.2
    simp [fitKs, h.1, this.1, this.2]

theorem cellsEq_append : ∀ {xs xs' ys ys' : List V}, xs.length = ys.length → cellsEq (xs ++ xs') (ys ++ ys') = (cellsEq xs ys && cellsEq xs' ys')
  | [], _, [], _, _ => by simp [cellsEq]
  | x :: xs, _, y :: ys, _, h => by
    simp only [List.length_cons, Nat.add_right_cancel_iff] at h
    simp only [List.cons_append, cellsEq, cellsEq_append h, Bool.and_assoc]
  | [], _, _ :: _, _, h => by simp at h
  | _ :: _, _, [], _, h => by simp at h

section
variable {P : Program} {tys : Nat → TI}

theorem fits_one {c : Ctx} {k : TK} {x : V} {v : Value} (h : fitK k x = true) (hr : R c x v) :
    (∃ ik n, k = .int ik ∧ x = .i ik n ∧ v = .int ik n) ∨ (∃ s, k = .str ∧ x = .s s ∧ v = .string s) ∨ (∃ b, k = .bool ∧ x = .b b ∧ v = .bool b) := by
  cases k <;> cases x <;> simp [fitK] at h
  · subst h; simp only [R] at hr; exact .inl ⟨_, _, rfl, rfl, hr.1⟩
  · simp only [R] at hr; exact .inr (.inr ⟨_, rfl, rfl, hr⟩)
  · simp only [R] at hr; exact .inr (.inl ⟨_, rfl, rfl, hr.1⟩)

theorem part_run (hT : Sig P tys) {c : Ctx} {t off : Nat} {cs : List V} {vs : Array Value} (hk : (tys t).k ≠ .other) (hr : Rs c cs vs.toList) (hl : off + (tys t).size ≤ cs.length) (h0 : 0 < (tys t).size) (w : World) :
    ∃ u, (part t vs off).run P w = .ok u w ∧ ((isAggK (tys t).k = true ∧ R c (.agg ((cs.drop off).take (tys t).size)) u) ∨ (isAggK (tys t).k = false ∧ ∃ x, cs[off]? = some x ∧ R c x u)) := by
  by_cases ha : isAggK (tys t).k = true
  · refine ⟨.agg (vs.extract off (off + (tys t).size)), ?_, .inl ⟨ha, ?_⟩⟩
    · simp [part, sig_isAgg hT hk, ha, sig_size hT hk]
    · simp only [R]
      refine ⟨_, rfl, ?_⟩
      have := (hr.drop off).take (tys t).size
      simpa [Array.toList_extract, List.extract_eq_take_drop] using this
  · have ha : isAggK (tys t).k = false := by simpa using ha
    have hx : cs[off]? = some (cs[off]'(by omega)) := List.getElem?_eq_getElem _
    obtain ⟨u, hu, _, hR⟩ := hr.get hx
    have hu2 : vs[off]? = some u := by simpa using hu
    exact ⟨u, by simp [part, sig_isAgg hT hk, ha, hu2], .inr ⟨ha, _, hx, hR⟩⟩

/-- '==' between values of such a type. -/
theorem equal_run (hT : Sig P tys) (c : Ctx) : ∀ (n t : Nat) (ks : List TK), kindsOf tys n t = some ks → ∀ (x y : V) (u v : Value) (d : Nat) (w : World), R c x u → R c y v → n ≤ d →
    ((isAggK (tys t).k = true ∧ ∃ xs ys, x = .agg xs ∧ y = .agg ys ∧ fitKs ks xs = true ∧ fitKs ks ys = true) ∨ (isAggK (tys t).k = false ∧ ∃ k, ks = [k] ∧ fitK k x = true ∧ fitK k y = true)) →
    (Op.equalIn (d + 1) t u v).run P w = .ok (keyEq x y) w
  | 0, _, _, h => by simp [kindsOf] at h
  | n + 1, t, ks, h => by
    intro x y u v d w hx hy hd hf
    simp only [kindsOf] at h
    rcases hf with ⟨ha, xs, ys, rfl, rfl, hfx, hfy⟩ | ⟨ha, k, rfl, hfx, hfy⟩
    · cases hk : (tys t).k <;> rw [hk] at h ha <;> simp [isAggK] at ha
      rename_i fs
      simp only at h
      split at h
      · rename_i ks0 hks0
        split at h
        · rename_i hlen
          simp only [Option.some.injEq] at h
          subst h
          simp only [R] at hx hy
          obtain ⟨us, rfl, hx⟩ := hx
          obtain ⟨vs, rfl, hy⟩ := hy
          obtain ⟨fields, hu, hfs⟩ := sig_struct hT hk
          obtain ⟨hnames, hstood, _⟩ := (hT t (by rw [hk]; simp)).names fields hu
          have hfo : P.fieldsOf t = fields := by simp [Program.fieldsOf, hu]
          rw [run_equalIn_struct w d t us vs (by rw [hfo]; exact hu) hstood, hfo]
          -- field by field
          have key : ∀ (fl : List Field) (off : Nat) (kk : List TK), (∀ f ∈ fl, f.name ≠ "_") → kindsFs (kindsOf tys n) off (fl.map fun f => (f.type, f.offset)) = some kk →
              off + kk.length ≤ xs.length → off + kk.length ≤ ys.length → fitKs kk ((xs.drop off).take kk.length) = true → fitKs kk ((ys.drop off).take kk.length) = true →
              (Op.eqFields d us vs fl).run P w = .ok (cellsEq ((xs.drop off).take kk.length) ((ys.drop off).take kk.length)) w := by
            intro fl
            induction fl with
            | nil =>
              intro off kk _ hkk _ _ _ _
              simp only [List.map_nil, kindsFs, Option.some.injEq] at hkk
              subst hkk
              simp [Op.eqFields, cellsEq]
            | cons f fl ih =>
              intro off kk hnm hkk hlx hly hfx hfy
              simp only [List.map_cons, kindsFs] at hkk
              split at hkk
              · rename_i hoff
                split at hkk
                · rename_i k1 hk1
                  split at hkk
                  · rename_i k2 hk2
                    simp only [Option.some.injEq] at hkk
                    subst hkk
                    simp only [List.length_append] at hlx hly
                    have e1 : (xs.drop off).take (k1 ++ k2).length = (xs.drop off).take k1.length ++ (xs.drop (off + k1.length)).take k2.length := by
                      rw [List.length_append, List.take_add, List.drop_drop]
                    have e2 : (ys.drop off).take (k1 ++ k2).length = (ys.drop off).take k1.length ++ (ys.drop (off + k1.length)).take k2.length := by
                      rw [List.length_append, List.take_add, List.drop_drop]
                    have l1 : ((xs.drop off).take k1.length).length = k1.length := by simp; omega
                    have l2 : ((ys.drop off).take k1.length).length = k1.length := by simp; omega
                    rw [e1] at hfx
                    rw [e2] at hfy
                    have fx := fitKs_append hfx
                    have fy := fitKs_append hfy
                    rw [List.take_left' l1, List.drop_left' l1] at fx
                    rw [List.take_left' l2, List.drop_left' l2] at fy
                    have hko : (tys f.type).k ≠ .other := by
                      intro hh
                      cases n <;> simp [kindsOf, hh] at hk1
                    -- the field's own size
                    have hsz : (tys f.type).size = k1.length ∨ (isAggK (tys f.type).k = false ∧ ∃ k, k1 = [k]) := by
                      cases n with
                      | zero => simp [kindsOf] at hk1
                      | succ n =>
                        simp only [kindsOf] at hk1
                        cases hkf : (tys f.type).k <;> rw [hkf] at hk1 <;> simp at hk1
                        · subst hk1; exact .inr ⟨rfl, _, rfl⟩
                        · subst hk1; exact .inr ⟨rfl, _, rfl⟩
                        · subst hk1; exact .inr ⟨rfl, _, rfl⟩
                        · split at hk1
                          · split at hk1
                            · rename_i hl; simp only [Option.some.injEq] at hk1; subst hk1; exact .inl hl.symm
                            · cases hk1
                          · cases hk1
                    have hih := ih (off + k1.length) k2 (fun g hg => hnm g (List.mem_cons_of_mem _ hg)) hk2 (by omega) (by omega) fx.2 fy.2
                    simp only [Op.eqFields, if_pos (hnm f List.mem_cons_self), Sem.run_bind]
                    rw [e1, e2, cellsEq_append (by rw [l1, l2])]
                    have hpart : ∃ a b, (part f.type us f.offset).run P w = .ok a w ∧ (part f.type vs f.offset).run P w = .ok b w ∧
                        ∀ w', (Op.equalIn d f.type a b).run P w' = .ok (cellsEq ((xs.drop off).take k1.length) ((ys.drop off).take k1.length)) w' := by
                      obtain ⟨d', rfl⟩ : ∃ d', d = d' + 1 := ⟨d - 1, by omega⟩
                      by_cases hag : isAggK (tys f.type).k = true
                      · have hs : (tys f.type).size = k1.length := by
                          rcases hsz with h | ⟨h, _⟩
                          · exact h
                          · rw [hag] at h; cases h
                        refine ⟨.agg (us.extract off (off + k1.length)), .agg (vs.extract off (off + k1.length)), ?_, ?_, fun w' => ?_⟩
                        · simp [part, sig_isAgg hT hko, hag, sig_size hT hko, hs, hoff]
                        · simp [part, sig_isAgg hT hko, hag, sig_size hT hko, hs, hoff]
                        · have := equal_run hT c n f.type k1 hk1 (.agg ((xs.drop off).take k1.length)) (.agg ((ys.drop off).take k1.length)) (.agg (us.extract off (off + k1.length))) (.agg (vs.extract off (off + k1.length))) d' w'
                            (by simp only [R]; refine ⟨_, rfl, ?_⟩; have := (hx.drop off).take k1.length; simpa [Array.toList_extract, List.extract_eq_take_drop] using this)
                            (by simp only [R]; refine ⟨_, rfl, ?_⟩; have := (hy.drop off).take k1.length; simpa [Array.toList_extract, List.extract_eq_take_drop] using this)
                            (by omega) (.inl ⟨hag, _, _, rfl, rfl, fx.1, fy.1⟩)
                          simpa only [keyEq] using this
                      · have hag : isAggK (tys f.type).k = false := by simpa using hag
                        have hk1' : ∃ k, k1 = [k] := by
                          cases n with
                          | zero => simp [kindsOf] at hk1
                          | succ n =>
                            simp only [kindsOf] at hk1
                            cases hkf : (tys f.type).k <;> rw [hkf] at hk1 hag <;> simp [isAggK] at hk1 hag
                            all_goals (subst hk1; exact ⟨_, rfl⟩)
                        obtain ⟨k, rfl⟩ := hk1'
                        have hxo : xs[off]? = some (xs[off]'(by simp at hlx; omega)) := List.getElem?_eq_getElem _
                        have hyo : ys[off]? = some (ys[off]'(by simp at hly; omega)) := List.getElem?_eq_getElem _
                        obtain ⟨a, ha1, _, ha2⟩ := hx.get hxo
                        obtain ⟨b, hb1, _, hb2⟩ := hy.get hyo
                        have t1 : (xs.drop off).take 1 = [xs[off]'(by simp at hlx; omega)] := by
                          rw [List.drop_eq_getElem_cons (by simp at hlx; omega)]; rfl
                        have t2 : (ys.drop off).take 1 = [ys[off]'(by simp at hly; omega)] := by
                          rw [List.drop_eq_getElem_cons (by simp at hly; omega)]; rfl
                        simp only [List.length_cons, List.length_nil, Nat.zero_add, t1, t2] at fx fy ⊢
                        simp only [fitKs, Bool.and_true] at fx fy
                        refine ⟨a, b, ?_, ?_, fun w' => ?_⟩
                        · have : us[off]? = some a := by simpa using ha1
                          simp [part, sig_isAgg hT hko, hag, hoff, this]
                        · have : vs[off]? = some b := by simpa using hb1
                          simp [part, sig_isAgg hT hko, hag, hoff, this]
                        · have := equal_run hT c n f.type [k] hk1 _ _ a b d' w' ha2 hb2 (by omega) (.inr ⟨hag, k, rfl, fx.1, fy.1⟩)
                          rw [this]
                          have hne : ∀ z, fitK k z = true → ∀ cs, z ≠ .agg cs := by
                            rintro z hz cs rfl
                            cases k <;> simp [fitK] at hz
                          simp only [cellsEq, Bool.and_true]
                          congr 1
                          unfold keyEq
                          split
                          · rename_i h1 _; exact absurd h1 (hne _ fx.1 _)
                          · rfl
                    obtain ⟨a, b, p1, p2, p3⟩ := hpart
                    simp only [p1, p2, p3, Result.andThen_ok]
                    cases hc : cellsEq ((xs.drop off).take k1.length) ((ys.drop off).take k1.length)
                    · simp
                    · simp [hih]
                  · cases hkk
                · cases hkk
              · cases hkk
          have hkx := fitKs_length hfx
          have hky := fitKs_length hfy
          have := key fields.toList 0 ks0 hnames (by rw [hfs]; exact hks0) (by omega) (by omega) (by simpa [← hkx] using hfx) (by simpa [← hky] using hfy)
          rw [this]
          simp only [List.drop_zero, keyEq]
          rw [List.take_of_length_le (by omega), List.take_of_length_le (by omega)]
        · cases h
      · cases h
    · have hkd : (tys t).k = k := by
        cases hk : (tys t).k <;> rw [hk] at h ha <;> simp [isAggK] at h ha
        all_goals exact h
      rcases fits_one hfx hx with ⟨ik, a, rfl, rfl, rfl⟩ | ⟨a, rfl, rfl, rfl⟩ | ⟨a, rfl, rfl, rfl⟩
      · rcases fits_one hfy hy with ⟨ik2, b, h1, rfl, rfl⟩ | ⟨b, h1, rfl, rfl⟩ | ⟨b, h1, rfl, rfl⟩ <;> simp at h1
        subst h1
        rw [run_equalIn_int w d t ik ik a b (sig_int hT hkd)]
        rfl
      · rcases fits_one hfy hy with ⟨ik2, b, h1, rfl, rfl⟩ | ⟨b, h1, rfl, rfl⟩ | ⟨b, h1, rfl, rfl⟩ <;> simp at h1
        rw [run_equalIn_string w d t a b (sig_str hT hkd), bytes_beq]
        rfl
      · rcases fits_one hfy hy with ⟨ik2, b, h1, rfl, rfl⟩ | ⟨b, h1, rfl, rfl⟩ | ⟨b, h1, rfl, rfl⟩ <;> simp at h1
        rw [run_equalIn_bool' w d t a b (sig_bool hT hkd)]
        rfl

end
end Go.L1
