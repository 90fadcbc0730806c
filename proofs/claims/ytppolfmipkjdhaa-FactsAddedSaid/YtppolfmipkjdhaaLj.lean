import Derived.Test.YtppolfmipkjdhaaLi
/-! L1, part j: a map's keys: checked, found; entries. -/
set_option linter.all false
namespace Go.L1
open Go.RowKit
variable [Zero Prop]

section
variable {P : Program} {tys : Nat → TI}

theorem kinds_hko {n t : Nat} {ks : List TK} (h : kindsOf tys n t = some ks) : (tys t).k ≠ .other := by
  intro hh
  cases n <;> simp [kindsOf, hh] at h

theorem kinds_struct {n t : Nat} {ks : List TK} (h : kindsOf tys n t = some ks) (ha : isAggK (tys t).k = true) : ∃ m fs, n = m + 1 ∧ (tys t).k = .struct fs ∧ kindsFs (kindsOf tys m) 0 fs = some ks ∧ ks.length = (tys t).size := by
  cases n with
  | zero => simp [kindsOf] at h
  | succ n =>
    simp only [kindsOf] at h
    cases hk : (tys t).k <;> rw [hk] at h ha <;> simp [isAggK] at ha
    rename_i fs
    simp only at h
    split at h
    · rename_i ks0 h0
      split at h
      · rename_i hl; simp only [Option.some.injEq] at h; subst h; exact ⟨n, fs, rfl, rfl, h0, hl⟩
      · cases h
    · cases h

theorem kinds_one {n t : Nat} {ks : List TK} (h : kindsOf tys n t = some ks) (ha : isAggK (tys t).k = false) : ks = [(tys t).k] := by
  cases n with
  | zero => simp [kindsOf] at h
  | succ n =>
    simp only [kindsOf] at h
    cases hk : (tys t).k <;> rw [hk] at h ha <;> simp [isAggK] at h ha
    all_goals exact h.symm

theorem check_run (hT : Sig P tys) (c : Ctx) (emp : Bool) : ∀ (n t : Nat) (ks : List TK), kindsOf tys n t = some ks → ∀ (x : V) (u : Value) (d : Nat) (w : World), R c x u → n ≤ d →
    ((isAggK (tys t).k = true ∧ ∃ xs, x = .agg xs ∧ fitKs ks xs = true) ∨ (isAggK (tys t).k = false ∧ ∃ k, ks = [k] ∧ fitK k x = true)) →
    (Instr.checkKey emp (d + 1) t u).run P w = .ok () w
  | 0, _, _, h => by simp [kindsOf] at h
  | n + 1, t, ks, h => by
    intro x u d w hx hd hf
    rcases hf with ⟨ha, xs, rfl, hfx⟩ | ⟨ha, k, rfl, hfx⟩
    · obtain ⟨m, fs, hm, hk, hks, hlen⟩ := kinds_struct h ha
      obtain rfl : n = m := by omega
      simp only [R] at hx
      obtain ⟨us, rfl, hx⟩ := hx
      obtain ⟨fields, hu, hfs⟩ := sig_struct hT hk
      simp only [Instr.checkKey, Sem.run_bind, run_underlying hu, Result.andThen_ok]
      have key : ∀ (fl : List Field) (off : Nat) (kk : List TK), kindsFs (kindsOf tys n) off (fl.map fun f => (f.type, f.offset)) = some kk →
          off + kk.length ≤ xs.length → fitKs kk ((xs.drop off).take kk.length) = true →
          (forIn fl PUnit.unit (fun f (_ : PUnit) => do
            if f.name ≠ "_" then Instr.checkKey emp d f.type (← part f.type us f.offset)
            pure (ForInStep.yield PUnit.unit) : Field → PUnit → Sem (ForInStep PUnit))).run P w = .ok PUnit.unit w := by
        intro fl
        induction fl with
        | nil => intro _ _ _ _ _; rfl
        | cons f fl ih =>
          intro off kk hkk hl hfx
          simp only [List.map_cons, kindsFs] at hkk
          split at hkk
          · rename_i hoff
            split at hkk
            · rename_i k1 hk1
              split at hkk
              · rename_i k2 hk2
                simp only [Option.some.injEq] at hkk
                subst hkk
                simp only [List.length_append] at hl
                have e1 : (xs.drop off).take (k1 ++ k2).length = (xs.drop off).take k1.length ++ (xs.drop (off + k1.length)).take k2.length := by
                  rw [List.length_append, List.take_add, List.drop_drop]
                have l1 : ((xs.drop off).take k1.length).length = k1.length := by simp; omega
                rw [e1] at hfx
                have fx := fitKs_append hfx
                rw [List.take_left' l1, List.drop_left' l1] at fx
                have hko := kinds_hko hk1
                have hih := ih (off + k1.length) k2 hk2 (by omega) fx.2
                have hpart : ∃ a, (part f.type us f.offset).run P w = .ok a w ∧ (Instr.checkKey emp d f.type a).run P w = .ok () w := by
                  obtain ⟨d', rfl⟩ : ∃ d', d = d' + 1 := by
                    refine ⟨d - 1, ?_⟩
                    cases n with
                    | zero => simp [kindsOf] at hk1
                    | succ n => omega
                  by_cases hag : isAggK (tys f.type).k = true
                  · obtain ⟨_, _, _, _, _, hs⟩ := kinds_struct hk1 hag
                    refine ⟨.agg (us.extract off (off + k1.length)), ?_, ?_⟩
                    · simp [part, sig_isAgg hT hko, hag, sig_size hT hko, ← hs, hoff]
                    · refine check_run hT c emp n f.type k1 hk1 (.agg ((xs.drop off).take k1.length)) _ d' w ?_ (by omega) (.inl ⟨hag, _, rfl, fx.1⟩)
                      simp only [R]
                      refine ⟨_, rfl, ?_⟩
                      have := (hx.drop off).take k1.length
                      simpa [Array.toList_extract, List.extract_eq_take_drop] using this
                  · have hag : isAggK (tys f.type).k = false := by simpa using hag
                    have hk1' := kinds_one hk1 hag
                    subst hk1'
                    have hxo : xs[off]? = some (xs[off]'(by simp at hl; omega)) := List.getElem?_eq_getElem _
                    obtain ⟨a, ha1, _, ha2⟩ := hx.get hxo
                    have t1 : (xs.drop off).take 1 = [xs[off]'(by simp at hl; omega)] := by
                      rw [List.drop_eq_getElem_cons (by simp at hl; omega)]; rfl
                    simp only [List.length_cons, List.length_nil, Nat.zero_add, t1, fitKs, Bool.and_true] at fx
                    refine ⟨a, ?_, check_run hT c emp n f.type _ hk1 _ a d' w ha2 (by omega) (.inr ⟨hag, _, rfl, fx.1⟩)⟩
                    have : us[off]? = some a := by simpa using ha1
                    simp [part, sig_isAgg hT hko, hag, hoff, this]
                obtain ⟨a, p1, p2⟩ := hpart
                rw [List.forIn_cons]
                by_cases hn : f.name ≠ "_"
                · simp only [if_pos hn, Sem.run_bind, p1, p2, Result.andThen_ok, Sem.run_pure, hih]
                · simp only [if_neg hn, Sem.run_bind, Result.andThen_ok, Sem.run_pure, hih]
              · cases hkk
            · cases hkk
          · cases hkk
      have hkx := fitKs_length hfx
      have := key fields.toList 0 ks (by rw [hfs]; exact hks) (by omega) (by simpa [← hkx] using hfx)
      rw [← Array.forIn_toList, this]
      rfl
    · have hkd := kinds_one h ha
      obtain rfl : k = (tys t).k := by simpa using hkd
      rcases fits_one hfx hx with ⟨ik, a, h1, rfl, rfl⟩ | ⟨a, h1, rfl, rfl⟩ | ⟨a, h1, rfl, rfl⟩
      · simp [Instr.checkKey, run_underlying (sig_int hT h1)]
      · simp [Instr.checkKey, run_underlying (sig_str hT h1)]
      · simp [Instr.checkKey, run_underlying (sig_bool hT h1)]

theorem fits_cases {t : Nat} {x : V} (h : fits tys t x = true) : ∃ ks, kindsOf tys 5 t = some ks ∧
    ((isAggK (tys t).k = true ∧ ∃ xs, x = .agg xs ∧ fitKs ks xs = true) ∨ (isAggK (tys t).k = false ∧ ∃ k, ks = [k] ∧ fitK k x = true)) := by
  unfold fits at h
  split at h
  · rename_i ks cs hk
    simp only [Bool.and_eq_true] at h
    exact ⟨ks, hk, .inl ⟨h.1, cs, rfl, h.2⟩⟩
  · rename_i k hk _
    simp only [Bool.and_eq_true, Bool.not_eq_true'] at h
    exact ⟨[k], hk, .inr ⟨h.1, k, rfl, h.2⟩⟩
  · cases h

theorem eq_run (hT : Sig P tys) {c : Ctx} {t : Nat} {x y : V} {u v : Value} (fx : fits tys t x = true) (fy : fits tys t y = true) (hx : R c x u) (hy : R c y v) (w : World) :
    (Op.equal t u v).run P w = .ok (keyEq x y) w := by
  obtain ⟨ks, hk, hfx⟩ := fits_cases fx
  obtain ⟨ks2, hk2, hfy⟩ := fits_cases fy
  obtain rfl := Option.some.inj (hk.symm.trans hk2)
  refine equal_run hT c 5 t ks hk x y u v 9999 w hx hy (by omega) ?_
  rcases hfx with ⟨ha, xs, rfl, h1⟩ | ⟨ha, k, rfl, h1⟩
  · rcases hfy with ⟨_, ys, rfl, h2⟩ | ⟨hb, _⟩
    · exact .inl ⟨ha, xs, ys, rfl, rfl, h1, h2⟩
    · rw [ha] at hb; cases hb
  · rcases hfy with ⟨hb, _⟩ | ⟨_, k2, hk3, h2⟩
    · rw [ha] at hb; cases hb
    · simp at hk3; subst hk3; exact .inr ⟨ha, k, rfl, h1, h2⟩

theorem checks_run (hT : Sig P tys) {c : Ctx} {t : Nat} {x : V} {u : Value} (fx : fits tys t x = true) (hx : R c x u) (emp : Bool) (w : World) :
    (Instr.checkKey emp 10000 t u).run P w = .ok () w := by
  obtain ⟨ks, hk, hfx⟩ := fits_cases fx
  exact check_run hT c emp 5 t ks hk x u 9999 w hx (by omega) hfx

theorem Ents.length {c : Ctx} : ∀ {es : List (V × V)} {ms : List MapEntry}, Ents c es ms → es.length = ms.length
  | [], _, h => by simp only [Ents] at h; subst h; rfl
  | (k, x) :: es, _, h => by obtain ⟨m, ms', rfl, _, _, h⟩ := h; simp [Ents.length h]

/-- Which entry a key finds. -/
def findI (x : V) : List (V × V) → Nat → Option Nat
  | [], _ => none
  | e :: es, i => if keyEq x e.1 then some i else findI x es (i + 1)

theorem findAsking_run (hT : Sig P tys) {c : Ctx} {t : Nat} {x : V} {u : Value} (fx : fits tys t x = true) (hx : R c x u) (w : World) :
    ∀ (es : List (V × V)) (ms : List MapEntry) (i : Nat), Ents c es ms → (∀ e ∈ es, fits tys t e.1 = true) →
      ∃ r, (Instr.findAsking t u ms i).run P w = .ok r w ∧ match findI x es i with
        | none => r = none
        | some j => i ≤ j ∧ ∃ m, ms[j - i]? = some m ∧ r = some (j, m.val)
  | [], _, i, h, _ => by simp only [Ents] at h; subst h; exact ⟨none, rfl, rfl⟩
  | e :: es, _, i, h, hf => by
    obtain ⟨m, ms', rfl, h1, h2, h3⟩ := h
    have he := eq_run hT fx (hf e List.mem_cons_self) hx h1 w
    simp only [Instr.findAsking, Sem.run_bind, he, Result.andThen_ok, findI]
    cases hq : keyEq x e.1
    · obtain ⟨r, hr, hm⟩ := findAsking_run hT fx hx w es ms' (i + 1) h3 (fun e he => hf e (List.mem_cons_of_mem _ he))
      refine ⟨r, by simpa using hr, ?_⟩
      change match findI x es (i + 1) with
        | none => r = none
        | some j => i ≤ j ∧ ∃ m_1, (m :: ms')[j - i]? = some m_1 ∧ r = some (j, m_1.val)
      cases hj : findI x es (i + 1) with
      | none => rw [hj] at hm; exact hm
      | some j =>
        rw [hj] at hm
        obtain ⟨hle, m2, hm2, hr2⟩ := hm
        refine ⟨by omega, m2, ?_, hr2⟩
        rw [show j - i = (j - (i + 1)) + 1 from by omega]
        simpa using hm2
    · exact ⟨some (i, m.val), by simp, by simp⟩

theorem sameNow_agg {d : TypeDesc} {vs : Array Value} {y : Value} : Instr.sameNow d (.agg vs) y = none := by cases d <;> rfl

theorem findNow_run (hT : Sig P tys) {c : Ctx} {t : Nat} {x : V} {u : Value} {d : TypeDesc} (hd : P.underlying t = some d) (ha : isAggK (tys t).k = false) (fx : fits tys t x = true) (hx : R c x u) :
    ∀ (es : List (V × V)) (ms : List MapEntry) (i : Nat), Ents c es ms → (∀ e ∈ es, fits tys t e.1 = true) →
      ∃ r, Instr.findNow d u ms i = some r ∧ match findI x es i with
        | none => r = none
        | some j => i ≤ j ∧ ∃ m, ms[j - i]? = some m ∧ r = some (j, m.val)
  | [], _, i, h, _ => by simp only [Ents] at h; subst h; exact ⟨none, rfl, rfl⟩
  | e :: es, _, i, h, hf => by
    obtain ⟨m, ms', rfl, h1, h2, h3⟩ := h
    obtain ⟨ks, hk, hfx⟩ := fits_cases fx
    obtain ⟨ks2, hk2, hfy⟩ := fits_cases (hf e List.mem_cons_self)
    obtain rfl := Option.some.inj (hk.symm.trans hk2)
    have hkd := kinds_one hk ha
    subst hkd
    have fx1 : fitK (tys t).k x = true := by
      rcases hfx with ⟨hb, _⟩ | ⟨_, k, h, h2⟩
      · rw [ha] at hb; cases hb
      · simp at h; subst h; exact h2
    have fy1 : fitK (tys t).k e.1 = true := by
      rcases hfy with ⟨hb, _⟩ | ⟨_, k, h, h2⟩
      · rw [ha] at hb; cases hb
      · simp at h; subst h; exact h2
    have hs : Instr.sameNow d u m.key = some (keyEq x e.1) := by
      rcases fits_one fx1 hx with ⟨ik, a, g1, rfl, rfl⟩ | ⟨a, g1, rfl, rfl⟩ | ⟨a, g1, rfl, rfl⟩ <;>
        rcases fits_one fy1 h1 with ⟨ik2, b, g2, g3, g4⟩ | ⟨b, g2, g3, g4⟩ | ⟨b, g2, g3, g4⟩ <;> rw [g1] at g2 <;> simp at g2 <;> rw [g3, g4]
      · subst g2
        rw [sig_int hT g1] at hd
        obtain rfl := Option.some.inj hd
        simp [Instr.sameNow, keyEq, scEq]
        rfl
      · rw [sig_str hT g1] at hd
        obtain rfl := Option.some.inj hd
        simp only [Instr.sameNow, keyEq, scEq, beq_toListBytes, bytes_beq]
      · rw [sig_bool hT g1] at hd
        obtain rfl := Option.some.inj hd
        rfl
    simp only [Instr.findNow, hs, findI]
    cases hq : keyEq x e.1
    · obtain ⟨r, hr, hm⟩ := findNow_run hT hd ha fx hx es ms' (i + 1) h3 (fun e he => hf e (List.mem_cons_of_mem _ he))
      refine ⟨r, by simpa using hr, ?_⟩
      change match findI x es (i + 1) with
        | none => r = none
        | some j => i ≤ j ∧ ∃ m_1, (m :: ms')[j - i]? = some m_1 ∧ r = some (j, m_1.val)
      cases hj : findI x es (i + 1) with
      | none => rw [hj] at hm; exact hm
      | some j =>
        rw [hj] at hm
        obtain ⟨hle, m2, hm2, hr2⟩ := hm
        refine ⟨by omega, m2, ?_, hr2⟩
        rw [show j - i = (j - (i + 1)) + 1 from by omega]
        simpa using hm2
    · exact ⟨some (i, m.val), rfl, by simp⟩

theorem findKey_run (hT : Sig P tys) {c : Ctx} {t : Nat} {x : V} {u : Value} (fx : fits tys t x = true) (hx : R c x u) (w : World) {es : List (V × V)} {ms : List MapEntry}
    (h : Ents c es ms) (hf : ∀ e ∈ es, fits tys t e.1 = true) : ∃ r, (Instr.findKey t u ms).run P w = .ok r w ∧ match findI x es 0 with
        | none => r = none
        | some j => ∃ m, ms[j]? = some m ∧ r = some (j, m.val) := by
  obtain ⟨ks, hk, hfx⟩ := fits_cases fx
  obtain ⟨d, hd, hd2⟩ := sig_under hT (kinds_hko hk)
  by_cases ha : isAggK (tys t).k = true
  · rcases hfx with ⟨_, xs, rfl, _⟩ | ⟨hb, _⟩
    · simp only [R] at hx
      obtain ⟨vs, rfl, hxs⟩ := hx
      cases ms with
      | nil =>
        have : es = [] := by have := h.length; simpa using this
        subst this
        exact ⟨none, by simp [Instr.findKey, run_underlying hd, Instr.findNow], rfl⟩
      | cons m ms =>
        obtain ⟨r, hr, hm⟩ := findAsking_run hT (c := c) fx (by simp only [R]; exact ⟨vs, rfl, hxs⟩) w es (m :: ms) 0 h hf
        refine ⟨r, ?_, ?_⟩
        · simp [Instr.findKey, run_underlying hd, Instr.findNow, sameNow_agg, hr]
        · split at hm
          · exact hm
          · obtain ⟨_, m2, hm2, hr2⟩ := hm
            exact ⟨m2, by simpa using hm2, hr2⟩
    · rw [ha] at hb; cases hb
  · have ha : isAggK (tys t).k = false := by simpa using ha
    obtain ⟨r, hr, hm⟩ := findNow_run hT (c := c) hd ha fx hx es ms 0 h hf
    refine ⟨r, by simp [Instr.findKey, run_underlying hd, hr], ?_⟩
    split at hm
    · exact hm
    · obtain ⟨_, m2, hm2, hr2⟩ := hm
      exact ⟨m2, by simpa using hm2, hr2⟩

/-- Keys that are alike are one value. -/
theorem fitK_same {c : Ctx} {k : TK} {x y : V} {u v : Value} (fx : fitK k x = true) (fy : fitK k y = true) (hx : R c x u) (hy : R c y v) (h : scEq x y = true) : u = v ∧ Instr.sameBits 9999 u v = true ∧ Instr.sameBits 10000 u v = true := by
  rcases fits_one fx hx with ⟨ik, a, g1, rfl, rfl⟩ | ⟨a, g1, rfl, rfl⟩ | ⟨a, g1, rfl, rfl⟩ <;>
    rcases fits_one fy hy with ⟨ik2, b, g2, rfl, rfl⟩ | ⟨b, g2, rfl, rfl⟩ | ⟨b, g2, rfl, rfl⟩ <;> rw [g1] at g2 <;> simp at g2
  · subst g2; simp [scEq] at h; subst h; simp [Instr.sameBits]
  · simp [scEq] at h; subst h; simp [Instr.sameBits, beq_toListBytes, bytes_beq]
  · simp [scEq] at h; subst h; simp [Instr.sameBits]

theorem fitKs_same {c : Ctx} : ∀ {ks : List TK} {xs ys : List V} {us vs : List Value}, fitKs ks xs = true → fitKs ks ys = true → Rs c xs us → Rs c ys vs → cellsEq xs ys = true →
    us = vs ∧ ((us.zip vs).all fun (x, y) => Instr.sameBits 9999 x y) = true
  | [], [], [], _, _, _, _, hx, hy, _ => by simp only [Rs] at hx hy; subst hx hy; simp
  | k :: ks, x :: xs, y :: ys, _, _, fx, fy, hx, hy, h => by
    simp only [Rs] at hx hy
    obtain ⟨u, us, rfl, _, hu, hus⟩ := hx
    obtain ⟨v, vs, rfl, _, hv, hvs⟩ := hy
    simp only [fitKs, Bool.and_eq_true] at fx fy
    simp only [cellsEq, Bool.and_eq_true] at h
    obtain ⟨h1, h2, _⟩ := fitK_same fx.1 fy.1 hu hv h.1
    obtain ⟨h3, h4⟩ := fitKs_same fx.2 fy.2 hus hvs h.2
    subst h1 h3
    simp [h2]
    simpa using h4
  | [], _ :: _, _, _, _, fx, _, _, _, _ => by simp [fitKs] at fx
  | _ :: _, [], _, _, _, fx, _, _, _, _ => by simp [fitKs] at fx
  | [], [], _ :: _, _, _, _, fy, _, _, _ => by simp [fitKs] at fy
  | _ :: _, _ :: _, [], _, _, _, fy, _, _, _ => by simp [fitKs] at fy

theorem key_same {c : Ctx} {t : Nat} {x y : V} {u v : Value} (fx : fits tys t x = true) (fy : fits tys t y = true) (hx : R c x u) (hy : R c y v) (h : keyEq x y = true) : Instr.sameBits 10000 u v = true := by
  obtain ⟨ks, hk, hfx⟩ := fits_cases fx
  obtain ⟨ks2, hk2, hfy⟩ := fits_cases fy
  obtain rfl := Option.some.inj (hk.symm.trans hk2)
  rcases hfx with ⟨ha, xs, rfl, h1⟩ | ⟨ha, k, rfl, h1⟩
  · rcases hfy with ⟨_, ys, rfl, h2⟩ | ⟨hb, _⟩
    · simp only [R] at hx hy
      obtain ⟨us, rfl, hx⟩ := hx
      obtain ⟨vs, rfl, hy⟩ := hy
      obtain ⟨h3, h4⟩ := fitKs_same h1 h2 hx hy h
      have h5 : us = vs := by apply Array.ext'; exact h3
      subst h5
      simp only [Instr.sameBits, beq_self_eq_true, Bool.true_and]
      exact h4
    · rw [ha] at hb; cases hb
  · rcases hfy with ⟨hb, _⟩ | ⟨_, k2, hk3, h2⟩
    · rw [ha] at hb; cases hb
    · simp at hk3; subst hk3
      refine (fitK_same h1 h2 hx hy ?_).2.2
      rcases fits_one h1 hx with ⟨ik, a, g1, rfl, rfl⟩ | ⟨a, g1, rfl, rfl⟩ | ⟨a, g1, rfl, rfl⟩ <;>
        rcases fits_one h2 hy with ⟨ik2, b, g2, rfl, rfl⟩ | ⟨b, g2, rfl, rfl⟩ | ⟨b, g2, rfl, rfl⟩ <;> first | exact h | (rw [g1] at g2; simp at g2)

/-- A map's entries with one more, or another value under a key. -/
def updE (es : List (V × V)) (x y : V) : List (V × V) :=
  match findI x es 0 with
  | some i => es.set i (x, y)
  | none => es ++ [(x, y)]

end
end Go.L1
