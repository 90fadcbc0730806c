import Derived.Test.YtppolfmipkjdhaaLs
/-! L1, part t: a function's contract, out of what is to be shown of its code. -/
set_option linter.all false
namespace Go.L1
open Go.RowKit
variable [Zero Prop]

section
variable {P : Program} {tys : Nat → TI}

/-- One result, read. -/
def resRead (tmps : Array Value) : ResultVar → Sem Value
  | .tmp t => pure (tmps.getD t undef)
  | .cell a t => do loadVar t (← asAddr (tmps.getD a undef))

theorem resK_sound (hT : Sig P tys) {F ρ H nx w n T} {tmps : Array Value} (hs : St F ρ H nx w) (he : EnvRel (ctx F ρ H w) n T tmps) : ∀ (rs : List ResultVar) (K : List V → Prop), resK tys T H rs K →
    ∃ vs us, K vs ∧ (rs.mapM (resRead tmps)).run P w = .ok us w ∧ Rt (ctx F ρ H w) vs us
  | [], K, h => ⟨[], [], h, rfl, by simp [Rt]⟩
  | .tmp t :: rs, K, h => by
    simp only [resK] at h
    split at h
    · rename_i v hv
      obtain ⟨u, h1, h2⟩ := he.get t v hv
      obtain ⟨vs, us, g1, g2, g3⟩ := resK_sound hT hs he rs _ h
      refine ⟨v :: vs, u :: us, g1, ?_, ?_⟩
      · rw [List.mapM_cons]
        simp only [Sem.run_bind, resRead, Sem.run_pure, Result.andThen_ok, g2, Array.getD_eq_getD_getElem?, h1, Option.getD_some]
      · simp only [Rt]
        exact ⟨u, us, rfl, h2, g3⟩
    · exact h.elim
  | .cell a t :: rs, K, h => by
    simp only [resK] at h
    split at h
    · rename_i l u j f hv
      obtain ⟨p, h1, h2⟩ := he.get a _ hv
      simp only [R] at h2
      obtain ⟨L, hL, hp⟩ := h2
      split at h
      · rename_i e els hg
        obtain ⟨el, hj, h⟩ := h
        obtain ⟨_, hlen, us, hr, hc⟩ := hs.elem hg hL hj
        have hlu := hr.length
        have one : ∀ v, ((isAggK (tys t).k = true ∧ f + (tys t).size ≤ el.length ∧ v = .agg ((el.drop f).take (tys t).size)) ∨ (isAggK (tys t).k = false ∧ el[f]? = some v)) → (tys t).k ≠ .other →
            ∃ y, (resRead tmps (.cell a t)).run P w = .ok y w ∧ R (ctx F ρ H w) v y := by
          rintro v hv hk
          rcases hv with ⟨ha, hl, rfl⟩ | ⟨ha, hg⟩
          · have hld := run_loadCells_list (P := P) (w := w) ⟨L.blk, L.base + j * L.sz + f, none⟩ ((us.drop f).take (tys t).size) (fun i v hi => by
              rw [add_at]
              rw [List.getElem?_take] at hi
              split at hi
              · rw [List.getElem?_drop] at hi
                have := hc _ v hi
                rwa [show L.base + j * L.sz + (f + i) = L.base + j * L.sz + f + i from by omega] at this
              · cases hi)
            rw [List.length_take, List.length_drop, Nat.min_eq_left (by omega)] at hld
            refine ⟨.agg ((us.drop f).take (tys t).size).toArray, ?_, ?_⟩
            · simp [resRead, Array.getD_eq_getD_getElem?, h1, hp, asAddr, loadVar, sig_isAgg hT hk, ha, sig_size hT hk, hld]
            · simp only [R]
              exact ⟨_, rfl, by simpa using (hr.drop f).take (tys t).size⟩
          · obtain ⟨y, hy, _, hR⟩ := hr.get hg
            have hcell := hc _ _ hy
            exact ⟨y, by simp [resRead, Array.getD_eq_getD_getElem?, h1, hp, asAddr, loadVar, sig_isAgg hT hk, ha, hcell], hR⟩
        have fin : ∀ v, ((isAggK (tys t).k = true ∧ f + (tys t).size ≤ el.length ∧ v = .agg ((el.drop f).take (tys t).size)) ∨ (isAggK (tys t).k = false ∧ el[f]? = some v)) → (tys t).k ≠ .other →
            resK tys T H rs (fun vs => K (v :: vs)) → ∃ vs us, K vs ∧ ((ResultVar.cell a t :: rs).mapM (resRead tmps)).run P w = .ok us w ∧ Rt (ctx F ρ H w) vs us := by
          intro v hv hk h
          obtain ⟨y, y1, y2⟩ := one v hv hk
          obtain ⟨vs, us, g1, g2, g3⟩ := resK_sound hT hs he rs _ h
          refine ⟨v :: vs, y :: us, g1, ?_, ?_⟩
          · rw [List.mapM_cons]
            simp only [Sem.run_bind, y1, Sem.run_pure, Result.andThen_ok, g2]
          · simp only [Rt]
            exact ⟨y, us, rfl, y2, g3⟩
        split at h
        · exact h.elim
        · rename_i hk
          exact fin _ (.inl ⟨by rw [hk]; rfl, h.1, rfl⟩) (by rw [hk]; simp) h.2
        · rename_i h1 h2
          obtain ⟨v, hv, h⟩ := h
          refine fin v (.inr ⟨?_, hv⟩) h1 h
          cases hk : (tys t).k <;> first | rfl | (exfalso; exact h2 _ hk)
      · exact h.elim
    · exact h.elim

theorem results_run {fn : Func} {rs : List ResultVar} (hrs : fn.results = rs.toArray) {tmps : Array Value} {w : World} {us : List Value} (h : (rs.mapM (resRead tmps)).run P w = .ok us w) :
    (results fn tmps).run P w = .ok (if h : us.toArray.size = 1 then us.toArray[0] else .tuple us.toArray) w := by
  unfold results
  rw [hrs, Array.mapM_eq_mapM_toList]
  have e1 : (fun x : ResultVar => match x with
      | .tmp t => (pure (tmps.getD t undef) : Sem Value)
      | .cell a t => do loadVar t (← asAddr (tmps.getD a undef))) = resRead tmps := by
    funext x; cases x <;> rfl
  simp only [Sem.run_bind, Sem.run_map, Result.andThen_ok, Sem.run_pure]
  erw [e1]
  simp only [h, Result.andThen_ok, Sem.run_pure]

theorem argEnv_rel {c : Ctx} : ∀ {args : List V} {vs : List Value} (pre : List Value), Rt c args vs → ∀ t x, (argEnv pre.length args).get t = some x → ∃ v, (pre ++ vs)[t]? = some v ∧ R c x v
  | [], vs, pre, h, t, x, hx => by simp [argEnv, Env.get] at hx
  | a :: as, vs, pre, h, t, x, hx => by
    simp only [Rt] at h
    obtain ⟨v, vs', rfl, h1, h2⟩ := h
    simp only [argEnv, Env.get] at hx
    split at hx
    · rename_i k; subst k
      simp only [Option.some.injEq] at hx; subst hx
      exact ⟨v, by simp, h1⟩
    · have := argEnv_rel (pre ++ [v]) h2 t x (by simpa using hx)
      simpa using this

theorem C.of_vc (hT : Sig P tys) (hmix : P.follows .mixedOrders = true) {f : Nat} {fn : Func} {c : Code} {rs : List ResultVar} {n : Nat} (ro : Nat → Bool) {args : List V} {v' : V} {H H' : Heap} {nx nx' : Nat} (hf : P.funcs[f]? = some fn) (hent : Ent P f)
    (hb : fn.body = some c) (hrs : fn.results = rs.toArray) (hn : fn.ntmps = n) (hle : args.length ≤ n) (hnx : nx ≤ nx')
    (h : Wfs args → vc P tys ro n c (fnPost tys rs v' H' nx') (argEnv 0 args) H nx) : C P f nx args H v' H' nx' := by
  refine ⟨hent, fun F ρ w vs hs hr => ?_⟩
  have hlen := hr.length
  refine calls_of_wp hf hb ?_
  refine vc_sound hT hmix hs.fresh c _ _ _ _ _ _ _ ?_ (h (Rt.wf _ _ hr)) ⟨ρ, hs, ⟨?_, ?_⟩, Evo.refl _ _ _ _, rfl⟩
  · intro e T H1 nx1 a w1 k hl
    have key : (resK tys T H1 rs fun vs => Fin (packV vs) H1 v' H' nx') → a.defers = [] ∧ ∃ v, (results fn a.tmps).run P w1 = .ok v w1 ∧ ∃ v2 ρ', Ending.returned v = .returned v2 ∧ St F ρ' H' nx' w1 ∧ Evo ρ H nx w ρ' H' nx' w1 ∧ R (ctx F ρ' H' w1) v' v2 := by
      intro k
      obtain ⟨ρ1, hs1, he1, hv1, hd⟩ := hl
      obtain ⟨vs1, us, ⟨rest, p1, p2, p3, p4⟩, g2, g3⟩ := resK_sound hT hs1 he1 rs _ k
      have hpk : R (ctx F ρ1 H1 w1) (packV vs1) (if h : us.toArray.size = 1 then us.toArray[0] else .tuple us.toArray) := by
        match vs1, g3 with
        | [], g3 => simp only [Rt] at g3; subst g3; simp only [packV, R]; exact ⟨_, rfl, by simp [Rt]⟩
        | [x], g3 =>
          simp only [Rt] at g3
          obtain ⟨y, us', rfl, h1, rfl⟩ := g3
          exact h1
        | x :: y :: zs, g3 =>
          have hl2 := g3.length
          simp only [List.length_cons] at hl2
          simp only [packV, R]
          rw [dif_neg (by simp; omega)]
          exact ⟨_, rfl, by simpa using g3⟩
      obtain ⟨ρ', q1, q2, q3⟩ := hs1.weak p1 p4 hs.fresh hv1 hnx
      exact ⟨hd, _, results_run hrs g2, _, ρ', rfl, q1, q2, by rw [← p2] at p3 ⊢; exact q3 _ _ p3 hpk⟩
    cases e with
    | normal => exact key k
    | ret => exact key k
    | _ => exact k.elim
  · simp [hn, hlen]; omega
  · intro t x hx
    obtain ⟨v, h1, h2⟩ := argEnv_rel (c := ctx F ρ H w) [] hr t x hx
    refine ⟨v, ?_, h2⟩
    simp only [List.nil_append] at h1
    have ht : t < vs.length := (List.getElem?_eq_some_iff.1 h1).1
    rw [Array.getElem?_append_left (by simpa using ht)]
    simpa using h1

/-- Of a function that touches nothing that is owned. -/
theorem CP.of_vc (hT : Sig P tys) (hmix : P.follows .mixedOrders = true) {f : Nat} {fn : Func} {c : Code} {rs : List ResultVar} {n : Nat} (ro : Nat → Bool) {args : List V} {v' : V} (hf : P.funcs[f]? = some fn) (hent : Ent P f)
    (hb : fn.body = some c) (hrs : fn.results = rs.toArray) (hn : fn.ntmps = n) (hle : args.length ≤ n)
    (h : Wfs args → vc P tys ro n c (fnPost tys rs v' [] 0) (argEnv 0 args) [] 0) : CP P f args v' :=
  C.of_vc hT hmix ro hf hent hb hrs hn hle (Nat.le_refl _) h

end
end Go.L1
