import Derived.Test.YtppolfmipkjdhaaLm
/-! L1, part n: 'pop' is sound. -/
set_option linter.all false
namespace Go.L1
open Go.RowKit
variable [Zero Prop]

section
variable {P : Program} {tys : Nat → TI} {T : Env} {o : Oper}

theorem R_agg_form {c : Ctx} {xs : List V} {v : Value} (h : R c (.agg xs) v) : ∃ vs, v = .agg vs ∧ Rs c xs vs.toList := by simpa only [R] using h

theorem pop_sound (hT : Sig P tys) {ro : Bool} {p : Prop} {v : V} (h : pop tys ro T o.op = some (p, v)) (hp : p) : PStep P o T v := by
  cases ho : o.op <;> rw [ho] at h <;> simp only [pop] at h
  case move x =>
    simp only [Option.map_eq_some_iff, Prod.mk.injEq] at h
    obtain ⟨y, hy, _, rfl⟩ := h
    exact sound_move (.inl ho) hy
  case assign x =>
    simp only [Option.map_eq_some_iff, Prod.mk.injEq] at h
    obtain ⟨y, hy, _, rfl⟩ := h
    exact sound_move (.inr ho) hy
  case pick c x y =>
    split at h
    · rename_i q r s hc hx hy
      simp only [Option.some.injEq, Prod.mk.injEq] at h
      obtain ⟨_, rfl⟩ := h
      refine sound_pick (w := .nilP) (u := .nilP) (p := q) ho hc (fun e => ?_) (fun e => ?_) <;> subst e <;> simpa
    · rename_i w hc hx _
      simp only [Option.some.injEq, Prod.mk.injEq] at h
      obtain ⟨_, rfl⟩ := h
      exact sound_pick (w := .nilP) (u := .nilP) ho hc (fun _ => hx) (fun e => by cases e)
    · rename_i w hc hy _
      simp only [Option.some.injEq, Prod.mk.injEq] at h
      obtain ⟨_, rfl⟩ := h
      exact sound_pick (w := .nilP) (u := .nilP) ho hc (fun e => by cases e) (fun _ => hy)
    · cases h
  case nilCheck x =>
    split at h
    · rename_i hx
      simp only [Option.some.injEq, Prod.mk.injEq] at h
      obtain ⟨_, rfl⟩ := h
      exact sound_nilCheck ho hx (.inl ⟨_, _, _, _, rfl⟩)
    · rename_i hx
      simp only [Option.some.injEq, Prod.mk.injEq] at h
      obtain ⟨_, rfl⟩ := h
      exact sound_nilCheck ho hx (.inr ⟨_, rfl⟩)
    · cases h
  case binOp op t x y t' =>
    split at h
    · rename_i k a k' c hx hy
      split at h
      · refine sound_binOp ho hx hy fun cc u w hu hw => ?_
        simp only [R] at hu hw
        obtain ⟨rfl, _⟩ := hu
        obtain ⟨rfl, _⟩ := hw
        exact ⟨by simp, by simp, shV_run h hp _ _ _⟩
      · split at h
        · rename_i hk
          subst hk
          refine sound_binOp ho hx hy fun cc u w hu hw => ?_
          simp only [R] at hu hw
          obtain ⟨rfl, _⟩ := hu
          obtain ⟨rfl, _⟩ := hw
          exact ⟨by simp, by simp, intBin_run h hp _ _ _⟩
        · cases h
    · rename_i a c hx hy
      refine sound_binOp ho hx hy fun cc u w hu hw => ?_
      simp only [R] at hu hw
      obtain ⟨rfl, _⟩ := hu
      obtain ⟨rfl, _⟩ := hw
      exact ⟨by simp, by simp, strBin_run h hp _ _ _⟩
    · rename_i a c hx hy
      split at h
      · rename_i hop hk
        simp only [Option.some.injEq, Prod.mk.injEq] at h
        obtain ⟨_, rfl⟩ := h
        refine sound_binOp ho hx hy fun cc u w hu hw => ?_
        simp only [R] at hu hw
        subst hu hw
        refine ⟨by simp, by simp, _, R_b, ?_⟩
        have := run_equalIn_bool' cc.w 9999 t a c (sig_bool hT hk)
        simp [binOp, Op.equal, Op.maxDepth, this]
      · rename_i hop hk
        simp only [Option.some.injEq, Prod.mk.injEq] at h
        obtain ⟨_, rfl⟩ := h
        refine sound_binOp ho hx hy fun cc u w hu hw => ?_
        simp only [R] at hu hw
        subst hu hw
        refine ⟨by simp, by simp, _, R_b, ?_⟩
        have := run_equalIn_bool' cc.w 9999 t a c (sig_bool hT hk)
        simp [binOp, Op.equal, Op.maxDepth, this]
      · cases h
    · rename_i xs ys hx hy
      split at h
      · rename_i hfit
        simp only [Bool.and_eq_true] at hfit
        obtain ⟨ks, hk, hfx⟩ := fits_cases hfit.1
        have hag : isAggK (tys t).k = true := by
          rcases hfx with ⟨h, _⟩ | ⟨_, k, _, h⟩
          · exact h
          · cases k <;> simp [fitK] at h
        obtain ⟨_, fs, _, hfs, _⟩ := kinds_struct hk hag
        obtain ⟨fields, hu, _⟩ := sig_struct hT hfs
        have hg := ((hT t (by rw [hfs]; simp)).names fields hu).2.2
        have key : ∀ (c : Ctx) u w, R c (.agg xs) u → R c (.agg ys) w → ∃ us vs, u = .agg us ∧ w = .agg vs ∧ ∀ ww, (Op.equalIn 10000 t u w).run P ww = .ok (cellsEq xs ys) ww := fun c u w hu hw => by
          have he := fun ww => eq_run hT hfit.1 hfit.2 hu hw ww
          obtain ⟨us, rfl, _⟩ := R_agg_form hu
          obtain ⟨vs, rfl, _⟩ := R_agg_form hw
          exact ⟨us, vs, rfl, rfl, he⟩
        refine PStep.val fun c a hh => ?_
        have h1 := ev_R hh hx (fun t ht => mem_tmpsOf (x := x) (by simp [ho, Op.operands]) ht)
        have h2 := ev_R hh hy (fun t ht => mem_tmpsOf (x := y) (by simp [ho, Op.operands]) ht)
        obtain ⟨us, vs, e1, e2, e3⟩ := key c _ _ h1 h2
        rw [e1, e2] at e3
        split at h
        · simp only [Option.some.injEq, Prod.mk.injEq] at h
          obtain ⟨_, rfl⟩ := h
          refine ⟨_, R_b, ?_⟩
          simp only [execOp, ho, e1, e2, Sem.run_bind, run_eqGuard_agg c.w _ t x y us vs hg, Result.andThen_ok, run_eql_struct, e3, Sem.run_pure]
        · simp only [Option.some.injEq, Prod.mk.injEq] at h
          obtain ⟨_, rfl⟩ := h
          refine ⟨_, R_b, ?_⟩
          simp only [execOp, ho, e1, e2, Sem.run_bind, run_eqGuard_agg c.w _ t x y us vs hg, Result.andThen_ok, run_neq_struct, e3, Sem.run_pure]
        · cases h
      · cases h
    · cases h
  case unOp op t x =>
    split at h
    · rename_i q hx
      simp only [Option.some.injEq, Prod.mk.injEq] at h
      obtain ⟨_, rfl⟩ := h
      refine sound_unOp ho hx fun cc u hu => ?_
      simp only [R] at hu
      subst hu
      exact ⟨_, R_b, rfl⟩
    · rename_i k n hx
      simp only [Option.some.injEq, Prod.mk.injEq] at h
      obtain ⟨_, rfl⟩ := h
      refine sound_unOp ho hx fun cc u hu => ?_
      simp only [R] at hu
      obtain ⟨rfl, _⟩ := hu
      exact ⟨_, R_i (InK.wrap _ _), rfl⟩
    · cases h
  case convert src dst x =>
    split at h
    · cases h
    · rename_i k k' n hd hx hs
      simp only [Option.some.injEq, Prod.mk.injEq] at h
      obtain ⟨_, rfl⟩ := h
      refine sound_convert ho hx fun cc u hu => ?_
      simp only [R] at hu
      obtain ⟨rfl, _⟩ := hu
      exact convert_int hT (by intro hh; exact hs hh) hd cc
    · rename_i b hs hd hx
      simp only [Option.some.injEq, Prod.mk.injEq] at h
      obtain ⟨_, rfl⟩ := h
      refine sound_convert ho hx fun cc u hu => ?_
      refine ⟨u, hu, ?_⟩
      simp only [R] at hu
      obtain ⟨rfl, _⟩ := hu
      simp [convert, run_underlying (sig_str hT hs), run_underlying (sig_str hT hd)]
    · rename_i e sz els hs hd hx
      split at h
      · rename_i hc
        obtain ⟨he, rfl⟩ := hc
        simp only [Option.some.injEq, Prod.mk.injEq] at h
        obtain ⟨rfl, rfl⟩ := h
        refine sound_convert ho hx fun cc u hu => ?_
        have hu0 := hu
        simp only [R] at hu
        obtain ⟨a, cap, rfl, hle, hm, hels⟩ := hu
        have hsz : (strOf els).size ≤ maxLen := by rw [strOf_size]; omega
        refine ⟨.string (strOf els), by simp only [R]; exact ⟨trivial, hsz⟩, ?_⟩
        have hconv : ∀ b : Option Addr, (convert src dst (.slice b els.length cap)).run P cc.w = (Conv.bytesToString (.slice b els.length cap)).run P cc.w := fun b => by
          simp only [convert, Sem.run_bind, run_underlying (sig_slice hT hs), run_underlying (sig_str hT hd), run_underlying (sig_int hT he), Result.andThen_ok]
        rw [hconv]
        rcases hels with rfl | ⟨b, f, rfl, hels⟩
        · cases a with
          | none => rfl
          | some a => simp [Conv.bytesToString, loadCells, loadCellsFrom, strOf]; rfl
        · exact bytesToString_run (c := cc.bare) hels hp
      · cases h
    · rename_i e hs hd hx
      split at h
      · rename_i he
        simp only [Option.some.injEq, Prod.mk.injEq] at h
        obtain ⟨_, rfl⟩ := h
        refine sound_convert ho hx fun cc u hu => ?_
        simp only [R] at hu
        subst hu
        refine ⟨.string ⟨#[]⟩, by simp only [R]; exact ⟨trivial, by unfold maxLen; show 0 ≤ _; omega⟩, ?_⟩
        simp only [convert, Sem.run_bind, run_underlying (sig_slice hT hs), run_underlying (sig_str hT hd), run_underlying (sig_int hT he), Result.andThen_ok]
        rfl
      · cases h
    · cases h
  case field t x f =>
    split at h
    · rename_i fs cs ht hx
      split at h
      · rename_i ft off hf
        split at h
        · cases h
        · rename_i fs2 hk
          simp only [Option.some.injEq, Prod.mk.injEq] at h
          obtain ⟨rfl, rfl⟩ := h
          exact sound_field hT ho hx ht hf (by rw [hk]; simp) (.inl ⟨by rw [hk]; rfl, hp, rfl⟩)
        · rename_i hk1 hk2
          split at h
          · rename_i y hy
            simp only [Option.some.injEq, Prod.mk.injEq] at h
            obtain ⟨_, rfl⟩ := h
            refine sound_field hT ho hx ht hf hk1 (.inr ⟨?_, hy⟩)
            cases hkk : (tys ft).k <;> first | rfl | exact absurd hkk (hk2 _)
          · cases h
      · cases h
    · cases h
  case fieldAddr t x f =>
    split at h
    · rename_i fs w ht hx
      split at h
      · rename_i ft off hf
        split at h
        · cases h
        · rename_i hk
          simp only [not_or] at hk
          split at h
          · simp only [Option.some.injEq, Prod.mk.injEq] at h
            obtain ⟨_, rfl⟩ := h
            exact sound_fieldAddr hT ho hx ht hf hk.1 hk.2 (.inl ⟨_, rfl, rfl⟩)
          · simp only [Option.some.injEq, Prod.mk.injEq] at h
            obtain ⟨_, rfl⟩ := h
            exact sound_fieldAddr hT ho hx ht hf hk.1 hk.2 (.inr ⟨_, _, _, _, rfl, rfl⟩)
          · cases h
      · cases h
    · cases h
  case indexAddr t x y =>
    split at h
    · rename_i e sz els k n ht hx hy
      split at h
      · rename_i hc
        simp only [Option.some.injEq, Prod.mk.injEq] at h
        obtain ⟨rfl, rfl⟩ := h
        exact sound_indexAddr_d hT ho hx hy ht hc.2 hc.1 hp.1 hp.2
      · cases h
    · rename_i e l u j m sz k n ht hx hy
      split at h
      · rename_i hc
        simp only [Option.some.injEq, Prod.mk.injEq] at h
        obtain ⟨rfl, rfl⟩ := h
        exact sound_indexAddr_o hT ho hx hy ht hc.2 hc.1 hp.1 hp.2
      · cases h
    · cases h
  case index t x y =>
    split at h
    · rename_i b k n ht hx hy
      simp only [Option.some.injEq, Prod.mk.injEq] at h
      obtain ⟨rfl, rfl⟩ := h
      exact sound_index hT ho hx hy ht hp.1 hp.2
    · cases h
  case load t x =>
    split at h
    · cases h
    · rename_i cs fs hx ht
      simp only [Option.some.injEq, Prod.mk.injEq] at h
      obtain ⟨rfl, rfl⟩ := h
      exact sound_load_agg hT ho hx ht hp
    · rename_i cs hx hk1 hk2
      split at h
      · rename_i y ys
        simp only [Option.some.injEq, Prod.mk.injEq] at h
        obtain ⟨_, rfl⟩ := h
        refine sound_load_one hT ho hx hk1 ?_
        cases hkk : (tys t).k <;> first | rfl | exact absurd hkk (hk2 _)
      · cases h
    · cases h
  case box t x =>
    split at h
    · split at h
      · rename_i y hx
        split at h
        · rename_i cs hc
          split at h
          · rename_i hn
            simp only [Option.some.injEq, Prod.mk.injEq] at h
            obtain ⟨_, rfl⟩ := h
            exact sound_box ho hx hc hn
          · cases h
        · cases h
      · cases h
    · cases h
  case build t parts =>
    split at h
    · rename_i fs ps ht hx
      split at h
      · rename_i cs hf
        split at h
        · rename_i hk
          simp only [Option.some.injEq, Prod.mk.injEq] at h
          obtain ⟨_, rfl⟩ := h
          exact sound_build hT ho hx ht hf hk
        · cases h
      · cases h
    · cases h
  case buildSlice t len parts =>
    split at h
    · split at h
      · rename_i e ps ht hx
        split at h
        · cases h
        · rename_i hk
          simp only [not_or, Nat.not_lt] at hk
          split at h
          · rename_i els hf
            split at h
            · rename_i hn
              simp only [Option.some.injEq, Prod.mk.injEq] at h
              obtain ⟨_, rfl⟩ := h
              exact sound_buildSlice hT ho hx ht hk.1 hk.2.1 hk.2.2 hf hn
            · cases h
          · cases h
      · cases h
    · cases h
  case extract x i =>
    split at h
    · rename_i vs hx
      split at h
      · rename_i y hy
        simp only [Option.some.injEq, Prod.mk.injEq] at h
        obtain ⟨_, rfl⟩ := h
        exact sound_extract ho hx hy
      · cases h
    · cases h
  case makeFunc f first cap =>
    cases f <;> (try (cases h; done))
    simp only at h
    split at h
    · rename_i hf
      split at h
      · rename_i vs hx
        split at h
        · rename_i h1
          simp only [Option.some.injEq, Prod.mk.injEq] at h
          obtain ⟨_, rfl⟩ := h
          exact sound_makeFunc ho hf hx h1
        · cases h
      · cases h
    · cases h
  case call c =>
    obtain ⟨callee, args, argTypes⟩ := c
    cases callee <;> (try (cases h; done))
    rename_i b
    cases b <;> (try (cases h; done))
    simp only at h
    split at h
    · rename_i x t ha hat
      split at h
      · rename_i b hx ht
        simp only [Option.some.injEq, Prod.mk.injEq] at h
        obtain ⟨_, rfl⟩ := h
        refine sound_len hT ho ha hat hx (.inr trivial) fun c u hu => ?_
        simp only [R] at hu
        obtain ⟨rfl, hs⟩ := hu
        unfold maxLen at hs
        exact ⟨by simp only [InK]; omega, by simp [Builtin.len_, run_underlying (sig_str hT ht), goInt]⟩
      · rename_i sz els e hx ht
        simp only [Option.some.injEq, Prod.mk.injEq] at h
        obtain ⟨_, rfl⟩ := h
        refine sound_len hT ho ha hat hx (.inr trivial) fun c u hu => ?_
        simp only [R] at hu
        obtain ⟨a, cap, rfl, h1, h2, _⟩ := hu
        unfold maxLen at h2
        exact ⟨by simp only [InK]; omega, by simp [Builtin.len_, run_underlying (sig_slice hT ht), goInt]⟩
      · rename_i l u j n sz e hx ht
        simp only [Option.some.injEq, Prod.mk.injEq] at h
        obtain ⟨_, rfl⟩ := h
        refine sound_len hT ho ha hat hx (.inr trivial) fun c u hu => ?_
        simp only [R] at hu
        obtain ⟨L, a, cap, _, _, rfl, h1, h2, _⟩ := hu
        unfold maxLen at h2
        exact ⟨by simp only [InK]; omega, by simp [Builtin.len_, run_underlying (sig_slice hT ht), goInt]⟩
      · rename_i e hx ht
        simp only [Option.some.injEq, Prod.mk.injEq] at h
        obtain ⟨_, rfl⟩ := h
        refine sound_len hT ho ha hat hx (.inr trivial) fun c u hu => ?_
        simp only [R] at hu
        subst hu
        exact ⟨by simp only [InK]; omega, by simp [Builtin.len_, run_underlying (sig_slice hT ht), goInt]⟩
      · rename_i kt et hx ht
        simp only [Option.some.injEq, Prod.mk.injEq] at h
        obtain ⟨_, rfl⟩ := h
        refine sound_len hT ho ha hat hx (.inr trivial) fun c u hu => ?_
        simp only [R] at hu
        subst hu
        exact ⟨by simp only [InK]; omega, by simp [Builtin.len_, run_underlying (sig_map hT ht), goInt]⟩
      · cases h
    · cases h
  all_goals cases h

end
end Go.L1
