import Derived.Test.YtppolfmipkjdhaaLo
import Derived.Orders
/-! L1, part p: a region: in the text's order; in whatever order its edges allow. -/
set_option linter.all false
namespace Go.L1
open Go.RowKit
variable [Zero Prop]

def dstOf (ops : Array Oper) (j : Nat) : Option Nat := (ops[j]?).bind (·.dst)

/-- What is to be shown of a region's operations, one behind the other. tl: which ones touched what is owned. -/
def vcOps (P : Program) (tys : Nat → TI) (ro : Nat → Bool) (wf : Bool) (n : Nat) (ops : Array Oper) (K : Env → Heap → Nat → List Nat → Prop) :
    List Oper → Nat → Env → Heap → Nat → List Nat → Prop
  | [], _, T, H, nx, tl => K T H nx tl
  | o :: rest, i, T, H, nx, tl =>
    (∀ d, o.dst = some d → d < n) ∧
    match o.guard with
    | none => vcOp P tys (ro (o.dst.getD 0)) wf o T H nx fun v H' nx' t => vcOps P tys ro wf n ops K rest (i + 1) (T.put o.dst v) H' nx' (if t then i :: tl else tl)
    | some (j, want) =>
      match dstOf ops j with
      | none => False
      | some d => match T.get d with
        | some (.b x) =>
          (x = want → vcOp P tys (ro (o.dst.getD 0)) wf o (T.put (some d) (.b want)) H nx fun v H' nx' t => vcOps P tys ro wf n ops K rest (i + 1) ((T.put (some d) (.b want)).put o.dst v) H' nx' (if t then i :: tl else tl)) ∧
          (x = !want → vcOps P tys ro wf n ops K rest (i + 1) ((T.put (some d) (.b (!want))).put o.dst (.tup [])) H nx tl)
        | some (.tup []) => vcOps P tys ro wf n ops K rest (i + 1) (T.put o.dst (.tup [])) H nx tl
        | _ => False

section
variable {P : Program} {tys : Nat → TI}

theorem get_put (T : Env) (d : Nat) (v : V) (t : Nat) : (T.put (some d) v).get t = if d = t then some v else T.get t := rfl

theorem PStep.congr {o : Oper} {T T' : Env} {v : V} (h : PStep P o T v) (ht : ∀ t, T.get t = T'.get t) : PStep P o T' v :=
  fun F ρ H nx w a hs hh next Q k => h F ρ H nx w a hs (fun t htm x hx => hh t htm x (by rw [← ht]; exact hx)) next Q k
theorem HStep.congr {o : Oper} {T T' : Env} {v : V} {H H' : Heap} {nx nx' : Nat} (h : HStep P o T H nx v H' nx') (ht : ∀ t, T.get t = T'.get t) : HStep P o T' H nx v H' nx' :=
  fun F ρ w a hs hh next Q k => h F ρ w a hs (fun t htm x hx => hh t htm x (by rw [← ht]; exact hx)) next Q k

theorem yielded_at {ops : Array Oper} {tmps : Array Value} {j d : Nat} {x : Bool} (hd : dstOf ops j = some d) (ht : tmps[d]? = some (.bool x)) : yielded ops tmps j = some x := by
  unfold yielded dstOf at *
  rw [hd]
  simp [ht]

/-- What is carried along: the state, seen from where one began. -/
def Lift (F : Nat → Prop) (ρ0 : Names) (H0 : Heap) (nx0 : Nat) (w0 : World) (n : Nat) (T : Env) (H : Heap) (nx : Nat) (a : Act) (w : World) : Prop :=
  ∃ ρ, St F ρ H nx w ∧ EnvRel (ctx F ρ H w) n T a.tmps ∧ Evo ρ0 H0 nx0 w0 ρ H nx w ∧ a.defers = []

theorem Lift.start {F ρ H nx w n T} {a : Act} (hs : St F ρ H nx w) (he : EnvRel (ctx F ρ H w) n T a.tmps) (hd : a.defers = []) : Lift F ρ H nx w n T H nx a w :=
  ⟨ρ, hs, he, Evo.refl _ _ _ _, hd⟩

theorem put_tmps (a : Act) (d : Option Tmp) (v : Value) : (a.put d v).tmps = ((⟨a.tmps, []⟩ : Act).put d v).tmps := by cases d <;> rfl
theorem put_defers (a : Act) (d : Option Tmp) (v : Value) : (a.put d v).defers = a.defers := by cases d <;> rfl

theorem yielded_undef {ops : Array Oper} {tmps : Array Value} {j d : Nat} (hd : dstOf ops j = some d) (ht : tmps[d]? = some (.tuple #[])) : yielded ops tmps j = none := by
  unfold yielded dstOf at *
  rw [hd]
  simp [ht]

theorem R_undef (c : Ctx) : R c (.tup []) undef := by simp only [R, Rt]; exact ⟨#[], rfl, rfl⟩

theorem env_same {c : Ctx} {n : Nat} {T T' : Env} {tmps : Array Value} (h : EnvRel c n T tmps) (ht : ∀ t, T'.get t = T.get t) : EnvRel c n T' tmps :=
  ⟨h.size, fun t x hx => h.get t x (by rw [← ht]; exact hx)⟩

theorem put_same {T : Env} {d : Nat} {v : V} (h : T.get d = some v) (t : Nat) : (T.put (some d) v).get t = T.get t := by
  rw [get_put]; split
  · rename_i e; subst e; exact h.symm
  · rfl

/-- In the text's order. -/
theorem vcOps_sound (hT : Sig P tys) {ro : Nat → Bool} {wf : Bool} {n : Nat} {ops : Array Oper} {K : Env → Heap → Nat → List Nat → Prop} {F : Nat → Prop} {ρ0 : Names} {H0 : Heap} {nx0 : Nat} {w0 : World} {Q : Exit → Act → World → Prop}
    (hQ : ∀ T H nx tl a w, K T H nx tl → Lift F ρ0 H0 nx0 w0 n T H nx a w → Q .normal a w) :
    ∀ (l : List Oper) (i : Nat) (T : Env) (H : Heap) (nx : Nat) (tl : List Nat) (a : Act) (w : World), vcOps P tys ro wf n ops K l i T H nx tl → Lift F ρ0 H0 nx0 w0 n T H nx a w → wpList P ops Q l a w
  | [], _, T, H, nx, tl, a, w, h, hl => hQ T H nx tl a w h hl
  | o :: rest, i, T, H, nx, tl, a, w, h, ⟨ρ, hs, he, hv, hd⟩ => by
    simp only [vcOps] at h
    obtain ⟨hdst, h⟩ := h
    -- one operation
    have step : ∀ T', (∀ t, T'.get t = T.get t) → vcOp P tys (ro (o.dst.getD 0)) wf o T' H nx (fun v H' nx' t => vcOps P tys ro wf n ops K rest (i + 1) (T'.put o.dst v) H' nx' (if t then i :: tl else tl)) →
        o.wp P a w (wpList P ops Q rest) Q := by
      intro T' hT' hop
      obtain ⟨v, H', nx', t, h1, h2, _, h3⟩ := vcOp_sound hT hop
      have he' := env_same he hT'
      have go : ∀ ρ' v' w', St F ρ' H' nx' w' → Evo ρ H nx w ρ' H' nx' w' → R (ctx F ρ' H' w') v v' → wpList P ops Q rest (a.put o.dst v') w' := by
        intro ρ' v' w' g1 g2 g3
        refine vcOps_sound hT hQ rest (i + 1) _ _ _ _ _ _ (h3 fun _ => g3.wf) ⟨ρ', g1, ?_, hv.trans g2, by rw [put_defers]; exact hd⟩
        rw [put_tmps]
        exact (he'.lasts g2.lasts).put g3 hdst
      cases t with
      | false =>
        obtain ⟨rfl, rfl, hp⟩ := h1 rfl
        exact hp F ρ _ _ w a hs (he'.holds _) _ _ fun v' w' g1 g2 g3 => go ρ v' w' g1 g2 g3
      | true => exact h2 rfl F ρ w a hs (he'.holds _) _ _ fun ρ' v' w' g1 g2 g3 => go ρ' v' w' g1 g2 g3
    cases hg : o.guard with
    | none =>
      rw [hg] at h
      unfold wpList
      rw [if_pos (by simp [Region.wanted, hg])]
      exact .inl (step T (fun _ => rfl) h)
    | some jw =>
      obtain ⟨j, want⟩ := jw
      rw [hg] at h
      simp only at h
      split at h
      · exact h.elim
      · rename_i d hdj
        split at h
        · rename_i x hx
          obtain ⟨u, hu, hR⟩ := he.get d _ hx
          simp only [R] at hR
          subst hR
          have hy := yielded_at hdj hu
          unfold wpList
          by_cases hxw : x = want
          · subst hxw
            rw [if_pos (by simp [Region.wanted, hg, hy])]
            exact .inl (step _ (put_same hx) (h.1 rfl))
          · have hxw2 : x = !want := by cases x <;> cases want <;> simp at hxw ⊢
            rw [if_neg (by simp [Region.wanted, hg, hy, hxw])]
            refine vcOps_sound hT hQ rest (i + 1) _ _ _ _ _ _ (h.2 hxw2) ⟨ρ, hs, ?_, hv, by rw [put_defers]; exact hd⟩
            rw [put_tmps]
            subst hxw2
            exact (env_same he (put_same hx)).put (R_undef _) hdst
        · rename_i hx
          obtain ⟨u, hu, hR⟩ := he.get d _ hx
          simp only [R, Rt] at hR
          obtain ⟨vs, rfl, hvs⟩ := hR
          have hvs2 : vs = #[] := by simpa using hvs
          subst hvs2
          have hy := yielded_undef hdj hu
          unfold wpList
          rw [if_neg (by simp [Region.wanted, hg, hy])]
          refine vcOps_sound hT hQ rest (i + 1) _ _ _ _ _ _ h ⟨ρ, hs, ?_, hv, by rw [put_defers]; exact hd⟩
          rw [put_tmps]
          exact he.put (R_undef _) hdst
        · exact h.elim

end
end Go.L1
