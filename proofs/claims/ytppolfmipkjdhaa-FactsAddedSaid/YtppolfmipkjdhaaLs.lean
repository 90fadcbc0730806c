import Derived.Test.YtppolfmipkjdhaaLr
import Derived.Deep.LoopGhost
/-! L1, part s: what is to be shown of a piece of code; of a function. -/
set_option linter.all false
namespace Go.L1
open Go.RowKit
variable [Zero Prop]

abbrev Post := Exit → Env → Heap → Nat → Prop

def thenQ (K : Env → Heap → Nat → Prop) (Q : Post) : Post
  | .normal, T, H, nx => K T H nx
  | e, T, H, nx => Q e T H nx

def inBlockQ (id : Nat) (Q : Post) : Post
  | .exit id', T, H, nx => if id' = id then Q .normal T H nx else Q (.exit id') T H nx
  | e, T, H, nx => Q e T H nx

/-- nil slices, from here on seen as empty rows that are owned: temporary, type of the elements, their size. -/
def convs : List (Nat × Nat × Nat) → Env → Heap → Nat → (Env → Heap → Nat → Prop) → Prop
  | [], T, H, nx, K => K T H nx
  | (t, e, sz) :: r, T, H, nx, K => T.get t = some .nilS ∧ 0 < sz ∧ convs r (T.put (some t) (.sl nx 0 0 0 sz)) ((nx, 0, .row e []) :: H) (nx + 1) K

/-- The environment T says all that E says (what is let go is told by what it holds; names beyond N are not told). -/
def Sub (T : Env) (rest : Heap) (N : Nat) : Env → Prop
  | [] => True
  | (t, x) :: E => (∃ v, T.get t = some v ∧ (frV rest v = x ∨ (v = .nilS ∧ ∃ sz, x = .dsl sz []))) ∧ bl N x = true ∧ Sub T rest N E

def Weak (T : Env) (H : Heap) (E : Env) (G : Heap) (N : Nat) : Prop :=
  ∃ rest, H.Perm (G ++ rest) ∧ Sub T rest N E ∧ ∀ e ∈ G, e.1 < N ∧ blB N e.2.2 = true

/-- A loop. -/
def LoopK (body : Post → Env → Heap → Nat → Prop) (Q : Post) (T : Env) (H : Heap) (nx : Nat) : Prop :=
  ∃ (ι : Type) (E : ι → Env) (G : ι → Heap) (N : Nat) (μ : ι → Nat) (cv : List (Nat × Nat × Nat)),
    convs cv T H nx (fun T1 H1 nx1 => nx1 ≤ N ∧ ∃ i, Weak T1 H1 (E i) (G i) N) ∧
    ∀ i, (∀ t x, (E i).get t = some x → Wf x) → body (thenQ (fun T' H' nx' => ∃ j, μ j < μ i ∧ Weak T' H' (E j) (G j) N) Q) (E i) (G i) N

def vc (P : Program) (tys : Nat → TI) (ro : Nat → Bool) (n : Nat) : Code → Post → Env → Heap → Nat → Prop
  | .skip, Q, T, H, nx => Q .normal T H nx
  | .label _, Q, T, H, nx => Q .normal T H nx
  | .exit id, Q, T, H, nx => Q (.exit id) T H nx
  | .ret, Q, T, H, nx => Q .ret T H nx
  | .region _ ops draw, Q, T, H, nx =>
    match draw with
    | true => vcOps P tys ro false n ops (fun T H nx tl => drawOk ops tl = true ∧ Q .normal T H nx) ops.toList 0 T H nx []
    | false => vcOps P tys ro true n ops (fun T H nx _ => Q .normal T H nx) ops.toList 0 T H nx []
  | .seq a b, Q, T, H, nx => vc P tys ro n a (thenQ (vc P tys ro n b Q) Q) T H nx
  | .cond c a b, Q, T, H, nx =>
    match c with
    | .tmp d => match T.get d with
      | some (.b x) => (x = true → vc P tys ro n a Q (T.put (some d) (.b true)) H nx) ∧ (x = false → vc P tys ro n b Q (T.put (some d) (.b false)) H nx)
      | _ => False
    | _ => match ev T c with
      | some (.b x) => (x = true → vc P tys ro n a Q T H nx) ∧ (x = false → vc P tys ro n b Q T H nx)
      | _ => False
  | .block id c, Q, T, H, nx => vc P tys ro n c (inBlockQ id Q) T H nx
  | .loop c, Q, T, H, nx => LoopK (vc P tys ro n c) Q T H nx
  | _, _, _, _, _ => False

theorem Evo.forget {F : Nat → Prop} {ρ0 H0 nx0 w0 ρ H nx w ρ' n} (hs0 : ∀ l u, nx0 ≤ l → ρ0 l u = none) (h : Evo ρ0 H0 nx0 w0 ρ H nx w) (hn : nx0 ≤ n) (hin : ∀ l u, l < n → ρ' l u = ρ l u) (hout : ∀ l u, n ≤ l → ρ' l u = none)
    (hown : ∀ b, owns ρ' H b → owns ρ H b) : Evo ρ0 H0 nx0 w0 ρ' H n w where
  os := h.os
  tape := h.tape
  output := h.output
  drawn := h.drawn
  size := h.size
  keep := h.keep
  own b hb := h.own b (hown b hb)
  name l u L hL := by
    have : l < nx0 := by
      rcases Nat.lt_or_ge l nx0 with k | k
      · exact k
      · rw [hs0 l u k] at hL; cases hL
    rw [hin l u (by omega)]
    exact h.name l u L hL
  newn l u L hL := by
    rcases Nat.lt_or_ge l n with k | k
    · rw [hin l u k] at hL; exact h.newn l u L hL
    · rw [hout l u k] at hL; cases hL
  ids := h.ids
  nx := hn

section
variable {P : Program} {tys : Nat → TI}

theorem Sub.get {T : Env} {rest : Heap} {N : Nat} : ∀ {E : Env}, Sub T rest N E → ∀ t x, E.get t = some x → ∃ v, T.get t = some v ∧ (frV rest v = x ∨ (v = .nilS ∧ ∃ sz, x = .dsl sz [])) ∧ bl N x = true
  | [], _, _, _, hx => by simp [Env.get] at hx
  | (k, y) :: E, h, t, x, hx => by
    simp only [Env.get] at hx
    split at hx
    · rename_i hk; subst hk
      simp only [Option.some.injEq] at hx; subst hx
      obtain ⟨⟨v, h1, h2⟩, h3, _⟩ := h
      exact ⟨v, h1, h2, h3⟩
    · exact Sub.get h.2.2 t x hx

/-- What is carried along, and that names from where one began on were free. -/
def Lift2 (F : Nat → Prop) (ρ0 : Names) (H0 : Heap) (nx0 : Nat) (w0 : World) (n : Nat) (T : Env) (H : Heap) (nx : Nat) (a : Act) (w : World) : Prop :=
  Lift F ρ0 H0 nx0 w0 n T H nx a w ∧ nx0 ≤ nx

theorem St.weak {F ρ H nx w} (hs : St F ρ H nx w) {G rest : Heap} {N : Nat} (hp : H.Perm (G ++ rest)) (hb : ∀ e ∈ G, e.1 < N ∧ blB N e.2.2 = true) {ρ0 H0 nx0 w0} (hs0 : ∀ l u, nx0 ≤ l → ρ0 l u = none) (hv : Evo ρ0 H0 nx0 w0 ρ H nx w) (hn : nx0 ≤ N) :
    ∃ ρ', St F ρ' G N w ∧ Evo ρ0 H0 nx0 w0 ρ' G N w ∧ ∀ x v, bl N (frV rest x) = true → R (ctx F ρ H w) x v → R (ctx F ρ' G w) (frV rest x) v := by
  have hs1 := hs.perm hp
  have hids : (G.map (·.1)).Nodup := by
    have := hs1.ids
    rw [List.map_append, List.nodup_append] at this
    exact this.1
  obtain ⟨hs2, hv2, hl2⟩ := hs1.sub (H' := G) (fun e he => List.mem_append.2 (.inl he)) hids
  obtain ⟨ρ', hs3, hc3, hin⟩ := hs2.forget hb
  have hv1 : Evo ρ0 H0 nx0 w0 ρ G nx w := (hv.perm (.refl _) hp).trans hv2
  refine ⟨ρ', hs3, ?_, ?_⟩
  · refine Evo.forget (F := F) hs0 hv1 hn hin hs3.fresh fun b => ?_
    rintro ⟨e, he, L, hL, h⟩
    rw [hin _ _ (hb e he).1] at hL
    exact ⟨e, he, L, hL, h⟩
  · intro x v hbx hR
    rw [ctx_perm hp] at hR
    have := R.fr hs1 hl2 x v hR
    rw [hc3]
    exact R.cut N _ _ hbx this

theorem convs_sound {K : Env → Heap → Nat → Prop} {F : Nat → Prop} {ρ0 : Names} {H0 : Heap} {nx0 : Nat} {w0 : World} {n : Nat} {a : Act} {w : World} : ∀ (cv : List (Nat × Nat × Nat)) (T : Env) (H : Heap) (nx : Nat), convs cv T H nx K → Lift F ρ0 H0 nx0 w0 n T H nx a w →
    ∃ T1 H1 nx1, K T1 H1 nx1 ∧ nx ≤ nx1 ∧ Lift F ρ0 H0 nx0 w0 n T1 H1 nx1 a w
  | [], T, H, nx, h, hl => ⟨T, H, nx, h, Nat.le_refl _, hl⟩
  | (t, e, sz) :: r, T, H, nx, h, ⟨ρ, hs, he, hv, hd⟩ => by
    obtain ⟨h1, h2, h3⟩ := h
    obtain ⟨hs1, hv1, hR⟩ := hs.empty e sz h2
    obtain ⟨T1, H1, nx1, g1, g2, g3⟩ := convs_sound r _ _ _ h3 ⟨_, hs1, ⟨he.size, fun t' x hx => by
      rw [get_put] at hx
      split at hx
      · rename_i k; subst k
        simp only [Option.some.injEq] at hx; subst hx
        obtain ⟨v, k1, k2⟩ := he.get t _ h1
        simp only [R] at k2
        subst k2
        exact ⟨_, k1, hR⟩
      · obtain ⟨v, k1, k2⟩ := he.get t' x hx
        exact ⟨v, k1, R.lasts hv1.lasts _ _ k2⟩⟩, hv.trans hv1, hd⟩
    exact ⟨T1, H1, nx1, g1, by omega, g3⟩

theorem vc_sound (hT : Sig P tys) (hmix : P.follows .mixedOrders = true) {ro : Nat → Bool} {n : Nat} {F : Nat → Prop} {ρ0 : Names} {H0 : Heap} {nx0 : Nat} {w0 : World} (hs0 : ∀ l u, nx0 ≤ l → ρ0 l u = none) :
    ∀ (c : Code) (Q : Post) (Q' : Exit → Act → World → Prop) (T : Env) (H : Heap) (nx : Nat) (a : Act) (w : World),
      (∀ e T H nx a w, Q e T H nx → Lift F ρ0 H0 nx0 w0 n T H nx a w → Q' e a w) → vc P tys ro n c Q T H nx → Lift F ρ0 H0 nx0 w0 n T H nx a w → c.wp P Q' a w
  | .skip, Q, Q', T, H, nx, a, w, hQ, h, hl => wp_skip (hQ _ _ _ _ _ _ h hl)
  | .label _, Q, Q', T, H, nx, a, w, hQ, h, hl => wp_label (hQ _ _ _ _ _ _ h hl)
  | .exit _, Q, Q', T, H, nx, a, w, hQ, h, hl => wp_exit (hQ _ _ _ _ _ _ h hl)
  | .ret, Q, Q', T, H, nx, a, w, hQ, h, hl => wp_ret (hQ _ _ _ _ _ _ h hl)
  | .region _ ops true, Q, Q', T, H, nx, a, w, hQ, h, hl => draw_sound hT hmix (fun T H nx tl a w k g => hQ _ _ _ _ _ _ k g) h hl
  | .region _ ops false, Q, Q', T, H, nx, a, w, hQ, h, hl => wp_region_list (vcOps_sound hT (fun T H nx tl a w k g => hQ _ _ _ _ _ _ k g) _ _ _ _ _ _ _ _ h hl)
  | .seq x y, Q, Q', T, H, nx, a, w, hQ, h, hl => by
    refine wp_seq (vc_sound hT hmix hs0 x _ _ T H nx a w ?_ h hl)
    intro e T1 H1 nx1 a1 w1 k g
    cases e with
    | normal => exact vc_sound hT hmix hs0 y Q Q' T1 H1 nx1 a1 w1 hQ k g
    | _ => exact hQ _ _ _ _ _ _ k g
  | .cond c x y, Q, Q', T, H, nx, a, w, hQ, h, ⟨ρ, hs, he, hv, hd⟩ => by
    simp only [vc] at h
    split at h
    · rename_i d
      split at h
      · rename_i b hb
        obtain ⟨u, hu, hR⟩ := he.get d _ hb
        simp only [R] at hR
        subst hR
        have hev : a.eval (.tmp d) = .bool b := by simp [Act.eval, hu]
        refine wp_cond_split hev (fun ht => ?_) fun hf => ?_
        · subst ht
          exact vc_sound hT hmix hs0 x Q Q' _ H nx a w hQ (h.1 rfl) ⟨ρ, hs, env_same he (put_same hb), hv, hd⟩
        · subst hf
          exact vc_sound hT hmix hs0 y Q Q' _ H nx a w hQ (h.2 rfl) ⟨ρ, hs, env_same he (put_same hb), hv, hd⟩
      · exact h.elim
    · split at h
      · rename_i b hb
        have hR := ev_R (ts := tmpsOf [c]) (he.holds _) hb (fun t ht => by subst ht; simp [tmpsOf])
        simp only [R] at hR
        refine wp_cond_split hR (fun ht => ?_) fun hf => ?_
        · exact vc_sound hT hmix hs0 x Q Q' _ H nx a w hQ (h.1 ht) ⟨ρ, hs, he, hv, hd⟩
        · exact vc_sound hT hmix hs0 y Q Q' _ H nx a w hQ (h.2 hf) ⟨ρ, hs, he, hv, hd⟩
      · exact h.elim
  | .block id c, Q, Q', T, H, nx, a, w, hQ, h, hl => by
    refine wp_block (vc_sound hT hmix hs0 c _ _ T H nx a w ?_ h hl)
    intro e T1 H1 nx1 a1 w1 k g
    cases e with
    | exit id' =>
      simp only [inBlockQ] at k
      simp only [Exit.inBlock]
      split
      · rename_i hi; rw [if_pos hi] at k; exact hQ _ _ _ _ _ _ k g
      · rename_i hi; rw [if_neg hi] at k; exact hQ _ _ _ _ _ _ k g
    | _ => exact hQ _ _ _ _ _ _ k g
  | .loop c, Q, Q', T, H, nx, a, w, hQ, h, hl => by
    obtain ⟨ι, E, G, N, μ, cv, h1, h2⟩ := h
    obtain ⟨T1, H1, nx1, ⟨hN, i0, hw0⟩, hle, hl1⟩ := convs_sound cv T H nx h1 hl
    have weak : ∀ {T1 H1 nx1 a w} i, nx0 ≤ N → Weak T1 H1 (E i) (G i) N → Lift F ρ0 H0 nx0 w0 n T1 H1 nx1 a w → Lift F ρ0 H0 nx0 w0 n (E i) (G i) N a w := by
      rintro T1 H1 nx1 a w i hn ⟨rest, hp, hsub, hb⟩ ⟨ρ, hs, he, hv, hd⟩
      obtain ⟨ρ', g1, g2, g3⟩ := hs.weak hp hb hs0 hv hn
      refine ⟨ρ', g1, ⟨he.size, fun t x hx => ?_⟩, g2, hd⟩
      obtain ⟨v, k1, k2, k3⟩ := hsub.get t x hx
      obtain ⟨u, m1, m2⟩ := he.get t v k1
      rcases k2 with k2 | ⟨rfl, sz, rfl⟩
      · exact ⟨u, m1, by rw [← k2] at k3 ⊢; exact g3 v u k3 m2⟩
      · refine ⟨u, m1, ?_⟩
        simp only [R] at m2 ⊢
        subst m2
        exact ⟨none, 0, by simp, Nat.le_refl _, by unfold maxLen; omega, .inl trivial⟩
    have hn : nx0 ≤ N := by
      obtain ⟨ρ, hs, he, hv, hd⟩ := hl1
      exact Nat.le_trans hv.nx hN
    refine wp_loop_ghost (fun k a w => ∃ i, μ i = k ∧ Lift F ρ0 H0 nx0 w0 n (E i) (G i) N a w) (μ i0) ⟨i0, rfl, weak i0 hn hw0 hl1⟩ ?_
    rintro k a1 w1 ⟨i, rfl, hli⟩
    have hwf : ∀ t x, (E i).get t = some x → Wf x := fun t x hx => by
      obtain ⟨ρ, hs, he, hv, hd⟩ := hli
      obtain ⟨u, _, m2⟩ := he.get t x hx
      exact m2.wf
    refine vc_sound hT hmix hs0 c _ _ (E i) (G i) N a1 w1 ?_ (h2 i hwf) hli
    intro e T2 H2 nx2 a2 w2 k g
    cases e with
    | normal =>
      obtain ⟨j, hj, hwj⟩ := k
      exact ⟨μ j, hj, j, rfl, weak j hn hwj g⟩
    | _ => exact hQ _ _ _ _ _ _ k g

/-! ### Functions -/
def argEnv : Nat → List V → Env
  | _, [] => []
  | i, a :: as => (i, a) :: argEnv (i + 1) as

def resK (tys : Nat → TI) (T : Env) (H : Heap) : List ResultVar → (List V → Prop) → Prop
  | [], K => K []
  | .tmp t :: rs, K => match T.get t with
    | some v => resK tys T H rs fun vs => K (v :: vs)
    | none => False
  | .cell a t :: rs, K => match T.get a with
    | some (.ptr l u j f) => match hget H l u with
      | some (.row _ els) => ∃ el, els[j]? = some el ∧
        match (tys t).k with
        | .other => False
        | .struct _ => f + (tys t).size ≤ el.length ∧ resK tys T H rs fun vs => K (.agg ((el.drop f).take (tys t).size) :: vs)
        | _ => ∃ v, el[f]? = some v ∧ resK tys T H rs fun vs => K (v :: vs)
      | _ => False
    | _ => False

def packV : List V → V
  | [v] => v
  | vs => .tup vs

/-- What is handed back. -/
def Fin (v : V) (H : Heap) (v' : V) (H' : Heap) (nx' : Nat) : Prop :=
  ∃ rest, H.Perm (H' ++ rest) ∧ frV rest v = v' ∧ bl nx' v' = true ∧ ∀ e ∈ H', e.1 < nx' ∧ blB nx' e.2.2 = true

def fnPost (tys : Nat → TI) (rs : List ResultVar) (v' : V) (H' : Heap) (nx' : Nat) : Post
  | .normal, T, H, _ => resK tys T H rs fun vs => Fin (packV vs) H v' H' nx'
  | .ret, T, H, _ => resK tys T H rs fun vs => Fin (packV vs) H v' H' nx'
  | _, _, _, _ => False

end
end Go.L1
