import Derived.Test.YtppolfmipkjdhaaLe
/-! L1, part f: what part d says of an operation is so (the rest). -/
set_option linter.all false
namespace Go.L1
open Go.RowKit
variable [Zero Prop]

section
variable {P : Program} {tys : Nat → TI} {T : Env} {o : Oper}

theorem add_at (b f j : Nat) : (⟨b, f, none⟩ : Addr).add j = ⟨b, f + j, none⟩ := by unfold Addr.add; split <;> simp_all

theorem sig_field (hT : Sig P tys) {t f ft off : Nat} {fs : List (Nat × Nat)} (h : (tys t).k = .struct fs) (hf : fs[f]? = some (ft, off)) :
    ∃ fields fd, P.underlying t = some (.struct fields) ∧ fields[f]? = some fd ∧ fd.type = ft ∧ fd.offset = off := by
  obtain ⟨fields, h1, h2⟩ := sig_struct hT h
  rw [← h2] at hf
  simp only [List.getElem?_map, Option.map_eq_some_iff, Prod.mk.injEq] at hf
  obtain ⟨fd, h3, h4, h5⟩ := hf
  exact ⟨fields, fd, h1, by simpa using h3, h4, h5⟩

theorem sound_field (hT : Sig P tys) {t f ft off : Nat} {x : Operand} {fs : List (Nat × Nat)} {cs : List V} {v : V} (ho : o.op = .field t x f) (hx : ev T x = some (.agg cs))
    (ht : (tys t).k = .struct fs) (hf : fs[f]? = some (ft, off)) (hk : (tys ft).k ≠ .other)
    (hv : (isAggK (tys ft).k = true ∧ off + (tys ft).size ≤ cs.length ∧ v = .agg ((cs.drop off).take (tys ft).size)) ∨ (isAggK (tys ft).k = false ∧ cs[off]? = some v)) : PStep P o T v := by
  obtain ⟨fields, fd, hu, hfd, rfl, rfl⟩ := sig_field hT ht hf
  refine PStep.val fun c a hh => ?_
  have h1 := ev_R hh hx (fun t ht => mem_tmpsOf (x := x) (by simp [ho, Op.operands]) ht)
  simp only [R] at h1
  obtain ⟨vs, he, hr⟩ := h1
  rcases hv with ⟨ha, hl, rfl⟩ | ⟨ha, hg⟩
  · refine ⟨.agg (vs.extract fd.offset (fd.offset + (tys fd.type).size)), ?_, ?_⟩
    · simp only [R]
      refine ⟨_, rfl, ?_⟩
      have := (hr.drop fd.offset).take (tys fd.type).size
      simpa [Array.toList_extract, List.extract_eq_take_drop] using this
    · simp [execOp, ho, he, Instr.field, run_underlying hu, hfd, asAgg, part, sig_isAgg hT hk, ha, sig_size hT hk]
  · obtain ⟨u, hu2, _, hR⟩ := hr.get hg
    refine ⟨u, hR, ?_⟩
    have hu3 : vs[fd.offset]? = some u := by simpa using hu2
    simp [execOp, ho, he, Instr.field, run_underlying hu, hfd, asAgg, part, sig_isAgg hT hk, ha, hu3]

theorem sound_fieldAddr (hT : Sig P tys) {t f ft off : Nat} {x : Operand} {fs : List (Nat × Nat)} {vx v : V} (ho : o.op = .fieldAddr t x f) (hx : ev T x = some vx)
    (ht : (tys t).k = .struct fs) (hf : fs[f]? = some (ft, off)) (hk : (tys ft).k ≠ .other) (hz : (tys ft).size ≠ 0)
    (hv : (∃ cs, vx = .dptr cs ∧ v = .dptr (cs.drop off)) ∨ (∃ l u j g, vx = .ptr l u j g ∧ v = .ptr l u j (g + off))) : PStep P o T v := by
  obtain ⟨fields, fd, hu, hfd, rfl, rfl⟩ := sig_field hT ht hf
  refine PStep.val fun c a hh => ?_
  have h1 := ev_R hh hx (fun t ht => mem_tmpsOf (x := x) (by simp [ho, Op.operands]) ht)
  rcases hv with ⟨cs, rfl, rfl⟩ | ⟨l, u, j, g, rfl, rfl⟩ <;> simp only [R] at h1
  · obtain ⟨b, g, he, hc⟩ := h1
    refine ⟨.pointer (some ⟨b, g + fd.offset, none⟩), ?_, ?_⟩
    · simp only [R]; exact ⟨b, _, rfl, hc.drop _⟩
    · simp [execOp, ho, he, Instr.fieldAt, run_underlying hu, hfd, Instr.sureAddr, fieldPlace, sig_size hT hk, hz, add_at]
  · obtain ⟨L, hL, he⟩ := h1
    refine ⟨.pointer (some ⟨L.blk, L.base + j * L.sz + (g + fd.offset), none⟩), ?_, ?_⟩
    · simp only [R]; exact ⟨L, hL, rfl⟩
    · simp [execOp, ho, he, Instr.fieldAt, run_underlying hu, hfd, Instr.sureAddr, fieldPlace, sig_size hT hk, hz, add_at, Nat.add_assoc]

theorem sound_indexAddr_d (hT : Sig P tys) {t e sz : Nat} {x y : Operand} {els : List (List V)} {k : IntKind} {n : Int} (ho : o.op = .indexAddr t x y) (hx : ev T x = some (.dsl sz els)) (hy : ev T y = some (.i k n))
    (ht : (tys t).k = .slice e) (hk : (tys e).k ≠ .other) (hz : (tys e).size = sz) (h0 : 0 ≤ n) (h1 : n < els.length) : PStep P o T (.dptr (els.getD n.toNat [])) := by
  refine PStep.val fun c a hh => ?_
  have g1 := ev_R hh hx (fun t ht => mem_tmpsOf (x := x) (by simp [ho, Op.operands]) ht)
  have g2 := ev_R hh hy (fun t ht => mem_tmpsOf (x := y) (by simp [ho, Op.operands]) ht)
  simp only [R] at g1 g2
  obtain ⟨p, cap, he, hcap, hm, hels⟩ := g1
  have hn : n.toNat < els.length := by omega
  rcases hels with rfl | ⟨b, f, rfl, hels⟩
  · simp at hn
  · have hel : els[n.toNat]? = some (els.getD n.toNat []) := by simp [List.getD, List.getElem?_eq_getElem hn]
    obtain ⟨_, hc⟩ := hels.at hel
    refine ⟨.pointer (some ⟨b, f + n.toNat * sz, none⟩), ?_, ?_⟩
    · simp only [R]; exact ⟨b, _, rfl, hc⟩
    · subst hz
      simp [execOp, ho, he, g2.1, Instr.indexAt, asIntOf, run_underlying (sig_slice hT ht), sig_size hT hk, h0, h1, add_at]

theorem sound_indexAddr_o (hT : Sig P tys) {t e l u j m sz : Nat} {x y : Operand} {k : IntKind} {n : Int} (ho : o.op = .indexAddr t x y) (hx : ev T x = some (.sl l u j m sz)) (hy : ev T y = some (.i k n))
    (ht : (tys t).k = .slice e) (hk : (tys e).k ≠ .other) (hsz : (tys e).size = sz) (h0 : 0 ≤ n) (h1 : n < m) : PStep P o T (.ptr l u (j + n.toNat) 0) := by
  intro F ρ H nx w a hs hh next Q kk
  have g1 := ev_R hh hx (fun t ht => mem_tmpsOf (x := x) (by simp [ho, Op.operands]) ht)
  have g2 := ev_R hh hy (fun t ht => mem_tmpsOf (x := y) (by simp [ho, Op.operands]) ht)
  simp only [R] at g1 g2
  obtain ⟨L, p, cap, hL, hzz, he, hcap, hm, hels⟩ := g1
  rcases hels with rfl | ⟨rfl, hcap2⟩
  · omega
  · have e1 : (execOp a.eval o).run P w = .ok (.value (.pointer (some ⟨L.blk, L.base + (j + n.toNat) * L.sz + 0, none⟩))) w := by
      have hz2 : (tys e).size = L.sz := hsz.trans hzz.symm
      rw [Nat.add_mul]
      simp [hz2, execOp, ho, he, g2.1, Instr.indexAt, asIntOf, run_underlying (sig_slice hT ht), sig_size hT hk, h0, h1, add_at, Nat.add_assoc]
    unfold Oper.wp
    rw [e1]
    refine kk _ w hs (Evo.refl _ _ _ _) ?_
    simp only [R]
    exact ⟨L, hL, rfl⟩

theorem sound_index (hT : Sig P tys) {t : Nat} {x y : Operand} {b : ByteArray} {k : IntKind} {n : Int} (ho : o.op = .index t x y) (hx : ev T x = some (.s b)) (hy : ev T y = some (.i k n))
    (ht : (tys t).k = .str) (h0 : 0 ≤ n) (h1 : n < b.size) : PStep P o T (.i .u8 (byteAt b n.toNat)) := by
  refine PStep.val fun c a hh => ?_
  have g1 := ev_R hh hx (fun t ht => mem_tmpsOf (x := x) (by simp [ho, Op.operands]) ht)
  have g2 := ev_R hh hy (fun t ht => mem_tmpsOf (x := y) (by simp [ho, Op.operands]) ht)
  simp only [R] at g1 g2
  have hn : n.toNat < b.size := by omega
  have hb : b[n.toNat]? = some b[n.toNat] := by simp [hn]
  have hbyte : byteAt b n.toNat = (b[n.toNat].toNat : Int) := by
    have : b.data.toList.getD n.toNat 0 = b[n.toNat] := by
      have h2 : n.toNat < b.data.size := hn
      simp only [List.getD, Array.getElem?_toList, Array.getElem?_eq_getElem h2, Option.getD_some]
      rfl
    simp only [byteAt, this]
  refine ⟨.int .u8 (b[n.toNat].toNat : Int), ?_, ?_⟩
  · rw [hbyte]
    refine R_i ?_
    simp only [InK]
    have := b[n.toNat].toNat_lt
    omega
  · simp [execOp, ho, g1.1, g2.1, Instr.index, asIntOf, run_underlying (sig_str hT ht), h0, hb]

theorem bare_lasts (c : Ctx) : Lasts c.bare c := ⟨fun _ _ _ h k => ⟨h, k⟩, fun _ _ _ (h : none = some _) => by cases h⟩

theorem sound_load_agg (hT : Sig P tys) {t : Nat} {x : Operand} {cs : List V} {fs} (ho : o.op = .load t x) (hx : ev T x = some (.dptr cs)) (ht : (tys t).k = .struct fs) (hl : (tys t).size ≤ cs.length) :
    PStep P o T (.agg (cs.take (tys t).size)) := by
  have hk : (tys t).k ≠ .other := by rw [ht]; simp
  refine PStep.val fun c a hh => ?_
  have g1 := ev_R hh hx (fun t ht => mem_tmpsOf (x := x) (by simp [ho, Op.operands]) ht)
  simp only [R] at g1
  obtain ⟨b, f, he, hc⟩ := g1
  obtain ⟨vs, hr, hcell⟩ := hc.read
  have hlen := hr.length
  refine ⟨.agg (vs.take (tys t).size).toArray, ?_, ?_⟩
  · simp only [R]
    refine ⟨_, rfl, ?_⟩
    have := hr.take (tys t).size
    have hb : ∀ (xs : List V) (us : List Value), Rs c.bare xs us → Rs c xs us := fun xs us h => Rs.lasts (bare_lasts c) _ _ h
    simpa using hb _ _ this
  · have hld := run_loadCells_list (P := P) (w := c.w) ⟨b, f, none⟩ (vs.take (tys t).size) (fun j v hj => by
      rw [add_at]
      refine hcell j v ?_
      rw [List.getElem?_take] at hj
      split at hj
      · exact hj
      · cases hj)
    rw [List.length_take, Nat.min_eq_left (by omega)] at hld
    simp [execOp, ho, he, Instr.loadAt, Instr.sureAddr, loadVar, sig_isAgg hT hk, ht, isAggK, sig_size hT hk, hld]

theorem sound_load_one (hT : Sig P tys) {t : Nat} {x : Operand} {v : V} {cs : List V} (ho : o.op = .load t x) (hx : ev T x = some (.dptr (v :: cs))) (hk : (tys t).k ≠ .other) (ha : isAggK (tys t).k = false) :
    PStep P o T v := by
  refine PStep.val fun c a hh => ?_
  have g1 := ev_R hh hx (fun t ht => mem_tmpsOf (x := x) (by simp [ho, Op.operands]) ht)
  simp only [R, Cells] at g1
  obtain ⟨b, f, he, ⟨u, hc, _, _, hR⟩, _⟩ := g1
  refine ⟨u, R.lasts (bare_lasts c) _ _ hR, ?_⟩
  have hc' : c.w.cell? ⟨b, f, none⟩ = some u := hc
  simp [execOp, ho, he, Instr.loadAt, Instr.sureAddr, loadVar, sig_isAgg hT hk, ha, hc']

theorem sound_extract {x : Operand} {i : Nat} {vs : List V} {v : V} (ho : o.op = .extract x i) (hx : ev T x = some (.tup vs)) (hv : vs[i]? = some v) : PStep P o T v := by
  refine PStep.val fun c a hh => ?_
  have g1 := ev_R hh hx (fun t ht => mem_tmpsOf (x := x) (by simp [ho, Op.operands]) ht)
  simp only [R] at g1
  obtain ⟨us, he, hr⟩ := g1
  obtain ⟨u, hu, hR⟩ := hr.get hv
  have hu' : us[i]? = some u := by simpa using hu
  exact ⟨u, hR, by simp [execOp, ho, he, Instr.extract, hu']⟩

theorem evs_R {c : Ctx} {a : Act} (hh : Holds c T (opTmps o) a.tmps) : ∀ (xs : List Operand) (vs : List V), (∀ x ∈ xs, ∀ t, x = .tmp t → t ∈ opTmps o) → evs T xs = some vs → Rt c vs (xs.map a.eval)
  | [], vs, _, h => by simp only [evs, Option.some.injEq] at h; subst h; simp [Rt]
  | x :: xs, vs, hm, h => by
    simp only [evs] at h
    split at h
    · rename_i v vs' h1 h2
      simp only [Option.some.injEq] at h
      subst h
      simp only [List.map_cons, Rt]
      exact ⟨_, _, rfl, ev_R hh h1 (fun t ht => hm x List.mem_cons_self t ht), evs_R hh xs vs' (fun y hy => hm y (List.mem_cons_of_mem _ hy)) h2⟩
    · cases h

def Rp (c : Ctx) : List (Nat × V) → List (Nat × Value) → Prop
  | [], qs => qs = []
  | (i, x) :: ps, qs => ∃ v qs', qs = (i, v) :: qs' ∧ R c x v ∧ Rp c ps qs'

theorem evp_R {c : Ctx} {a : Act} (hh : Holds c T (opTmps o) a.tmps) : ∀ (xs : List (Nat × Operand)) (vs : List (Nat × V)), (∀ x ∈ xs, ∀ t, x.2 = .tmp t → t ∈ opTmps o) → evp T xs = some vs →
    Rp c vs (xs.map fun p => (p.1, a.eval p.2))
  | [], vs, _, h => by simp only [evp, Option.some.injEq] at h; subst h; simp [Rp]
  | (i, x) :: xs, vs, hm, h => by
    simp only [evp] at h
    split at h
    · rename_i v vs' h1 h2
      simp only [Option.some.injEq] at h
      subst h
      simp only [List.map_cons, Rp]
      exact ⟨_, _, rfl, ev_R hh h1 (fun t ht => hm (i, x) List.mem_cons_self t ht), evp_R hh xs vs' (fun y hy => hm y (List.mem_cons_of_mem _ hy)) h2⟩
    · cases h

theorem Rt.one {c : Ctx} : ∀ {xs : List V} {vs : List Value}, Rt c xs vs → allOne xs = true → Rs c xs vs
  | [], _, h, _ => by simp only [Rt] at h; subst h; simp [Rs]
  | x :: xs, _, h, ha => by
    simp only [Rt] at h
    obtain ⟨v, vs', rfl, hx, hr⟩ := h
    have hcs : x.cells = some [x] ∧ allOne xs = true := by cases x <;> first | exact ⟨rfl, ha⟩ | (simp [allOne] at ha)
    have := R.cells hx hcs.1
    have h1 : One v := by
      cases x <;> simp only [R] at hx <;> first
        | (subst hx; trivial)
        | (obtain ⟨rfl, _⟩ := hx; trivial)
        | (obtain ⟨L, _, rfl⟩ := hx; trivial)
        | (obtain ⟨_, _, rfl, _⟩ := hx; trivial)
        | (obtain ⟨_, _, _, _, _, rfl, _⟩ := hx; trivial)
        | (obtain ⟨_, rfl, _⟩ := hx; trivial)
        | (simp [allOne] at ha)
    simp only [Rs]
    exact ⟨v, vs', rfl, h1, hx, Rt.one hr hcs.2⟩

theorem sound_makeFunc {f : Nat} {first cap : Array Operand} {vs : List V} (ho : o.op = .makeFunc (.func f) first cap) (hf : first.isEmpty = true) (hx : evs T cap.toList = some vs) (h1 : allOne vs = true) :
    PStep P o T (.fn f vs) := by
  refine PStep.val fun c a hh => ?_
  have hr := evs_R hh cap.toList vs (fun x hx t ht => mem_tmpsOf (x := x) (by simp only [ho, Op.operands]; simp; exact .inr (by simpa using hx)) ht) hx
  have he : first = #[] := by simpa using hf
  refine ⟨.func (.func f) #[] (cap.map a.eval), ?_, ?_⟩
  · simp only [R]
    exact ⟨_, rfl, by simpa using hr.one h1⟩
  · simp [execOp, ho, he, Instr.makeFunc]

end
end Go.L1
