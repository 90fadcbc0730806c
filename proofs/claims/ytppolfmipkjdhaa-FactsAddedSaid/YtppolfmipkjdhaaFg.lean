import Derived.Test.YtppolfmipkjdhaaFf
import Derived.Test.YtppolfmipkjdhaaLv
/-! Seat of almagestlaw9.FactsAdded: term.May. -/
-- alias Try
-- tys ty3 ty4 ty5 ty9 ty31 ty33 ty35 ty73
set_option linter.all false
set_option maxRecDepth 100000
namespace Go.L1.Try
open Go.RowKit Go.Proofs
variable [Zero Prop]

mutual
def mayT : Tm → Nat → Int → Bool × Int
  | .mk k s n ts, d, left =>
    if d = 0 ∨ left - 1 < 0 then (false, left - 1) else
    if k = 1 then (wordB greatB s && decide (n = 0) && decide (ts.length = 0), left - 1)
    else if k = 2 then (numB n && decide (s.size = 0) && decide (ts.length = 0), left - 1)
    else if k = 3 then (if wordB smallB s && decide (n = 0) && decide (ts.length ≤ 4) then mayTs ts (d - 1) (left - 1) else (false, left - 1))
    else (false, left - 1)
def mayTs : List Tm → Nat → Int → Bool × Int
  | [], _, l => (true, l)
  | x :: xs, d, l => if (mayT x d l).1 = true then mayTs xs d (mayT x d l).2 else (false, (mayT x d l).2)
end

mutual
theorem mayT_in : ∀ (t : Tm) (d : Nat) (l : Int), 0 ≤ l → (mayT t d l).2 ≤ l ∧ -1 ≤ (mayT t d l).2 ∧ ((mayT t d l).1 = true → 0 ≤ (mayT t d l).2)
  | .mk k s n ts, d, l, hl => by
    rw [mayT]
    split
    · simp; omega
    · rename_i h0
      split
      · simp; omega
      · split
        · simp; omega
        · split
          · split
            · have := mayTs_in ts (d - 1) (l - 1) (by omega)
              exact ⟨by omega, this.2⟩
            · simp; omega
          · simp; omega
theorem mayTs_in : ∀ (ts : List Tm) (d : Nat) (l : Int), 0 ≤ l → (mayTs ts d l).2 ≤ l ∧ -1 ≤ (mayTs ts d l).2 ∧ ((mayTs ts d l).1 = true → 0 ≤ (mayTs ts d l).2)
  | [], d, l, hl => by simp [mayTs]; omega
  | x :: xs, d, l, hl => by
    have h1 := mayT_in x d l hl
    rw [mayTs]
    split
    · rename_i h
      have h2 := mayTs_in xs d _ (h1.2.2 h)
      exact ⟨by omega, h2.2⟩
    · simp; exact ⟨h1.1, h1.2.1⟩
end

def mayIx : List Tm → Nat → Int → Nat → Int
  | [], _, _, _ => -1
  | x :: xs, d, l, i => if (mayT x d l).1 = true then mayIx xs d (mayT x d l).2 (i + 1) else i

theorem mayIx_neg : ∀ (ts : List Tm) (d : Nat) (l : Int) (i : Nat), decide (0 ≤ mayIx ts d l i) = !(mayTs ts d l).1
  | [], _, _, _ => by simp [mayIx, mayTs]
  | x :: xs, d, l, i => by
    rw [mayIx, mayTs]
    split
    · exact mayIx_neg xs d _ (i + 1)
    · simp

/-- The memory of the counter. -/
def hl1 (l : Int) : Heap := [(0, 0, .row 3 [[.i .i64 l]])]
def hl2 (l : Int) : Heap := [(1, 0, .row 73 [[.ptr 0 0 0 0]]), (0, 0, .row 3 [[.i .i64 l]])]

def MayOk (t : Tm) : Prop := ∀ (d : Nat) (l : Int), d ≤ 5 → 0 ≤ l → l ≤ 24 → CH Try.prog 33 1 [.agg t.cells, .i .i64 d, .ptr 0 0 0 0] (hl1 l) (.b (mayT t d l).1) (hl1 (mayT t d l).2)

theorem c52 (x : Tm) (hx : MayOk x) (d : Nat) (l : Int) (hd0 : 0 < d) (hd : d ≤ 5) (h0 : 0 ≤ l) (h1 : l ≤ 24) :
    CH Try.prog 52 2 [.agg x.cells, .dptr [.i .i64 d], .ptr 1 0 0 0] (hl2 l) (.b (!(mayT x (d - 1) l).1)) (hl2 (mayT x (d - 1) l).2) := by
  refine CH.of ?_ (by simp [Tm.cells_eq, bls, bl]) rfl (by simp [hl2, blB, bls, bl]) (by simp [hl2, blB, bls, bl])
  unfold hl2
  rw [Tm.cells_eq]
  refine C.of_vck (c := _) (rs := [.tmp 4]) (n := _) sig rfl (fun _ => true) Try.func52 Try.call52 rfl Try.results52 Try.ntmps52 (by simp) (by omega) ?_
  intro hw
  simp (maxSteps := 4000000) -implicitDefEqProofs only [↓vc_seq, ↓vc_region, ↓vc_draw, ↓vc_skip, ↓vc_label, ↓vc_ret, ↓vc_exit, ↓vc_block, ↓vc_loop, ↓vc_cond, ↓vcOps_nil, ↓vcOps_plain, ↓vcOps_plain0, ↓vcOps_guard, ↓stepK_some, ↓stepK_none, ↓opK_f, ↓opK_t, ↓op0_f, ↓op0_t, ↓guardD_some, ↓guardV_u, ↓guardV_tt, ↓guardV_tf, ↓guardV_ft, ↓guardV_ff, ↓seqK_eq, ↓drawK_eq, ↓condV_t, ↓condV_f, ↓kq_nil, ↓kq_seq_n, ↓kq_seq_r, ↓kq_seq_x, ↓kq_rnd_n, ↓kq_rnd_r, ↓kq_rnd_x, ↓kq_blk_n, ↓kq_blk_r, ↓kq_blk_hit, ↓kq_blk_miss, ↓thenQ_rnd, ↓fnPost_normal, ↓fnPost_ret,
    guardV_bt, guardV_bf, condV_b, pop, hop, ev, evs, evp, argEnv, get_hit, get_miss, constV, constC, constCs, dstOf_stub, id, List.getElem?_cons_zero, List.getElem?_cons_succ, Option.bind_some, Option.bind_none, Option.map_some, Option.map_none,
    Nat.reduceBEq, bsize_lit, Nat.reduceLT, Nat.reduceLeDiff, Nat.reduceAdd, Nat.reduceSub, Nat.reduceEqDiff, Nat.reduceMul, intBin, strBin, isSh, shV, resK, packV, InK, Int.reduceLE, Int.reduceLT, Int.reduceNeg, true_and, and_true, and_self, eq_self, ↓reduceIte, Bool.false_eq_true, if_true, if_false, true_imp_iff, false_imp_iff, imp_self, forall_const, reduceCtorEq, ne_eq, not_false_eq_true, not_true_eq_false, or_self, or_false, false_or, false_and, and_false,
    hget, hput, V.cells, List.length_cons, List.length_nil, List.drop_zero, List.drop_succ_cons, List.take_succ_cons, List.take_zero, List.take_nil, List.drop_nil, fillV, fillE, List.append_eq, List.cons_append, List.nil_append, List.append_nil, List.set_cons_zero, List.set_cons_succ, List.replicate, nls, nl, List.all_cons, List.all_nil, Bool.not_true, Bool.not_false, Bool.and_true, Bool.true_and, Bool.and_self, Bool.and_false, Bool.false_and, allOne, List.isEmpty_toArray, List.isEmpty_nil, lenV, exists_eq_left', Option.some.injEq, Nat.le_refl, Nat.zero_le, Nat.add_zero, Nat.zero_add, decide_true, decide_false, cond_true, cond_false, Int.toNat_natCast, Int.ofNat_lt, Int.ofNat_le, Int.natCast_nonneg, List.length_map, List.getElem?_map, List.getD_eq_getElem?_getD, Option.getD_some, Option.getD_none, fin_pure, List.map_cons, List.map_nil, srcV, ty3, ty4, ty5, ty9, ty31, ty33, ty35, ty73]
  have e1 : IntKind.i64.wrap ((d : Int) - 1) = ((d - 1 : Nat) : Int) := by
    rw [wrap_in]
    · omega
    · simp only [InK]; omega
  rw [e1]
  refine CallK.own (H1 := hl1 l) (H2 := [(1, 0, .row 73 [[.ptr 0 0 0 0]])]) (List.Perm.swap ..) (hx (d - 1) l (by omega) h0 h1 _ (by omega)) (by rw [Tm.cells_eq]; exact Wkt.refl _) fun _ => ?_
  simp (maxSteps := 4000000) -implicitDefEqProofs only [↓vc_seq, ↓vc_region, ↓vc_draw, ↓vc_skip, ↓vc_label, ↓vc_ret, ↓vc_exit, ↓vc_block, ↓vc_loop, ↓vc_cond, ↓vcOps_nil, ↓vcOps_plain, ↓vcOps_plain0, ↓vcOps_guard, ↓stepK_some, ↓stepK_none, ↓opK_f, ↓opK_t, ↓op0_f, ↓op0_t, ↓guardD_some, ↓guardV_u, ↓guardV_tt, ↓guardV_tf, ↓guardV_ft, ↓guardV_ff, ↓seqK_eq, ↓drawK_eq, ↓condV_t, ↓condV_f, ↓kq_nil, ↓kq_seq_n, ↓kq_seq_r, ↓kq_seq_x, ↓kq_rnd_n, ↓kq_rnd_r, ↓kq_rnd_x, ↓kq_blk_n, ↓kq_blk_r, ↓kq_blk_hit, ↓kq_blk_miss, ↓thenQ_rnd, ↓fnPost_normal, ↓fnPost_ret,
    guardV_bt, guardV_bf, condV_b, pop, hop, ev, evs, evp, argEnv, get_hit, get_miss, constV, constC, constCs, dstOf_stub, id, List.getElem?_cons_zero, List.getElem?_cons_succ, Option.bind_some, Option.bind_none, Option.map_some, Option.map_none,
    Nat.reduceBEq, bsize_lit, Nat.reduceLT, Nat.reduceLeDiff, Nat.reduceAdd, Nat.reduceSub, Nat.reduceEqDiff, Nat.reduceMul, intBin, strBin, isSh, shV, resK, packV, InK, Int.reduceLE, Int.reduceLT, Int.reduceNeg, true_and, and_true, and_self, eq_self, ↓reduceIte, Bool.false_eq_true, if_true, if_false, true_imp_iff, false_imp_iff, imp_self, forall_const, reduceCtorEq, ne_eq, not_false_eq_true, not_true_eq_false, or_self, or_false, false_or, false_and, and_false,
    hget, hput, V.cells, List.length_cons, List.length_nil, List.drop_zero, List.drop_succ_cons, List.take_succ_cons, List.take_zero, List.take_nil, List.drop_nil, fillV, fillE, List.append_eq, List.cons_append, List.nil_append, List.append_nil, List.set_cons_zero, List.set_cons_succ, List.replicate, nls, nl, List.all_cons, List.all_nil, Bool.not_true, Bool.not_false, Bool.and_true, Bool.true_and, Bool.and_self, Bool.and_false, Bool.false_and, allOne, List.isEmpty_toArray, List.isEmpty_nil, lenV, exists_eq_left', Option.some.injEq, Nat.le_refl, Nat.zero_le, Nat.add_zero, Nat.zero_add, decide_true, decide_false, cond_true, cond_false, Int.toNat_natCast, Int.ofNat_lt, Int.ofNat_le, Int.natCast_nonneg, List.length_map, List.getElem?_map, List.getD_eq_getElem?_getD, Option.getD_some, Option.getD_none, fin_pure, List.map_cons, List.map_nil, srcV, ty3, ty4, ty5, ty9, ty31, ty33, ty35, ty73, hl1]
  exact Fin.keep (rest := []) (List.Perm.swap ..) rfl rfl (by simp [blB, bls, bl])

theorem mayTs_drop {ts : List Tm} {i d : Nat} {l : Int} (hi : i < ts.length) :
    mayTs (ts.drop i) d l = (if (mayT ts[i] d l).1 = true then mayTs (ts.drop (i + 1)) d (mayT ts[i] d l).2 else (false, (mayT ts[i] d l).2)) ∧
    mayIx (ts.drop i) d l i = (if (mayT ts[i] d l).1 = true then mayIx (ts.drop (i + 1)) d (mayT ts[i] d l).2 (i + 1) else i) := by
  rw [List.drop_eq_getElem_cons hi, mayTs, mayIx]; exact ⟨rfl, rfl⟩

theorem c67 (ts : List Tm) (hx : ∀ x ∈ ts, MayOk x) (d : Nat) (l : Int) (hd0 : 0 < d) (hd : d ≤ 5) (h0 : 0 ≤ l) (h1 : l ≤ 24) :
    CH Try.prog 67 2 [.dsl 4 (cellss ts), .fn 52 [.dptr [.i .i64 d], .ptr 1 0 0 0]] (hl2 l) (.i .i64 (mayIx ts (d - 1) l 0)) (hl2 (mayTs ts (d - 1) l).2) := by
  refine CH.of ?_ (by simp [bls, bl]) rfl (by simp [hl2, blB, bls, bl]) (by simp [hl2, blB, bls, bl])
  refine C.of_vck (c := _) (rs := [.tmp 4]) (n := _) sig rfl (fun _ => true) Try.func67 Try.call67 rfl Try.results67 Try.ntmps67 (by simp) (by omega) ?_
  intro hw
  have hlen : ts.length ≤ 9223372036854775807 := by
    simp only [Wfs, Wf, cellss_len] at hw; have := hw.1.1; unfold maxLen at this; omega
  clear hw
  simp (maxSteps := 4000000) -implicitDefEqProofs only [↓vc_seq, ↓vc_region, ↓vc_draw, ↓vc_skip, ↓vc_label, ↓vc_ret, ↓vc_exit, ↓vc_block, ↓vc_loop, ↓vc_cond, ↓vcOps_nil, ↓vcOps_plain, ↓vcOps_plain0, ↓vcOps_guard, ↓stepK_some, ↓stepK_none, ↓opK_f, ↓opK_t, ↓op0_f, ↓op0_t, ↓guardD_some, ↓guardV_u, ↓guardV_tt, ↓guardV_tf, ↓guardV_ft, ↓guardV_ff, ↓seqK_eq, ↓drawK_eq, ↓condV_t, ↓condV_f, ↓kq_nil, ↓kq_seq_n, ↓kq_seq_r, ↓kq_seq_x, ↓kq_rnd_n, ↓kq_rnd_r, ↓kq_rnd_x, ↓kq_blk_n, ↓kq_blk_r, ↓kq_blk_hit, ↓kq_blk_miss, ↓thenQ_rnd, ↓fnPost_normal, ↓fnPost_ret,
    guardV_bt, guardV_bf, condV_b, pop, hop, ev, evs, evp, argEnv, get_hit, get_miss, constV, constC, constCs, dstOf_stub, id, List.getElem?_cons_zero, List.getElem?_cons_succ, Option.bind_some, Option.bind_none, Option.map_some, Option.map_none,
    Nat.reduceBEq, bsize_lit, Nat.reduceLT, Nat.reduceLeDiff, Nat.reduceAdd, Nat.reduceSub, Nat.reduceEqDiff, Nat.reduceMul, intBin, strBin, isSh, shV, resK, packV, InK, Int.reduceLE, Int.reduceLT, Int.reduceNeg, true_and, and_true, and_self, eq_self, ↓reduceIte, Bool.false_eq_true, if_true, if_false, true_imp_iff, false_imp_iff, imp_self, forall_const, reduceCtorEq, ne_eq, not_false_eq_true, not_true_eq_false, or_self, or_false, false_or, false_and, and_false,
    hget, hput, V.cells, List.length_cons, List.length_nil, List.drop_zero, List.drop_succ_cons, List.take_succ_cons, List.take_zero, List.take_nil, List.drop_nil, fillV, fillE, List.append_eq, List.cons_append, List.nil_append, List.append_nil, List.set_cons_zero, List.set_cons_succ, List.replicate, nls, nl, List.all_cons, List.all_nil, Bool.not_true, Bool.not_false, Bool.and_true, Bool.true_and, Bool.and_self, Bool.and_false, Bool.false_and, allOne, List.isEmpty_toArray, List.isEmpty_nil, lenV, exists_eq_left', Option.some.injEq, Nat.le_refl, Nat.zero_le, Nat.add_zero, Nat.zero_add, decide_true, decide_false, cond_true, cond_false, Int.toNat_natCast, Int.ofNat_lt, Int.ofNat_le, Int.natCast_nonneg, List.length_map, List.getElem?_map, List.getD_eq_getElem?_getD, Option.getD_some, Option.getD_none, fin_pure, List.map_cons, List.map_nil, srcV, ty3, ty4, ty5, ty9, ty31, ty33, ty35, ty73, cellss_len]
  refine ⟨{ p : Nat × Int // p.1 ≤ ts.length ∧ 0 ≤ p.2 ∧ p.2 ≤ 24 ∧ mayTs (ts.drop p.1) (d - 1) p.2 = mayTs ts (d - 1) l ∧ mayIx (ts.drop p.1) (d - 1) p.2 p.1 = mayIx ts (d - 1) l 0 }, fun p => [(8, .i .i64 p.1.1), (7, .i .i64 ts.length), (0, .dsl 4 (cellss ts)), (1, .fn 52 [.dptr [.i .i64 d], .ptr 1 0 0 0])], fun p => hl2 p.1.2, 2, fun p => ts.length - p.1.1, [], ?_, ?_⟩
  · refine ⟨Nat.le_refl _, ⟨(0, l), Nat.zero_le _, h0, h1, rfl, rfl⟩, [], by simp, ?_, ?_⟩
    · simp [Sub, Env.get, frV_nil, bl, bls]
    · simp [hl2, blB, bls, bl]
  · rintro ⟨⟨i, l'⟩, hi, g0, g1, gt, gx⟩ hwf
    clear hwf
    simp only at hi g0 g1 gt gx ⊢
    simp (maxSteps := 4000000) -implicitDefEqProofs only [↓vc_seq, ↓vc_region, ↓vc_draw, ↓vc_skip, ↓vc_label, ↓vc_ret, ↓vc_exit, ↓vc_block, ↓vc_loop, ↓vc_cond, ↓vcOps_nil, ↓vcOps_plain, ↓vcOps_plain0, ↓vcOps_guard, ↓stepK_some, ↓stepK_none, ↓opK_f, ↓opK_t, ↓op0_f, ↓op0_t, ↓guardD_some, ↓guardV_u, ↓guardV_tt, ↓guardV_tf, ↓guardV_ft, ↓guardV_ff, ↓seqK_eq, ↓drawK_eq, ↓condV_t, ↓condV_f, ↓kq_nil, ↓kq_seq_n, ↓kq_seq_r, ↓kq_seq_x, ↓kq_rnd_n, ↓kq_rnd_r, ↓kq_rnd_x, ↓kq_blk_n, ↓kq_blk_r, ↓kq_blk_hit, ↓kq_blk_miss, ↓thenQ_rnd, ↓fnPost_normal, ↓fnPost_ret,
    guardV_bt, guardV_bf, condV_b, pop, hop, ev, evs, evp, argEnv, get_hit, get_miss, constV, constC, constCs, dstOf_stub, id, List.getElem?_cons_zero, List.getElem?_cons_succ, Option.bind_some, Option.bind_none, Option.map_some, Option.map_none,
    Nat.reduceBEq, bsize_lit, Nat.reduceLT, Nat.reduceLeDiff, Nat.reduceAdd, Nat.reduceSub, Nat.reduceEqDiff, Nat.reduceMul, intBin, strBin, isSh, shV, resK, packV, InK, Int.reduceLE, Int.reduceLT, Int.reduceNeg, true_and, and_true, and_self, eq_self, ↓reduceIte, Bool.false_eq_true, if_true, if_false, true_imp_iff, false_imp_iff, imp_self, forall_const, reduceCtorEq, ne_eq, not_false_eq_true, not_true_eq_false, or_self, or_false, false_or, false_and, and_false,
    hget, hput, V.cells, List.length_cons, List.length_nil, List.drop_zero, List.drop_succ_cons, List.take_succ_cons, List.take_zero, List.take_nil, List.drop_nil, fillV, fillE, List.append_eq, List.cons_append, List.nil_append, List.append_nil, List.set_cons_zero, List.set_cons_succ, List.replicate, nls, nl, List.all_cons, List.all_nil, Bool.not_true, Bool.not_false, Bool.and_true, Bool.true_and, Bool.and_self, Bool.and_false, Bool.false_and, allOne, List.isEmpty_toArray, List.isEmpty_nil, lenV, exists_eq_left', Option.some.injEq, Nat.le_refl, Nat.zero_le, Nat.add_zero, Nat.zero_add, decide_true, decide_false, cond_true, cond_false, Int.toNat_natCast, Int.ofNat_lt, Int.ofNat_le, Int.natCast_nonneg, List.length_map, List.getElem?_map, List.getD_eq_getElem?_getD, Option.getD_some, Option.getD_none, fin_pure, List.map_cons, List.map_nil, srcV, ty3, ty4, ty5, ty9, ty31, ty33, ty35, ty73, cellss_len, cellss_get, Tm.cells_len, Tm.cells_take, Tm.cells_nls]
    refine spl (fun hc => ?_) (fun hc => ?_)
    · have hi2 : i < ts.length := by simpa using hc
      refine ⟨hi2, ?_⟩
      simp (maxSteps := 4000000) -implicitDefEqProofs only [↓vc_seq, ↓vc_region, ↓vc_draw, ↓vc_skip, ↓vc_label, ↓vc_ret, ↓vc_exit, ↓vc_block, ↓vc_loop, ↓vc_cond, ↓vcOps_nil, ↓vcOps_plain, ↓vcOps_plain0, ↓vcOps_guard, ↓stepK_some, ↓stepK_none, ↓opK_f, ↓opK_t, ↓op0_f, ↓op0_t, ↓guardD_some, ↓guardV_u, ↓guardV_tt, ↓guardV_tf, ↓guardV_ft, ↓guardV_ff, ↓seqK_eq, ↓drawK_eq, ↓condV_t, ↓condV_f, ↓kq_nil, ↓kq_seq_n, ↓kq_seq_r, ↓kq_seq_x, ↓kq_rnd_n, ↓kq_rnd_r, ↓kq_rnd_x, ↓kq_blk_n, ↓kq_blk_r, ↓kq_blk_hit, ↓kq_blk_miss, ↓thenQ_rnd, ↓fnPost_normal, ↓fnPost_ret,
    guardV_bt, guardV_bf, condV_b, pop, hop, ev, evs, evp, argEnv, get_hit, get_miss, constV, constC, constCs, dstOf_stub, id, List.getElem?_cons_zero, List.getElem?_cons_succ, Option.bind_some, Option.bind_none, Option.map_some, Option.map_none,
    Nat.reduceBEq, bsize_lit, Nat.reduceLT, Nat.reduceLeDiff, Nat.reduceAdd, Nat.reduceSub, Nat.reduceEqDiff, Nat.reduceMul, intBin, strBin, isSh, shV, resK, packV, InK, Int.reduceLE, Int.reduceLT, Int.reduceNeg, true_and, and_true, and_self, eq_self, ↓reduceIte, Bool.false_eq_true, if_true, if_false, true_imp_iff, false_imp_iff, imp_self, forall_const, reduceCtorEq, ne_eq, not_false_eq_true, not_true_eq_false, or_self, or_false, false_or, false_and, and_false,
    hget, hput, V.cells, List.length_cons, List.length_nil, List.drop_zero, List.drop_succ_cons, List.take_succ_cons, List.take_zero, List.take_nil, List.drop_nil, fillV, fillE, List.append_eq, List.cons_append, List.nil_append, List.append_nil, List.set_cons_zero, List.set_cons_succ, List.replicate, nls, nl, List.all_cons, List.all_nil, Bool.not_true, Bool.not_false, Bool.and_true, Bool.true_and, Bool.and_self, Bool.and_false, Bool.false_and, allOne, List.isEmpty_toArray, List.isEmpty_nil, lenV, exists_eq_left', Option.some.injEq, Nat.le_refl, Nat.zero_le, Nat.add_zero, Nat.zero_add, decide_true, decide_false, cond_true, cond_false, Int.toNat_natCast, Int.ofNat_lt, Int.ofNat_le, Int.natCast_nonneg, List.length_map, List.getElem?_map, List.getD_eq_getElem?_getD, Option.getD_some, Option.getD_none, fin_pure, List.map_cons, List.map_nil, srcV, ty3, ty4, ty5, ty9, ty31, ty33, ty35, ty73, List.getElem?_eq_getElem hi2, cellss_len, cellss_get, Tm.cells_len, Tm.cells_take, Tm.cells_nls]
      have hmi := mayT_in ts[i] (d - 1) l' g0
      obtain ⟨k1, k2⟩ := mayTs_drop (d := d - 1) (l := l') hi2
      refine CallK.own (H1 := hl2 l') (H2 := []) (by simp) (c52 ts[i] (hx _ (List.getElem_mem hi2)) d l' hd0 hd g0 g1 _ (by omega)) (Wkt.refl _) fun _ => ?_
      cases hb : (mayT ts[i] (d - 1) l').1
      · simp (maxSteps := 4000000) -implicitDefEqProofs only [↓vc_seq, ↓vc_region, ↓vc_draw, ↓vc_skip, ↓vc_label, ↓vc_ret, ↓vc_exit, ↓vc_block, ↓vc_loop, ↓vc_cond, ↓vcOps_nil, ↓vcOps_plain, ↓vcOps_plain0, ↓vcOps_guard, ↓stepK_some, ↓stepK_none, ↓opK_f, ↓opK_t, ↓op0_f, ↓op0_t, ↓guardD_some, ↓guardV_u, ↓guardV_tt, ↓guardV_tf, ↓guardV_ft, ↓guardV_ff, ↓seqK_eq, ↓drawK_eq, ↓condV_t, ↓condV_f, ↓kq_nil, ↓kq_seq_n, ↓kq_seq_r, ↓kq_seq_x, ↓kq_rnd_n, ↓kq_rnd_r, ↓kq_rnd_x, ↓kq_blk_n, ↓kq_blk_r, ↓kq_blk_hit, ↓kq_blk_miss, ↓thenQ_rnd, ↓fnPost_normal, ↓fnPost_ret,
    guardV_bt, guardV_bf, condV_b, pop, hop, ev, evs, evp, argEnv, get_hit, get_miss, constV, constC, constCs, dstOf_stub, id, List.getElem?_cons_zero, List.getElem?_cons_succ, Option.bind_some, Option.bind_none, Option.map_some, Option.map_none,
    Nat.reduceBEq, bsize_lit, Nat.reduceLT, Nat.reduceLeDiff, Nat.reduceAdd, Nat.reduceSub, Nat.reduceEqDiff, Nat.reduceMul, intBin, strBin, isSh, shV, resK, packV, InK, Int.reduceLE, Int.reduceLT, Int.reduceNeg, true_and, and_true, and_self, eq_self, ↓reduceIte, Bool.false_eq_true, if_true, if_false, true_imp_iff, false_imp_iff, imp_self, forall_const, reduceCtorEq, ne_eq, not_false_eq_true, not_true_eq_false, or_self, or_false, false_or, false_and, and_false,
    hget, hput, V.cells, List.length_cons, List.length_nil, List.drop_zero, List.drop_succ_cons, List.take_succ_cons, List.take_zero, List.take_nil, List.drop_nil, fillV, fillE, List.append_eq, List.cons_append, List.nil_append, List.append_nil, List.set_cons_zero, List.set_cons_succ, List.replicate, nls, nl, List.all_cons, List.all_nil, Bool.not_true, Bool.not_false, Bool.and_true, Bool.true_and, Bool.and_self, Bool.and_false, Bool.false_and, allOne, List.isEmpty_toArray, List.isEmpty_nil, lenV, exists_eq_left', Option.some.injEq, Nat.le_refl, Nat.zero_le, Nat.add_zero, Nat.zero_add, decide_true, decide_false, cond_true, cond_false, Int.toNat_natCast, Int.ofNat_lt, Int.ofNat_le, Int.natCast_nonneg, List.length_map, List.getElem?_map, List.getD_eq_getElem?_getD, Option.getD_some, Option.getD_none, fin_pure, List.map_cons, List.map_nil, srcV, ty3, ty4, ty5, ty9, ty31, ty33, ty35, ty73]
        rw [k1] at gt; rw [k2] at gx
        simp only [hb, Bool.false_eq_true, if_false] at gt gx
        refine Fin.keep (rest := []) (by rw [← gt]; simp) (by rw [← gx]) rfl (by simp [hl2, blB, bls, bl])
      · simp (maxSteps := 4000000) -implicitDefEqProofs only [↓vc_seq, ↓vc_region, ↓vc_draw, ↓vc_skip, ↓vc_label, ↓vc_ret, ↓vc_exit, ↓vc_block, ↓vc_loop, ↓vc_cond, ↓vcOps_nil, ↓vcOps_plain, ↓vcOps_plain0, ↓vcOps_guard, ↓stepK_some, ↓stepK_none, ↓opK_f, ↓opK_t, ↓op0_f, ↓op0_t, ↓guardD_some, ↓guardV_u, ↓guardV_tt, ↓guardV_tf, ↓guardV_ft, ↓guardV_ff, ↓seqK_eq, ↓drawK_eq, ↓condV_t, ↓condV_f, ↓kq_nil, ↓kq_seq_n, ↓kq_seq_r, ↓kq_seq_x, ↓kq_rnd_n, ↓kq_rnd_r, ↓kq_rnd_x, ↓kq_blk_n, ↓kq_blk_r, ↓kq_blk_hit, ↓kq_blk_miss, ↓thenQ_rnd, ↓fnPost_normal, ↓fnPost_ret,
    guardV_bt, guardV_bf, condV_b, pop, hop, ev, evs, evp, argEnv, get_hit, get_miss, constV, constC, constCs, dstOf_stub, id, List.getElem?_cons_zero, List.getElem?_cons_succ, Option.bind_some, Option.bind_none, Option.map_some, Option.map_none,
    Nat.reduceBEq, bsize_lit, Nat.reduceLT, Nat.reduceLeDiff, Nat.reduceAdd, Nat.reduceSub, Nat.reduceEqDiff, Nat.reduceMul, intBin, strBin, isSh, shV, resK, packV, InK, Int.reduceLE, Int.reduceLT, Int.reduceNeg, true_and, and_true, and_self, eq_self, ↓reduceIte, Bool.false_eq_true, if_true, if_false, true_imp_iff, false_imp_iff, imp_self, forall_const, reduceCtorEq, ne_eq, not_false_eq_true, not_true_eq_false, or_self, or_false, false_or, false_and, and_false,
    hget, hput, V.cells, List.length_cons, List.length_nil, List.drop_zero, List.drop_succ_cons, List.take_succ_cons, List.take_zero, List.take_nil, List.drop_nil, fillV, fillE, List.append_eq, List.cons_append, List.nil_append, List.append_nil, List.set_cons_zero, List.set_cons_succ, List.replicate, nls, nl, List.all_cons, List.all_nil, Bool.not_true, Bool.not_false, Bool.and_true, Bool.true_and, Bool.and_self, Bool.and_false, Bool.false_and, allOne, List.isEmpty_toArray, List.isEmpty_nil, lenV, exists_eq_left', Option.some.injEq, Nat.le_refl, Nat.zero_le, Nat.add_zero, Nat.zero_add, decide_true, decide_false, cond_true, cond_false, Int.toNat_natCast, Int.ofNat_lt, Int.ofNat_le, Int.natCast_nonneg, List.length_map, List.getElem?_map, List.getD_eq_getElem?_getD, Option.getD_some, Option.getD_none, fin_pure, List.map_cons, List.map_nil, srcV, ty3, ty4, ty5, ty9, ty31, ty33, ty35, ty73]
        rw [k1] at gt; rw [k2] at gx
        simp only [hb, if_true] at gt gx
        have e1 : (IntKind.i64.wrap (i + 1) : Int) = ((i + 1 : Nat) : Int) := by
          rw [wrap_in]
          · omega
          · simp only [InK]; omega
        refine ⟨⟨(i + 1, (mayT ts[i] (d - 1) l').2), by simp only; omega, hmi.2.2 hb, by simp only; omega, gt, gx⟩, by simp only; omega, [], by simp, ?_, ?_⟩
        · simp [Sub, Env.get, frV_nil, bl, bls, e1]
        · simp [hl2, blB, bls, bl]
    · have hi2 : i = ts.length := by simp at hc; omega
      subst hi2
      rw [List.drop_length] at gt gx
      simp only [mayTs, mayIx] at gt gx
      exact Fin.keep (rest := []) (by rw [← gt]; simp) (by rw [← gx]) rfl (by simp [hl2, blB, bls, bl])

theorem c54 (ts : List Tm) (hx : ∀ x ∈ ts, MayOk x) (d : Nat) (l : Int) (hd0 : 0 < d) (hd : d ≤ 5) (h0 : 0 ≤ l) (h1 : l ≤ 24) :
    CH Try.prog 54 2 [.dsl 4 (cellss ts), .fn 52 [.dptr [.i .i64 d], .ptr 1 0 0 0]] (hl2 l) (.b (!(mayTs ts (d - 1) l).1)) (hl2 (mayTs ts (d - 1) l).2) := by
  refine CH.of ?_ (by simp [bls, bl]) rfl (by simp [hl2, blB, bls, bl]) (by simp [hl2, blB, bls, bl])
  refine C.of_vck (c := _) (rs := [.tmp 4]) (n := _) sig rfl (fun _ => true) Try.func54 Try.call54 rfl Try.results54 Try.ntmps54 (by simp) (by omega) ?_
  intro hw
  clear hw
  simp (maxSteps := 4000000) -implicitDefEqProofs only [↓vc_seq, ↓vc_region, ↓vc_draw, ↓vc_skip, ↓vc_label, ↓vc_ret, ↓vc_exit, ↓vc_block, ↓vc_loop, ↓vc_cond, ↓vcOps_nil, ↓vcOps_plain, ↓vcOps_plain0, ↓vcOps_guard, ↓stepK_some, ↓stepK_none, ↓opK_f, ↓opK_t, ↓op0_f, ↓op0_t, ↓guardD_some, ↓guardV_u, ↓guardV_tt, ↓guardV_tf, ↓guardV_ft, ↓guardV_ff, ↓seqK_eq, ↓drawK_eq, ↓condV_t, ↓condV_f, ↓kq_nil, ↓kq_seq_n, ↓kq_seq_r, ↓kq_seq_x, ↓kq_rnd_n, ↓kq_rnd_r, ↓kq_rnd_x, ↓kq_blk_n, ↓kq_blk_r, ↓kq_blk_hit, ↓kq_blk_miss, ↓thenQ_rnd, ↓fnPost_normal, ↓fnPost_ret,
    guardV_bt, guardV_bf, condV_b, pop, hop, ev, evs, evp, argEnv, get_hit, get_miss, constV, constC, constCs, dstOf_stub, id, List.getElem?_cons_zero, List.getElem?_cons_succ, Option.bind_some, Option.bind_none, Option.map_some, Option.map_none,
    Nat.reduceBEq, bsize_lit, Nat.reduceLT, Nat.reduceLeDiff, Nat.reduceAdd, Nat.reduceSub, Nat.reduceEqDiff, Nat.reduceMul, intBin, strBin, isSh, shV, resK, packV, InK, Int.reduceLE, Int.reduceLT, Int.reduceNeg, true_and, and_true, and_self, eq_self, ↓reduceIte, Bool.false_eq_true, if_true, if_false, true_imp_iff, false_imp_iff, imp_self, forall_const, reduceCtorEq, ne_eq, not_false_eq_true, not_true_eq_false, or_self, or_false, false_or, false_and, and_false,
    hget, hput, V.cells, List.length_cons, List.length_nil, List.drop_zero, List.drop_succ_cons, List.take_succ_cons, List.take_zero, List.take_nil, List.drop_nil, fillV, fillE, List.append_eq, List.cons_append, List.nil_append, List.append_nil, List.set_cons_zero, List.set_cons_succ, List.replicate, nls, nl, List.all_cons, List.all_nil, Bool.not_true, Bool.not_false, Bool.and_true, Bool.true_and, Bool.and_self, Bool.and_false, Bool.false_and, allOne, List.isEmpty_toArray, List.isEmpty_nil, lenV, exists_eq_left', Option.some.injEq, Nat.le_refl, Nat.zero_le, Nat.add_zero, Nat.zero_add, decide_true, decide_false, cond_true, cond_false, Int.toNat_natCast, Int.ofNat_lt, Int.ofNat_le, Int.natCast_nonneg, List.length_map, List.getElem?_map, List.getD_eq_getElem?_getD, Option.getD_some, Option.getD_none, fin_pure, List.map_cons, List.map_nil, srcV, ty3, ty4, ty5, ty9, ty31, ty33, ty35, ty73]
  refine CallK.own (H1 := hl2 l) (H2 := []) (by simp) (c67 ts hx d l hd0 hd h0 h1 _ (by omega)) (Wkt.refl _) fun _ => ?_
  simp (maxSteps := 4000000) -implicitDefEqProofs only [↓vc_seq, ↓vc_region, ↓vc_draw, ↓vc_skip, ↓vc_label, ↓vc_ret, ↓vc_exit, ↓vc_block, ↓vc_loop, ↓vc_cond, ↓vcOps_nil, ↓vcOps_plain, ↓vcOps_plain0, ↓vcOps_guard, ↓stepK_some, ↓stepK_none, ↓opK_f, ↓opK_t, ↓op0_f, ↓op0_t, ↓guardD_some, ↓guardV_u, ↓guardV_tt, ↓guardV_tf, ↓guardV_ft, ↓guardV_ff, ↓seqK_eq, ↓drawK_eq, ↓condV_t, ↓condV_f, ↓kq_nil, ↓kq_seq_n, ↓kq_seq_r, ↓kq_seq_x, ↓kq_rnd_n, ↓kq_rnd_r, ↓kq_rnd_x, ↓kq_blk_n, ↓kq_blk_r, ↓kq_blk_hit, ↓kq_blk_miss, ↓thenQ_rnd, ↓fnPost_normal, ↓fnPost_ret,
    guardV_bt, guardV_bf, condV_b, pop, hop, ev, evs, evp, argEnv, get_hit, get_miss, constV, constC, constCs, dstOf_stub, id, List.getElem?_cons_zero, List.getElem?_cons_succ, Option.bind_some, Option.bind_none, Option.map_some, Option.map_none,
    Nat.reduceBEq, bsize_lit, Nat.reduceLT, Nat.reduceLeDiff, Nat.reduceAdd, Nat.reduceSub, Nat.reduceEqDiff, Nat.reduceMul, intBin, strBin, isSh, shV, resK, packV, InK, Int.reduceLE, Int.reduceLT, Int.reduceNeg, true_and, and_true, and_self, eq_self, ↓reduceIte, Bool.false_eq_true, if_true, if_false, true_imp_iff, false_imp_iff, imp_self, forall_const, reduceCtorEq, ne_eq, not_false_eq_true, not_true_eq_false, or_self, or_false, false_or, false_and, and_false,
    hget, hput, V.cells, List.length_cons, List.length_nil, List.drop_zero, List.drop_succ_cons, List.take_succ_cons, List.take_zero, List.take_nil, List.drop_nil, fillV, fillE, List.append_eq, List.cons_append, List.nil_append, List.append_nil, List.set_cons_zero, List.set_cons_succ, List.replicate, nls, nl, List.all_cons, List.all_nil, Bool.not_true, Bool.not_false, Bool.and_true, Bool.true_and, Bool.and_self, Bool.and_false, Bool.false_and, allOne, List.isEmpty_toArray, List.isEmpty_nil, lenV, exists_eq_left', Option.some.injEq, Nat.le_refl, Nat.zero_le, Nat.add_zero, Nat.zero_add, decide_true, decide_false, cond_true, cond_false, Int.toNat_natCast, Int.ofNat_lt, Int.ofNat_le, Int.natCast_nonneg, List.length_map, List.getElem?_map, List.getD_eq_getElem?_getD, Option.getD_some, Option.getD_none, fin_pure, List.map_cons, List.map_nil, srcV, ty3, ty4, ty5, ty9, ty31, ty33, ty35, ty73]
  exact Fin.keep (rest := []) (by simp) (by rw [mayIx_neg]) rfl (by simp [hl2, blB, bls, bl])

set_option maxHeartbeats 2000000 in
theorem c33_step (k : Int) (s : ByteArray) (n : Int) (ts : List Tm) (ih : ∀ x ∈ ts, MayOk x) : MayOk (.mk k s n ts) := by
    intro d l hd h0 h1
    refine CH.of ?_ (by simp [Tm.cells_eq, bls, bl]) rfl (by simp [hl1, blB, bls, bl]) (by simp [hl1, blB, bls, bl])
    unfold hl1
    simp only [Tm.cells]
    refine C.of_vck (c := _) (rs := [.tmp 6]) (n := _) sig rfl (fun d => !(d == 5)) Try.func33 Try.call33 rfl Try.results33 Try.ntmps33 (by simp) (by omega) ?_
    intro hw
    clear hw
    simp (maxSteps := 4000000) -implicitDefEqProofs only [↓vc_seq, ↓vc_region, ↓vc_draw, ↓vc_skip, ↓vc_label, ↓vc_ret, ↓vc_exit, ↓vc_block, ↓vc_loop, ↓vc_cond, ↓vcOps_nil, ↓vcOps_plain, ↓vcOps_plain0, ↓vcOps_guard, ↓stepK_some, ↓stepK_none, ↓opK_f, ↓opK_t, ↓op0_f, ↓op0_t, ↓guardD_some, ↓guardV_u, ↓guardV_tt, ↓guardV_tf, ↓guardV_ft, ↓guardV_ff, ↓seqK_eq, ↓drawK_eq, ↓condV_t, ↓condV_f, ↓kq_nil, ↓kq_seq_n, ↓kq_seq_r, ↓kq_seq_x, ↓kq_rnd_n, ↓kq_rnd_r, ↓kq_rnd_x, ↓kq_blk_n, ↓kq_blk_r, ↓kq_blk_hit, ↓kq_blk_miss, ↓thenQ_rnd, ↓fnPost_normal, ↓fnPost_ret,
    guardV_bt, guardV_bf, condV_b, pop, hop, ev, evs, evp, argEnv, get_hit, get_miss, constV, constC, constCs, dstOf_stub, id, List.getElem?_cons_zero, List.getElem?_cons_succ, Option.bind_some, Option.bind_none, Option.map_some, Option.map_none,
    Nat.reduceBEq, bsize_lit, Nat.reduceLT, Nat.reduceLeDiff, Nat.reduceAdd, Nat.reduceSub, Nat.reduceEqDiff, Nat.reduceMul, intBin, strBin, isSh, shV, resK, packV, InK, Int.reduceLE, Int.reduceLT, Int.reduceNeg, true_and, and_true, and_self, eq_self, ↓reduceIte, Bool.false_eq_true, if_true, if_false, true_imp_iff, false_imp_iff, imp_self, forall_const, reduceCtorEq, ne_eq, not_false_eq_true, not_true_eq_false, or_self, or_false, false_or, false_and, and_false,
    hget, hput, V.cells, List.length_cons, List.length_nil, List.drop_zero, List.drop_succ_cons, List.take_succ_cons, List.take_zero, List.take_nil, List.drop_nil, fillV, fillE, List.append_eq, List.cons_append, List.nil_append, List.append_nil, List.set_cons_zero, List.set_cons_succ, List.replicate, nls, nl, List.all_cons, List.all_nil, Bool.not_true, Bool.not_false, Bool.and_true, Bool.true_and, Bool.and_self, Bool.and_false, Bool.false_and, allOne, List.isEmpty_toArray, List.isEmpty_nil, lenV, exists_eq_left', Option.some.injEq, Nat.le_refl, Nat.zero_le, Nat.add_zero, Nat.zero_add, decide_true, decide_false, cond_true, cond_false, Int.toNat_natCast, Int.ofNat_lt, Int.ofNat_le, Int.natCast_nonneg, List.length_map, List.getElem?_map, List.getD_eq_getElem?_getD, Option.getD_some, Option.getD_none, fin_pure, List.map_cons, List.map_nil, srcV, ty3, ty4, ty5, ty9, ty31, ty33, ty35, ty73]
    have e1 : IntKind.i64.wrap (l - 1) = l - 1 := by
      rw [wrap_in]
      simp only [InK]; omega
    rw [e1]
    generalize hres : mayT (.mk k s n ts) d l = res
    have fin : ∀ b l2, res = (b, l2) → Fin (.b b) [(1, 0, .row 73 [[.ptr 0 0 0 0]]), (0, 0, .row 3 [[.i .i64 l2]])] (.b res.1) [(0, 0, .row 3 [[.i .i64 res.2]])] 1 := by
      rintro b l2 rfl
      exact Fin.keep (rest := [(1, 0, .row 73 [[.ptr 0 0 0 0]])]) (List.Perm.swap ..) rfl rfl (by simp [blB, bls, bl])
    rw [mayT] at hres
    refine spl (fun hd0 => ?_) (fun hd0 => ?_)
    · have : d = 0 := by simpa using hd0
      rw [if_pos (.inl this)] at hres
      exact fin _ _ hres.symm
    have hd1 : ¬ d = 0 := by simpa using hd0
    refine spl (fun hl0 => ?_) (fun hl0 => ?_)
    · have : l - 1 < 0 := by simpa using hl0
      rw [if_pos (.inr this)] at hres
      exact fin _ _ hres.symm
    have hlm : ¬ l - 1 < 0 := by simpa using hl0
    rw [if_neg (by simp only [not_or]; exact ⟨hd1, hlm⟩)] at hres
    refine spl (fun hk => ?_) (fun hk => ?_)
    · have hk : k = 1 := by simpa using hk
      rw [if_pos hk] at hres
      refine CallK.pure (c50 s) (Wkt.refl _) fun _ => ?_
      cases hb : wordB greatB s
      · simp (maxSteps := 4000000) -implicitDefEqProofs only [↓vc_seq, ↓vc_region, ↓vc_draw, ↓vc_skip, ↓vc_label, ↓vc_ret, ↓vc_exit, ↓vc_block, ↓vc_loop, ↓vc_cond, ↓vcOps_nil, ↓vcOps_plain, ↓vcOps_plain0, ↓vcOps_guard, ↓stepK_some, ↓stepK_none, ↓opK_f, ↓opK_t, ↓op0_f, ↓op0_t, ↓guardD_some, ↓guardV_u, ↓guardV_tt, ↓guardV_tf, ↓guardV_ft, ↓guardV_ff, ↓seqK_eq, ↓drawK_eq, ↓condV_t, ↓condV_f, ↓kq_nil, ↓kq_seq_n, ↓kq_seq_r, ↓kq_seq_x, ↓kq_rnd_n, ↓kq_rnd_r, ↓kq_rnd_x, ↓kq_blk_n, ↓kq_blk_r, ↓kq_blk_hit, ↓kq_blk_miss, ↓thenQ_rnd, ↓fnPost_normal, ↓fnPost_ret,
    guardV_bt, guardV_bf, condV_b, pop, hop, ev, evs, evp, argEnv, get_hit, get_miss, constV, constC, constCs, dstOf_stub, id, List.getElem?_cons_zero, List.getElem?_cons_succ, Option.bind_some, Option.bind_none, Option.map_some, Option.map_none,
    Nat.reduceBEq, bsize_lit, Nat.reduceLT, Nat.reduceLeDiff, Nat.reduceAdd, Nat.reduceSub, Nat.reduceEqDiff, Nat.reduceMul, intBin, strBin, isSh, shV, resK, packV, InK, Int.reduceLE, Int.reduceLT, Int.reduceNeg, true_and, and_true, and_self, eq_self, ↓reduceIte, Bool.false_eq_true, if_true, if_false, true_imp_iff, false_imp_iff, imp_self, forall_const, reduceCtorEq, ne_eq, not_false_eq_true, not_true_eq_false, or_self, or_false, false_or, false_and, and_false,
    hget, hput, V.cells, List.length_cons, List.length_nil, List.drop_zero, List.drop_succ_cons, List.take_succ_cons, List.take_zero, List.take_nil, List.drop_nil, fillV, fillE, List.append_eq, List.cons_append, List.nil_append, List.append_nil, List.set_cons_zero, List.set_cons_succ, List.replicate, nls, nl, List.all_cons, List.all_nil, Bool.not_true, Bool.not_false, Bool.and_true, Bool.true_and, Bool.and_self, Bool.and_false, Bool.false_and, allOne, List.isEmpty_toArray, List.isEmpty_nil, lenV, exists_eq_left', Option.some.injEq, Nat.le_refl, Nat.zero_le, Nat.add_zero, Nat.zero_add, decide_true, decide_false, cond_true, cond_false, Int.toNat_natCast, Int.ofNat_lt, Int.ofNat_le, Int.natCast_nonneg, List.length_map, List.getElem?_map, List.getD_eq_getElem?_getD, Option.getD_some, Option.getD_none, fin_pure, List.map_cons, List.map_nil, srcV, ty3, ty4, ty5, ty9, ty31, ty33, ty35, ty73]
        exact fin _ _ (by rw [← hres, hb]; rfl)
      · simp (maxSteps := 4000000) -implicitDefEqProofs only [↓vc_seq, ↓vc_region, ↓vc_draw, ↓vc_skip, ↓vc_label, ↓vc_ret, ↓vc_exit, ↓vc_block, ↓vc_loop, ↓vc_cond, ↓vcOps_nil, ↓vcOps_plain, ↓vcOps_plain0, ↓vcOps_guard, ↓stepK_some, ↓stepK_none, ↓opK_f, ↓opK_t, ↓op0_f, ↓op0_t, ↓guardD_some, ↓guardV_u, ↓guardV_tt, ↓guardV_tf, ↓guardV_ft, ↓guardV_ff, ↓seqK_eq, ↓drawK_eq, ↓condV_t, ↓condV_f, ↓kq_nil, ↓kq_seq_n, ↓kq_seq_r, ↓kq_seq_x, ↓kq_rnd_n, ↓kq_rnd_r, ↓kq_rnd_x, ↓kq_blk_n, ↓kq_blk_r, ↓kq_blk_hit, ↓kq_blk_miss, ↓thenQ_rnd, ↓fnPost_normal, ↓fnPost_ret,
    guardV_bt, guardV_bf, condV_b, pop, hop, ev, evs, evp, argEnv, get_hit, get_miss, constV, constC, constCs, dstOf_stub, id, List.getElem?_cons_zero, List.getElem?_cons_succ, Option.bind_some, Option.bind_none, Option.map_some, Option.map_none,
    Nat.reduceBEq, bsize_lit, Nat.reduceLT, Nat.reduceLeDiff, Nat.reduceAdd, Nat.reduceSub, Nat.reduceEqDiff, Nat.reduceMul, intBin, strBin, isSh, shV, resK, packV, InK, Int.reduceLE, Int.reduceLT, Int.reduceNeg, true_and, and_true, and_self, eq_self, ↓reduceIte, Bool.false_eq_true, if_true, if_false, true_imp_iff, false_imp_iff, imp_self, forall_const, reduceCtorEq, ne_eq, not_false_eq_true, not_true_eq_false, or_self, or_false, false_or, false_and, and_false,
    hget, hput, V.cells, List.length_cons, List.length_nil, List.drop_zero, List.drop_succ_cons, List.take_succ_cons, List.take_zero, List.take_nil, List.drop_nil, fillV, fillE, List.append_eq, List.cons_append, List.nil_append, List.append_nil, List.set_cons_zero, List.set_cons_succ, List.replicate, nls, nl, List.all_cons, List.all_nil, Bool.not_true, Bool.not_false, Bool.and_true, Bool.true_and, Bool.and_self, Bool.and_false, Bool.false_and, allOne, List.isEmpty_toArray, List.isEmpty_nil, lenV, exists_eq_left', Option.some.injEq, Nat.le_refl, Nat.zero_le, Nat.add_zero, Nat.zero_add, decide_true, decide_false, cond_true, cond_false, Int.toNat_natCast, Int.ofNat_lt, Int.ofNat_le, Int.natCast_nonneg, List.length_map, List.getElem?_map, List.getD_eq_getElem?_getD, Option.getD_some, Option.getD_none, fin_pure, List.map_cons, List.map_nil, srcV, ty3, ty4, ty5, ty9, ty31, ty33, ty35, ty73, cellss_len]
        refine spl (fun h2 => ?_) (fun h2 => ?_)
        · refine fin _ _ (by rw [← hres, hb, h2]; simp)
        · refine fin _ _ (by rw [← hres, hb, h2]; rfl)
    have hk1 : ¬ k = 1 := by simpa using hk
    rw [if_neg hk1] at hres
    refine spl (fun hk => ?_) (fun hk => ?_)
    · have hk : k = 2 := by simpa using hk
      rw [if_pos hk] at hres
      refine CallK.pure (c51 n) (Wkt.refl _) fun _ => ?_
      change opK _ _ _ _ _ _ _ _ _ _ _ _ (.b (numB n)) _ _ _
      cases hb : numB n
      · simp (maxSteps := 4000000) -implicitDefEqProofs only [↓vc_seq, ↓vc_region, ↓vc_draw, ↓vc_skip, ↓vc_label, ↓vc_ret, ↓vc_exit, ↓vc_block, ↓vc_loop, ↓vc_cond, ↓vcOps_nil, ↓vcOps_plain, ↓vcOps_plain0, ↓vcOps_guard, ↓stepK_some, ↓stepK_none, ↓opK_f, ↓opK_t, ↓op0_f, ↓op0_t, ↓guardD_some, ↓guardV_u, ↓guardV_tt, ↓guardV_tf, ↓guardV_ft, ↓guardV_ff, ↓seqK_eq, ↓drawK_eq, ↓condV_t, ↓condV_f, ↓kq_nil, ↓kq_seq_n, ↓kq_seq_r, ↓kq_seq_x, ↓kq_rnd_n, ↓kq_rnd_r, ↓kq_rnd_x, ↓kq_blk_n, ↓kq_blk_r, ↓kq_blk_hit, ↓kq_blk_miss, ↓thenQ_rnd, ↓fnPost_normal, ↓fnPost_ret,
    guardV_bt, guardV_bf, condV_b, pop, hop, ev, evs, evp, argEnv, get_hit, get_miss, constV, constC, constCs, dstOf_stub, id, List.getElem?_cons_zero, List.getElem?_cons_succ, Option.bind_some, Option.bind_none, Option.map_some, Option.map_none,
    Nat.reduceBEq, bsize_lit, Nat.reduceLT, Nat.reduceLeDiff, Nat.reduceAdd, Nat.reduceSub, Nat.reduceEqDiff, Nat.reduceMul, intBin, strBin, isSh, shV, resK, packV, InK, Int.reduceLE, Int.reduceLT, Int.reduceNeg, true_and, and_true, and_self, eq_self, ↓reduceIte, Bool.false_eq_true, if_true, if_false, true_imp_iff, false_imp_iff, imp_self, forall_const, reduceCtorEq, ne_eq, not_false_eq_true, not_true_eq_false, or_self, or_false, false_or, false_and, and_false,
    hget, hput, V.cells, List.length_cons, List.length_nil, List.drop_zero, List.drop_succ_cons, List.take_succ_cons, List.take_zero, List.take_nil, List.drop_nil, fillV, fillE, List.append_eq, List.cons_append, List.nil_append, List.append_nil, List.set_cons_zero, List.set_cons_succ, List.replicate, nls, nl, List.all_cons, List.all_nil, Bool.not_true, Bool.not_false, Bool.and_true, Bool.true_and, Bool.and_self, Bool.and_false, Bool.false_and, allOne, List.isEmpty_toArray, List.isEmpty_nil, lenV, exists_eq_left', Option.some.injEq, Nat.le_refl, Nat.zero_le, Nat.add_zero, Nat.zero_add, decide_true, decide_false, cond_true, cond_false, Int.toNat_natCast, Int.ofNat_lt, Int.ofNat_le, Int.natCast_nonneg, List.length_map, List.getElem?_map, List.getD_eq_getElem?_getD, Option.getD_some, Option.getD_none, fin_pure, List.map_cons, List.map_nil, srcV, ty3, ty4, ty5, ty9, ty31, ty33, ty35, ty73]
        exact fin _ _ (by rw [← hres, hb]; rfl)
      · simp (maxSteps := 4000000) -implicitDefEqProofs only [↓vc_seq, ↓vc_region, ↓vc_draw, ↓vc_skip, ↓vc_label, ↓vc_ret, ↓vc_exit, ↓vc_block, ↓vc_loop, ↓vc_cond, ↓vcOps_nil, ↓vcOps_plain, ↓vcOps_plain0, ↓vcOps_guard, ↓stepK_some, ↓stepK_none, ↓opK_f, ↓opK_t, ↓op0_f, ↓op0_t, ↓guardD_some, ↓guardV_u, ↓guardV_tt, ↓guardV_tf, ↓guardV_ft, ↓guardV_ff, ↓seqK_eq, ↓drawK_eq, ↓condV_t, ↓condV_f, ↓kq_nil, ↓kq_seq_n, ↓kq_seq_r, ↓kq_seq_x, ↓kq_rnd_n, ↓kq_rnd_r, ↓kq_rnd_x, ↓kq_blk_n, ↓kq_blk_r, ↓kq_blk_hit, ↓kq_blk_miss, ↓thenQ_rnd, ↓fnPost_normal, ↓fnPost_ret,
    guardV_bt, guardV_bf, condV_b, pop, hop, ev, evs, evp, argEnv, get_hit, get_miss, constV, constC, constCs, dstOf_stub, id, List.getElem?_cons_zero, List.getElem?_cons_succ, Option.bind_some, Option.bind_none, Option.map_some, Option.map_none,
    Nat.reduceBEq, bsize_lit, Nat.reduceLT, Nat.reduceLeDiff, Nat.reduceAdd, Nat.reduceSub, Nat.reduceEqDiff, Nat.reduceMul, intBin, strBin, isSh, shV, resK, packV, InK, Int.reduceLE, Int.reduceLT, Int.reduceNeg, true_and, and_true, and_self, eq_self, ↓reduceIte, Bool.false_eq_true, if_true, if_false, true_imp_iff, false_imp_iff, imp_self, forall_const, reduceCtorEq, ne_eq, not_false_eq_true, not_true_eq_false, or_self, or_false, false_or, false_and, and_false,
    hget, hput, V.cells, List.length_cons, List.length_nil, List.drop_zero, List.drop_succ_cons, List.take_succ_cons, List.take_zero, List.take_nil, List.drop_nil, fillV, fillE, List.append_eq, List.cons_append, List.nil_append, List.append_nil, List.set_cons_zero, List.set_cons_succ, List.replicate, nls, nl, List.all_cons, List.all_nil, Bool.not_true, Bool.not_false, Bool.and_true, Bool.true_and, Bool.and_self, Bool.and_false, Bool.false_and, allOne, List.isEmpty_toArray, List.isEmpty_nil, lenV, exists_eq_left', Option.some.injEq, Nat.le_refl, Nat.zero_le, Nat.add_zero, Nat.zero_add, decide_true, decide_false, cond_true, cond_false, Int.toNat_natCast, Int.ofNat_lt, Int.ofNat_le, Int.natCast_nonneg, List.length_map, List.getElem?_map, List.getD_eq_getElem?_getD, Option.getD_some, Option.getD_none, fin_pure, List.map_cons, List.map_nil, srcV, ty3, ty4, ty5, ty9, ty31, ty33, ty35, ty73, cellss_len, size_zero]
        refine spl (fun h2 => ?_) (fun h2 => ?_)
        · refine fin _ _ (by rw [← hres, hb, h2]; simp)
        · refine fin _ _ (by rw [← hres, hb, h2]; rfl)
    have hk2 : ¬ k = 2 := by simpa using hk
    rw [if_neg hk2] at hres
    refine spl (fun hk => ?_) (fun hk => ?_)
    · have hk : k = 3 := by simpa using hk
      rw [if_pos hk] at hres
      refine CallK.pure (c53 s) (Wkt.refl _) fun _ => ?_
      cases hb : wordB smallB s
      · simp (maxSteps := 4000000) -implicitDefEqProofs only [↓vc_seq, ↓vc_region, ↓vc_draw, ↓vc_skip, ↓vc_label, ↓vc_ret, ↓vc_exit, ↓vc_block, ↓vc_loop, ↓vc_cond, ↓vcOps_nil, ↓vcOps_plain, ↓vcOps_plain0, ↓vcOps_guard, ↓stepK_some, ↓stepK_none, ↓opK_f, ↓opK_t, ↓op0_f, ↓op0_t, ↓guardD_some, ↓guardV_u, ↓guardV_tt, ↓guardV_tf, ↓guardV_ft, ↓guardV_ff, ↓seqK_eq, ↓drawK_eq, ↓condV_t, ↓condV_f, ↓kq_nil, ↓kq_seq_n, ↓kq_seq_r, ↓kq_seq_x, ↓kq_rnd_n, ↓kq_rnd_r, ↓kq_rnd_x, ↓kq_blk_n, ↓kq_blk_r, ↓kq_blk_hit, ↓kq_blk_miss, ↓thenQ_rnd, ↓fnPost_normal, ↓fnPost_ret,
    guardV_bt, guardV_bf, condV_b, pop, hop, ev, evs, evp, argEnv, get_hit, get_miss, constV, constC, constCs, dstOf_stub, id, List.getElem?_cons_zero, List.getElem?_cons_succ, Option.bind_some, Option.bind_none, Option.map_some, Option.map_none,
    Nat.reduceBEq, bsize_lit, Nat.reduceLT, Nat.reduceLeDiff, Nat.reduceAdd, Nat.reduceSub, Nat.reduceEqDiff, Nat.reduceMul, intBin, strBin, isSh, shV, resK, packV, InK, Int.reduceLE, Int.reduceLT, Int.reduceNeg, true_and, and_true, and_self, eq_self, ↓reduceIte, Bool.false_eq_true, if_true, if_false, true_imp_iff, false_imp_iff, imp_self, forall_const, reduceCtorEq, ne_eq, not_false_eq_true, not_true_eq_false, or_self, or_false, false_or, false_and, and_false,
    hget, hput, V.cells, List.length_cons, List.length_nil, List.drop_zero, List.drop_succ_cons, List.take_succ_cons, List.take_zero, List.take_nil, List.drop_nil, fillV, fillE, List.append_eq, List.cons_append, List.nil_append, List.append_nil, List.set_cons_zero, List.set_cons_succ, List.replicate, nls, nl, List.all_cons, List.all_nil, Bool.not_true, Bool.not_false, Bool.and_true, Bool.true_and, Bool.and_self, Bool.and_false, Bool.false_and, allOne, List.isEmpty_toArray, List.isEmpty_nil, lenV, exists_eq_left', Option.some.injEq, Nat.le_refl, Nat.zero_le, Nat.add_zero, Nat.zero_add, decide_true, decide_false, cond_true, cond_false, Int.toNat_natCast, Int.ofNat_lt, Int.ofNat_le, Int.natCast_nonneg, List.length_map, List.getElem?_map, List.getD_eq_getElem?_getD, Option.getD_some, Option.getD_none, fin_pure, List.map_cons, List.map_nil, srcV, ty3, ty4, ty5, ty9, ty31, ty33, ty35, ty73]
        exact fin _ _ (by rw [← hres, hb]; rfl)
      · simp (maxSteps := 4000000) -implicitDefEqProofs only [↓vc_seq, ↓vc_region, ↓vc_draw, ↓vc_skip, ↓vc_label, ↓vc_ret, ↓vc_exit, ↓vc_block, ↓vc_loop, ↓vc_cond, ↓vcOps_nil, ↓vcOps_plain, ↓vcOps_plain0, ↓vcOps_guard, ↓stepK_some, ↓stepK_none, ↓opK_f, ↓opK_t, ↓op0_f, ↓op0_t, ↓guardD_some, ↓guardV_u, ↓guardV_tt, ↓guardV_tf, ↓guardV_ft, ↓guardV_ff, ↓seqK_eq, ↓drawK_eq, ↓condV_t, ↓condV_f, ↓kq_nil, ↓kq_seq_n, ↓kq_seq_r, ↓kq_seq_x, ↓kq_rnd_n, ↓kq_rnd_r, ↓kq_rnd_x, ↓kq_blk_n, ↓kq_blk_r, ↓kq_blk_hit, ↓kq_blk_miss, ↓thenQ_rnd, ↓fnPost_normal, ↓fnPost_ret,
    guardV_bt, guardV_bf, condV_b, pop, hop, ev, evs, evp, argEnv, get_hit, get_miss, constV, constC, constCs, dstOf_stub, id, List.getElem?_cons_zero, List.getElem?_cons_succ, Option.bind_some, Option.bind_none, Option.map_some, Option.map_none,
    Nat.reduceBEq, bsize_lit, Nat.reduceLT, Nat.reduceLeDiff, Nat.reduceAdd, Nat.reduceSub, Nat.reduceEqDiff, Nat.reduceMul, intBin, strBin, isSh, shV, resK, packV, InK, Int.reduceLE, Int.reduceLT, Int.reduceNeg, true_and, and_true, and_self, eq_self, ↓reduceIte, Bool.false_eq_true, if_true, if_false, true_imp_iff, false_imp_iff, imp_self, forall_const, reduceCtorEq, ne_eq, not_false_eq_true, not_true_eq_false, or_self, or_false, false_or, false_and, and_false,
    hget, hput, V.cells, List.length_cons, List.length_nil, List.drop_zero, List.drop_succ_cons, List.take_succ_cons, List.take_zero, List.take_nil, List.drop_nil, fillV, fillE, List.append_eq, List.cons_append, List.nil_append, List.append_nil, List.set_cons_zero, List.set_cons_succ, List.replicate, nls, nl, List.all_cons, List.all_nil, Bool.not_true, Bool.not_false, Bool.and_true, Bool.true_and, Bool.and_self, Bool.and_false, Bool.false_and, allOne, List.isEmpty_toArray, List.isEmpty_nil, lenV, exists_eq_left', Option.some.injEq, Nat.le_refl, Nat.zero_le, Nat.add_zero, Nat.zero_add, decide_true, decide_false, cond_true, cond_false, Int.toNat_natCast, Int.ofNat_lt, Int.ofNat_le, Int.natCast_nonneg, List.length_map, List.getElem?_map, List.getD_eq_getElem?_getD, Option.getD_some, Option.getD_none, fin_pure, List.map_cons, List.map_nil, srcV, ty3, ty4, ty5, ty9, ty31, ty33, ty35, ty73, cellss_len]
        refine spl (fun hn => ?_) (fun hn => ?_)
        · have hn : n = 0 := by simpa using hn
          refine spl (fun hq => ?_) (fun hq => ?_)
          · have hq : ts.length ≤ 4 := by simp at hq; omega
            rw [if_pos (by simp [hb, hn, hq])] at hres
            refine CallK.own (H1 := hl2 (l - 1)) (H2 := []) (by simp [hl2]) (c54 ts ih d (l - 1) (by omega) hd (by omega) (by omega) _ (by omega)) (Wkt.refl _) fun _ => ?_
            simp (maxSteps := 4000000) -implicitDefEqProofs only [↓vc_seq, ↓vc_region, ↓vc_draw, ↓vc_skip, ↓vc_label, ↓vc_ret, ↓vc_exit, ↓vc_block, ↓vc_loop, ↓vc_cond, ↓vcOps_nil, ↓vcOps_plain, ↓vcOps_plain0, ↓vcOps_guard, ↓stepK_some, ↓stepK_none, ↓opK_f, ↓opK_t, ↓op0_f, ↓op0_t, ↓guardD_some, ↓guardV_u, ↓guardV_tt, ↓guardV_tf, ↓guardV_ft, ↓guardV_ff, ↓seqK_eq, ↓drawK_eq, ↓condV_t, ↓condV_f, ↓kq_nil, ↓kq_seq_n, ↓kq_seq_r, ↓kq_seq_x, ↓kq_rnd_n, ↓kq_rnd_r, ↓kq_rnd_x, ↓kq_blk_n, ↓kq_blk_r, ↓kq_blk_hit, ↓kq_blk_miss, ↓thenQ_rnd, ↓fnPost_normal, ↓fnPost_ret,
    guardV_bt, guardV_bf, condV_b, pop, hop, ev, evs, evp, argEnv, get_hit, get_miss, constV, constC, constCs, dstOf_stub, id, List.getElem?_cons_zero, List.getElem?_cons_succ, Option.bind_some, Option.bind_none, Option.map_some, Option.map_none,
    Nat.reduceBEq, bsize_lit, Nat.reduceLT, Nat.reduceLeDiff, Nat.reduceAdd, Nat.reduceSub, Nat.reduceEqDiff, Nat.reduceMul, intBin, strBin, isSh, shV, resK, packV, InK, Int.reduceLE, Int.reduceLT, Int.reduceNeg, true_and, and_true, and_self, eq_self, ↓reduceIte, Bool.false_eq_true, if_true, if_false, true_imp_iff, false_imp_iff, imp_self, forall_const, reduceCtorEq, ne_eq, not_false_eq_true, not_true_eq_false, or_self, or_false, false_or, false_and, and_false,
    hget, hput, V.cells, List.length_cons, List.length_nil, List.drop_zero, List.drop_succ_cons, List.take_succ_cons, List.take_zero, List.take_nil, List.drop_nil, fillV, fillE, List.append_eq, List.cons_append, List.nil_append, List.append_nil, List.set_cons_zero, List.set_cons_succ, List.replicate, nls, nl, List.all_cons, List.all_nil, Bool.not_true, Bool.not_false, Bool.and_true, Bool.true_and, Bool.and_self, Bool.and_false, Bool.false_and, allOne, List.isEmpty_toArray, List.isEmpty_nil, lenV, exists_eq_left', Option.some.injEq, Nat.le_refl, Nat.zero_le, Nat.add_zero, Nat.zero_add, decide_true, decide_false, cond_true, cond_false, Int.toNat_natCast, Int.ofNat_lt, Int.ofNat_le, Int.natCast_nonneg, List.length_map, List.getElem?_map, List.getD_eq_getElem?_getD, Option.getD_some, Option.getD_none, fin_pure, List.map_cons, List.map_nil, srcV, ty3, ty4, ty5, ty9, ty31, ty33, ty35, ty73, hl2, Bool.not_not]
            exact fin _ _ hres.symm
          · have hq : ¬ ts.length ≤ 4 := by simp at hq; omega
            rw [if_neg (by simp [hq])] at hres
            exact fin _ _ hres.symm
        · have hn : ¬ n = 0 := by simpa using hn
          rw [if_neg (by simp [hn])] at hres
          exact fin _ _ hres.symm
    · have hk : ¬ k = 3 := by simpa using hk
      rw [if_neg hk] at hres
      exact fin _ _ hres.symm

theorem c33 : ∀ (t : Tm), MayOk t
  | .mk k s n ts => c33_step k s n ts fun x _ => c33 x
termination_by t => SizeOf.sizeOf t

theorem c21 (t : Tm) : CV Try.prog 21 [.agg t.cells] (.b (mayT t 5 24).1) := by
  rw [Tm.cells_eq]
  refine CV.of_vc0 (c := _) (rs := [.tmp 2]) (n := _) sig rfl (fun _ => true) Try.func21 Try.call21 rfl Try.results21 Try.ntmps21 (by simp) (by simp [nls, nl]) (by simp [nls, nl]) ?_
  intro hw
  clear hw
  simp (maxSteps := 4000000) -implicitDefEqProofs only [↓vc_seq, ↓vc_region, ↓vc_draw, ↓vc_skip, ↓vc_label, ↓vc_ret, ↓vc_exit, ↓vc_block, ↓vc_loop, ↓vc_cond, ↓vcOps_nil, ↓vcOps_plain, ↓vcOps_plain0, ↓vcOps_guard, ↓stepK_some, ↓stepK_none, ↓opK_f, ↓opK_t, ↓op0_f, ↓op0_t, ↓guardD_some, ↓guardV_u, ↓guardV_tt, ↓guardV_tf, ↓guardV_ft, ↓guardV_ff, ↓seqK_eq, ↓drawK_eq, ↓condV_t, ↓condV_f, ↓kq_nil, ↓kq_seq_n, ↓kq_seq_r, ↓kq_seq_x, ↓kq_rnd_n, ↓kq_rnd_r, ↓kq_rnd_x, ↓kq_blk_n, ↓kq_blk_r, ↓kq_blk_hit, ↓kq_blk_miss, ↓thenQ_rnd, ↓fnPost_normal, ↓fnPost_ret,
    guardV_bt, guardV_bf, condV_b, pop, hop, ev, evs, evp, argEnv, get_hit, get_miss, constV, constC, constCs, dstOf_stub, id, List.getElem?_cons_zero, List.getElem?_cons_succ, Option.bind_some, Option.bind_none, Option.map_some, Option.map_none,
    Nat.reduceBEq, bsize_lit, Nat.reduceLT, Nat.reduceLeDiff, Nat.reduceAdd, Nat.reduceSub, Nat.reduceEqDiff, Nat.reduceMul, intBin, strBin, isSh, shV, resK, packV, InK, Int.reduceLE, Int.reduceLT, Int.reduceNeg, true_and, and_true, and_self, eq_self, ↓reduceIte, Bool.false_eq_true, if_true, if_false, true_imp_iff, false_imp_iff, imp_self, forall_const, reduceCtorEq, ne_eq, not_false_eq_true, not_true_eq_false, or_self, or_false, false_or, false_and, and_false,
    hget, hput, V.cells, List.length_cons, List.length_nil, List.drop_zero, List.drop_succ_cons, List.take_succ_cons, List.take_zero, List.take_nil, List.drop_nil, fillV, fillE, List.append_eq, List.cons_append, List.nil_append, List.append_nil, List.set_cons_zero, List.set_cons_succ, List.replicate, nls, nl, List.all_cons, List.all_nil, Bool.not_true, Bool.not_false, Bool.and_true, Bool.true_and, Bool.and_self, Bool.and_false, Bool.false_and, allOne, List.isEmpty_toArray, List.isEmpty_nil, lenV, exists_eq_left', Option.some.injEq, Nat.le_refl, Nat.zero_le, Nat.add_zero, Nat.zero_add, decide_true, decide_false, cond_true, cond_false, Int.toNat_natCast, Int.ofNat_lt, Int.ofNat_le, Int.natCast_nonneg, List.length_map, List.getElem?_map, List.getD_eq_getElem?_getD, Option.getD_some, Option.getD_none, fin_pure, List.map_cons, List.map_nil, srcV, ty3, ty4, ty5, ty9, ty31, ty33, ty35, ty73]
  refine CallK.own (H1 := hl1 24) (H2 := []) (by simp [hl1]) (c33 t 5 24 (by omega) (by omega) (by omega) _ (by omega)) (by rw [Tm.cells_eq]; exact Wkt.refl _) fun _ => ?_
  simp (maxSteps := 4000000) -implicitDefEqProofs only [↓vc_seq, ↓vc_region, ↓vc_draw, ↓vc_skip, ↓vc_label, ↓vc_ret, ↓vc_exit, ↓vc_block, ↓vc_loop, ↓vc_cond, ↓vcOps_nil, ↓vcOps_plain, ↓vcOps_plain0, ↓vcOps_guard, ↓stepK_some, ↓stepK_none, ↓opK_f, ↓opK_t, ↓op0_f, ↓op0_t, ↓guardD_some, ↓guardV_u, ↓guardV_tt, ↓guardV_tf, ↓guardV_ft, ↓guardV_ff, ↓seqK_eq, ↓drawK_eq, ↓condV_t, ↓condV_f, ↓kq_nil, ↓kq_seq_n, ↓kq_seq_r, ↓kq_seq_x, ↓kq_rnd_n, ↓kq_rnd_r, ↓kq_rnd_x, ↓kq_blk_n, ↓kq_blk_r, ↓kq_blk_hit, ↓kq_blk_miss, ↓thenQ_rnd, ↓fnPost_normal, ↓fnPost_ret,
    guardV_bt, guardV_bf, condV_b, pop, hop, ev, evs, evp, argEnv, get_hit, get_miss, constV, constC, constCs, dstOf_stub, id, List.getElem?_cons_zero, List.getElem?_cons_succ, Option.bind_some, Option.bind_none, Option.map_some, Option.map_none,
    Nat.reduceBEq, bsize_lit, Nat.reduceLT, Nat.reduceLeDiff, Nat.reduceAdd, Nat.reduceSub, Nat.reduceEqDiff, Nat.reduceMul, intBin, strBin, isSh, shV, resK, packV, InK, Int.reduceLE, Int.reduceLT, Int.reduceNeg, true_and, and_true, and_self, eq_self, ↓reduceIte, Bool.false_eq_true, if_true, if_false, true_imp_iff, false_imp_iff, imp_self, forall_const, reduceCtorEq, ne_eq, not_false_eq_true, not_true_eq_false, or_self, or_false, false_or, false_and, and_false,
    hget, hput, V.cells, List.length_cons, List.length_nil, List.drop_zero, List.drop_succ_cons, List.take_succ_cons, List.take_zero, List.take_nil, List.drop_nil, fillV, fillE, List.append_eq, List.cons_append, List.nil_append, List.append_nil, List.set_cons_zero, List.set_cons_succ, List.replicate, nls, nl, List.all_cons, List.all_nil, Bool.not_true, Bool.not_false, Bool.and_true, Bool.true_and, Bool.and_self, Bool.and_false, Bool.false_and, allOne, List.isEmpty_toArray, List.isEmpty_nil, lenV, exists_eq_left', Option.some.injEq, Nat.le_refl, Nat.zero_le, Nat.add_zero, Nat.zero_add, decide_true, decide_false, cond_true, cond_false, Int.toNat_natCast, Int.ofNat_lt, Int.ofNat_le, Int.natCast_nonneg, List.length_map, List.getElem?_map, List.getD_eq_getElem?_getD, Option.getD_some, Option.getD_none, fin_pure, List.map_cons, List.map_nil, srcV, ty3, ty4, ty5, ty9, ty31, ty33, ty35, ty73]
  exact Fin.nl rfl rfl
end Go.L1.Try
