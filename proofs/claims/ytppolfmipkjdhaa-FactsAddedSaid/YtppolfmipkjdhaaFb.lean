import Derived.Test.YtppolfmipkjdhaaFa
/-! Seat of almagestlaw9.FactsAdded: cmp.Or. -/
-- alias Try
-- tys ty3 ty4 ty5 ty9 ty24
set_option linter.all false
set_option maxRecDepth 100000
namespace Go.L1.Try
open Go.RowKit Go.Proofs
variable [Zero Prop]

def orI : List Int → Int
  | [] => 0
  | x :: xs => if x ≠ 0 then x else orI xs

def ints (xs : List Int) : V := .dsl 1 (xs.map fun x => [.i .i64 x])

theorem orI_drop {xs : List Int} {i : Nat} (hi : i < xs.length) : orI (xs.drop i) = if xs[i] ≠ 0 then xs[i] else orI (xs.drop (i + 1)) := by
  rw [List.drop_eq_getElem_cons hi, orI]

theorem wfInt {xs : List Int} (h : Wfe (xs.map fun x => [V.i .i64 x])) : ∀ x ∈ xs, InK .i64 x := by
  induction xs with
  | nil => simp
  | cons y ys ih =>
    simp only [List.map_cons, Wfe, Wfs, Wf, and_true] at h
    simp only [List.mem_cons, forall_eq_or_imp]
    exact ⟨h.1, ih h.2⟩

theorem c29 (xs : List Int) : CV Try.prog 29 [ints xs] (.i .i64 (orI xs)) := by
  unfold ints
  refine CV.of_vc (c := _) (rs := [.tmp 2]) (n := _) sig rfl (fun _ => true) Try.func29 Try.call29 rfl Try.results29 Try.ntmps29 (by simp) ?_
  intro nx hw
  have hlen : xs.length ≤ maxLen := by simp only [Wfs, Wf, List.length_map] at hw; exact hw.1.1
  unfold maxLen at hlen
  simp (maxSteps := 4000000) -implicitDefEqProofs only [↓vc_seq, ↓vc_region, ↓vc_draw, ↓vc_skip, ↓vc_label, ↓vc_ret, ↓vc_exit, ↓vc_block, ↓vc_loop, ↓vc_cond, ↓vcOps_nil, ↓vcOps_plain, ↓vcOps_plain0, ↓vcOps_guard, ↓stepK_some, ↓stepK_none, ↓opK_f, ↓opK_t, ↓op0_f, ↓op0_t, ↓guardD_some, ↓guardV_u, ↓guardV_tt, ↓guardV_tf, ↓guardV_ft, ↓guardV_ff, ↓seqK_eq, ↓drawK_eq, ↓condV_t, ↓condV_f, ↓kq_nil, ↓kq_seq_n, ↓kq_seq_r, ↓kq_seq_x, ↓kq_rnd_n, ↓kq_rnd_r, ↓kq_rnd_x, ↓kq_blk_n, ↓kq_blk_r, ↓kq_blk_hit, ↓kq_blk_miss, ↓thenQ_rnd, ↓fnPost_normal, ↓fnPost_ret,
    guardV_bt, guardV_bf, condV_b, pop, hop, ev, evs, evp, argEnv, get_hit, get_miss, constV, constC, constCs, dstOf_stub, id, List.getElem?_cons_zero, List.getElem?_cons_succ, Option.bind_some, Option.bind_none, Option.map_some, Option.map_none,
    Nat.reduceBEq, bsize_lit, Nat.reduceLT, Nat.reduceLeDiff, Nat.reduceAdd, Nat.reduceSub, Nat.reduceEqDiff, Nat.reduceMul, intBin, strBin, isSh, shV, resK, packV, InK, Int.reduceLE, Int.reduceLT, Int.reduceNeg, true_and, and_true, and_self, eq_self, ↓reduceIte, Bool.false_eq_true, if_true, if_false, true_imp_iff, false_imp_iff, imp_self, forall_const, reduceCtorEq, ne_eq, not_false_eq_true, not_true_eq_false, or_self, or_false, false_or, false_and, and_false,
    hget, hput, V.cells, List.length_cons, List.length_nil, List.drop_zero, List.drop_succ_cons, List.take_succ_cons, List.take_zero, List.take_nil, List.drop_nil, fillV, fillE, List.append_eq, List.cons_append, List.nil_append, List.append_nil, List.set_cons_zero, List.set_cons_succ, List.replicate, nls, nl, List.all_cons, List.all_nil, Bool.not_true, Bool.not_false, Bool.and_true, Bool.true_and, Bool.and_self, Bool.and_false, Bool.false_and, allOne, List.isEmpty_toArray, List.isEmpty_nil, lenV, exists_eq_left', Option.some.injEq, Nat.le_refl, Nat.zero_le, Nat.add_zero, Nat.zero_add, decide_true, decide_false, cond_true, cond_false, Int.toNat_natCast, Int.ofNat_lt, Int.ofNat_le, Int.natCast_nonneg, List.length_map, List.getElem?_map, List.getD_eq_getElem?_getD, Option.getD_some, Option.getD_none, fin_pure, List.map_cons, List.map_nil, srcV, ty3, ty4, ty5, ty9, ty24]
  refine ⟨{ i : Nat // i ≤ xs.length ∧ orI (xs.drop i) = orI xs }, fun i => [(8, .i .i64 i.1), (7, .i .i64 xs.length), (6, .dsl 1 (xs.map fun x => [.i .i64 x])), (3, .i .i64 0), (2, .i .i64 0)], fun _ => [], nx, fun i => xs.length - i.1, [], ?_, ?_⟩
  · refine ⟨Nat.le_refl _, ⟨0, Nat.zero_le _, by simp⟩, [], ?_⟩
    simp [Sub, Env.get, frV_nil, bl]
  · rintro ⟨i, hi, ho⟩ hwf
    simp only
    simp (maxSteps := 4000000) -implicitDefEqProofs only [↓vc_seq, ↓vc_region, ↓vc_draw, ↓vc_skip, ↓vc_label, ↓vc_ret, ↓vc_exit, ↓vc_block, ↓vc_loop, ↓vc_cond, ↓vcOps_nil, ↓vcOps_plain, ↓vcOps_plain0, ↓vcOps_guard, ↓stepK_some, ↓stepK_none, ↓opK_f, ↓opK_t, ↓op0_f, ↓op0_t, ↓guardD_some, ↓guardV_u, ↓guardV_tt, ↓guardV_tf, ↓guardV_ft, ↓guardV_ff, ↓seqK_eq, ↓drawK_eq, ↓condV_t, ↓condV_f, ↓kq_nil, ↓kq_seq_n, ↓kq_seq_r, ↓kq_seq_x, ↓kq_rnd_n, ↓kq_rnd_r, ↓kq_rnd_x, ↓kq_blk_n, ↓kq_blk_r, ↓kq_blk_hit, ↓kq_blk_miss, ↓thenQ_rnd, ↓fnPost_normal, ↓fnPost_ret,
    guardV_bt, guardV_bf, condV_b, pop, hop, ev, evs, evp, argEnv, get_hit, get_miss, constV, constC, constCs, dstOf_stub, id, List.getElem?_cons_zero, List.getElem?_cons_succ, Option.bind_some, Option.bind_none, Option.map_some, Option.map_none,
    Nat.reduceBEq, bsize_lit, Nat.reduceLT, Nat.reduceLeDiff, Nat.reduceAdd, Nat.reduceSub, Nat.reduceEqDiff, Nat.reduceMul, intBin, strBin, isSh, shV, resK, packV, InK, Int.reduceLE, Int.reduceLT, Int.reduceNeg, true_and, and_true, and_self, eq_self, ↓reduceIte, Bool.false_eq_true, if_true, if_false, true_imp_iff, false_imp_iff, imp_self, forall_const, reduceCtorEq, ne_eq, not_false_eq_true, not_true_eq_false, or_self, or_false, false_or, false_and, and_false,
    hget, hput, V.cells, List.length_cons, List.length_nil, List.drop_zero, List.drop_succ_cons, List.take_succ_cons, List.take_zero, List.take_nil, List.drop_nil, fillV, fillE, List.append_eq, List.cons_append, List.nil_append, List.append_nil, List.set_cons_zero, List.set_cons_succ, List.replicate, nls, nl, List.all_cons, List.all_nil, Bool.not_true, Bool.not_false, Bool.and_true, Bool.true_and, Bool.and_self, Bool.and_false, Bool.false_and, allOne, List.isEmpty_toArray, List.isEmpty_nil, lenV, exists_eq_left', Option.some.injEq, Nat.le_refl, Nat.zero_le, Nat.add_zero, Nat.zero_add, decide_true, decide_false, cond_true, cond_false, Int.toNat_natCast, Int.ofNat_lt, Int.ofNat_le, Int.natCast_nonneg, List.length_map, List.getElem?_map, List.getD_eq_getElem?_getD, Option.getD_some, Option.getD_none, fin_pure, List.map_cons, List.map_nil, srcV, ty3, ty4, ty5, ty9, ty24]
    refine spl (fun hc => ?_) (fun hc => ?_)
    · have hi2 : i < xs.length := by simpa using hc
      have hw2 : InK .i64 xs[i] := by
        have := hwf 6 _ rfl
        simp only [Wf] at this
        exact wfInt this.2 _ (List.getElem_mem hi2)
      refine ⟨hi2, ?_⟩
      simp (maxSteps := 4000000) -implicitDefEqProofs only [↓vc_seq, ↓vc_region, ↓vc_draw, ↓vc_skip, ↓vc_label, ↓vc_ret, ↓vc_exit, ↓vc_block, ↓vc_loop, ↓vc_cond, ↓vcOps_nil, ↓vcOps_plain, ↓vcOps_plain0, ↓vcOps_guard, ↓stepK_some, ↓stepK_none, ↓opK_f, ↓opK_t, ↓op0_f, ↓op0_t, ↓guardD_some, ↓guardV_u, ↓guardV_tt, ↓guardV_tf, ↓guardV_ft, ↓guardV_ff, ↓seqK_eq, ↓drawK_eq, ↓condV_t, ↓condV_f, ↓kq_nil, ↓kq_seq_n, ↓kq_seq_r, ↓kq_seq_x, ↓kq_rnd_n, ↓kq_rnd_r, ↓kq_rnd_x, ↓kq_blk_n, ↓kq_blk_r, ↓kq_blk_hit, ↓kq_blk_miss, ↓thenQ_rnd, ↓fnPost_normal, ↓fnPost_ret,
    guardV_bt, guardV_bf, condV_b, pop, hop, ev, evs, evp, argEnv, get_hit, get_miss, constV, constC, constCs, dstOf_stub, id, List.getElem?_cons_zero, List.getElem?_cons_succ, Option.bind_some, Option.bind_none, Option.map_some, Option.map_none,
    Nat.reduceBEq, bsize_lit, Nat.reduceLT, Nat.reduceLeDiff, Nat.reduceAdd, Nat.reduceSub, Nat.reduceEqDiff, Nat.reduceMul, intBin, strBin, isSh, shV, resK, packV, InK, Int.reduceLE, Int.reduceLT, Int.reduceNeg, true_and, and_true, and_self, eq_self, ↓reduceIte, Bool.false_eq_true, if_true, if_false, true_imp_iff, false_imp_iff, imp_self, forall_const, reduceCtorEq, ne_eq, not_false_eq_true, not_true_eq_false, or_self, or_false, false_or, false_and, and_false,
    hget, hput, V.cells, List.length_cons, List.length_nil, List.drop_zero, List.drop_succ_cons, List.take_succ_cons, List.take_zero, List.take_nil, List.drop_nil, fillV, fillE, List.append_eq, List.cons_append, List.nil_append, List.append_nil, List.set_cons_zero, List.set_cons_succ, List.replicate, nls, nl, List.all_cons, List.all_nil, Bool.not_true, Bool.not_false, Bool.and_true, Bool.true_and, Bool.and_self, Bool.and_false, Bool.false_and, allOne, List.isEmpty_toArray, List.isEmpty_nil, lenV, exists_eq_left', Option.some.injEq, Nat.le_refl, Nat.zero_le, Nat.add_zero, Nat.zero_add, decide_true, decide_false, cond_true, cond_false, Int.toNat_natCast, Int.ofNat_lt, Int.ofNat_le, Int.natCast_nonneg, List.length_map, List.getElem?_map, List.getD_eq_getElem?_getD, Option.getD_some, Option.getD_none, fin_pure, List.map_cons, List.map_nil, srcV, ty3, ty4, ty5, ty9, ty24, List.getElem?_eq_getElem hi2]
      refine spl (fun h0 => ?_) (fun h0 => ?_)
      · refine ⟨?_, rfl⟩
        rw [← ho, orI_drop hi2]
        simp at h0; simp [h0]
      · have e1 : (IntKind.i64.wrap (i + 1) : Int) = ((i + 1 : Nat) : Int) := by
          rw [wrap_in]
          · omega
          · simp only [InK]; omega
        refine ⟨⟨i + 1, by omega, ?_⟩, ?_, [], ?_⟩
        · rw [← ho, orI_drop hi2]
          simp at h0; simp [h0]
        · simp only; omega
        · simp [Sub, Env.get, frV_nil, bl, e1]
    · have hi2 : i = xs.length := by simp at hc; omega
      subst hi2
      refine ⟨?_, rfl⟩
      rw [← ho]; simp [orI]
end Go.L1.Try
