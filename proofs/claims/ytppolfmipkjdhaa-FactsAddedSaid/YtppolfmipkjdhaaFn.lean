import Derived.Test.YtppolfmipkjdhaaFm
import Derived.Test.YtppolfmipkjdhaaLx
/-! Seat of almagestlaw9.FactsAdded: facts.Owns, Find, Add. -/
-- alias Try
-- tys ty3 ty4 ty5 ty9 ty22 ty28 ty31 ty33 ty35 ty37 ty50
set_option linter.all false
set_option maxRecDepth 100000
namespace Go.L1.Try
open Go.RowKit Go.Proofs

def ownK (k : Kp) : Kp := ⟨k.seq, ownF k.f⟩
theorem kcells_bls (n : Nat) (l : List Kp) : ∀ x ∈ l.map Kp.cells, bls n x = true := by
  intro x hx
  obtain ⟨t, _, rfl⟩ := List.mem_map.1 hx
  exact (bls_of_nls n _).1 (Kp.cells_nls _)
theorem kcells_nls (l : List Kp) : (l.map Kp.cells).all nls = true := by
  simp [Kp.cells_nls]

theorem c16 (l : List Kp) (hlen : l.length ≤ 1000000) (hok : ∀ k ∈ l, okT k.f.t = true) : CN Try.prog 16 [kps l] l.length l.length 7 50 ((l.map ownK).map Kp.cells) := by
  unfold kps
  refine CN.of ?_ (by simp [nls, nl]) (kcells_nls _)
  refine C.of_vck (c := _) (rs := [.tmp 2]) (n := _) sig rfl (fun _ => true) Try.func16 Try.call16 rfl Try.results16 Try.ntmps16 (by simp) (by omega) ?_
  intro hw
  clear hw
  simp (maxSteps := 4000000) -implicitDefEqProofs only [↓vc_seq, ↓vc_region, ↓vc_draw, ↓vc_skip, ↓vc_label, ↓vc_ret, ↓vc_exit, ↓vc_block, ↓vc_loop, ↓vc_cond, ↓vcOps_nil, ↓vcOps_plain, ↓vcOps_plain0, ↓vcOps_guard, ↓stepK_some, ↓stepK_none, ↓opK_f, ↓opK_t, ↓op0_f, ↓op0_t, ↓guardD_some, ↓guardV_u, ↓guardV_tt, ↓guardV_tf, ↓guardV_ft, ↓guardV_ff, ↓seqK_eq, ↓drawK_eq, ↓condV_t, ↓condV_f, ↓kq_nil, ↓kq_seq_n, ↓kq_seq_r, ↓kq_seq_x, ↓kq_rnd_n, ↓kq_rnd_r, ↓kq_rnd_x, ↓kq_blk_n, ↓kq_blk_r, ↓kq_blk_hit, ↓kq_blk_miss, ↓thenQ_rnd, ↓fnPost_normal, ↓fnPost_ret,
    guardV_bt, guardV_bf, condV_b, pop, hop, ev, evs, evp, argEnv, get_hit, get_miss, constV, constC, constCs, dstOf_stub, id, List.getElem?_cons_zero, List.getElem?_cons_succ, Option.bind_some, Option.bind_none, Option.map_some, Option.map_none,
    Nat.reduceBEq, bsize_lit, Nat.reduceLT, Nat.reduceLeDiff, Nat.reduceAdd, Nat.reduceSub, Nat.reduceEqDiff, Nat.reduceMul, intBin, strBin, isSh, shV, resK, packV, InK, Int.reduceLE, Int.reduceLT, Int.reduceNeg, true_and, and_true, and_self, eq_self, ↓reduceIte, Bool.false_eq_true, if_true, if_false, true_imp_iff, false_imp_iff, imp_self, forall_const, reduceCtorEq, ne_eq, not_false_eq_true, not_true_eq_false, or_self, or_false, false_or, false_and, and_false,
    hget, hput, V.cells, List.length_cons, List.length_nil, List.drop_zero, List.drop_succ_cons, List.take_succ_cons, List.take_zero, List.take_nil, List.drop_nil, fillV, fillE, List.append_eq, List.cons_append, List.nil_append, List.append_nil, List.set_cons_zero, List.set_cons_succ, List.replicate, nls, nl, List.all_cons, List.all_nil, Bool.not_true, Bool.not_false, Bool.and_true, Bool.true_and, Bool.and_self, Bool.and_false, Bool.false_and, allOne, List.isEmpty_toArray, List.isEmpty_nil, lenV, exists_eq_left', Option.some.injEq, Nat.le_refl, Nat.zero_le, Nat.add_zero, Nat.zero_add, decide_true, decide_false, cond_true, cond_false, Int.toNat_natCast, Int.ofNat_lt, Int.ofNat_le, Int.natCast_nonneg, List.length_map, List.getElem?_map, List.getD_eq_getElem?_getD, Option.getD_some, Option.getD_none, fin_pure, List.map_cons, List.map_nil, srcV, ty3, ty4, ty5, ty9, ty22, ty28, ty31, ty33, ty35, ty37, ty50]
  refine ⟨{ i : Nat // i ≤ l.length }, fun i => [(7, .i .i64 i.1), (6, .i .i64 l.length), (5, .dsl 7 (l.map Kp.cells)), (2, .sl 0 i.1 0 i.1 7)],
    fun i => [(0, i.1, .row 50 (((l.take i.1).map ownK).map Kp.cells))], 1, fun i => l.length - i.1, [(2, 50, 7)], ?_, ?_⟩
  · simp only [convs]
    refine ⟨rfl, by omega, Nat.le_refl _, ⟨0, Nat.zero_le _⟩, [], by simp, ?_, ?_⟩
    · simp [Sub, Env.get, Env.put, frV_nil, bl, bls]
    · simp [blB, bls, bl]
  · rintro ⟨i, hi⟩ hwf
    clear hwf
    simp only
    have hl0 : (((l.take i).map ownK).map Kp.cells).length = i := by simp; omega
    simp (maxSteps := 4000000) -implicitDefEqProofs only [↓vc_seq, ↓vc_region, ↓vc_draw, ↓vc_skip, ↓vc_label, ↓vc_ret, ↓vc_exit, ↓vc_block, ↓vc_loop, ↓vc_cond, ↓vcOps_nil, ↓vcOps_plain, ↓vcOps_plain0, ↓vcOps_guard, ↓stepK_some, ↓stepK_none, ↓opK_f, ↓opK_t, ↓op0_f, ↓op0_t, ↓guardD_some, ↓guardV_u, ↓guardV_tt, ↓guardV_tf, ↓guardV_ft, ↓guardV_ff, ↓seqK_eq, ↓drawK_eq, ↓condV_t, ↓condV_f, ↓kq_nil, ↓kq_seq_n, ↓kq_seq_r, ↓kq_seq_x, ↓kq_rnd_n, ↓kq_rnd_r, ↓kq_rnd_x, ↓kq_blk_n, ↓kq_blk_r, ↓kq_blk_hit, ↓kq_blk_miss, ↓thenQ_rnd, ↓fnPost_normal, ↓fnPost_ret,
    guardV_bt, guardV_bf, condV_b, pop, hop, ev, evs, evp, argEnv, get_hit, get_miss, constV, constC, constCs, dstOf_stub, id, List.getElem?_cons_zero, List.getElem?_cons_succ, Option.bind_some, Option.bind_none, Option.map_some, Option.map_none,
    Nat.reduceBEq, bsize_lit, Nat.reduceLT, Nat.reduceLeDiff, Nat.reduceAdd, Nat.reduceSub, Nat.reduceEqDiff, Nat.reduceMul, intBin, strBin, isSh, shV, resK, packV, InK, Int.reduceLE, Int.reduceLT, Int.reduceNeg, true_and, and_true, and_self, eq_self, ↓reduceIte, Bool.false_eq_true, if_true, if_false, true_imp_iff, false_imp_iff, imp_self, forall_const, reduceCtorEq, ne_eq, not_false_eq_true, not_true_eq_false, or_self, or_false, false_or, false_and, and_false,
    hget, hput, V.cells, List.length_cons, List.length_nil, List.drop_zero, List.drop_succ_cons, List.take_succ_cons, List.take_zero, List.take_nil, List.drop_nil, fillV, fillE, List.append_eq, List.cons_append, List.nil_append, List.append_nil, List.set_cons_zero, List.set_cons_succ, List.replicate, nls, nl, List.all_cons, List.all_nil, Bool.not_true, Bool.not_false, Bool.and_true, Bool.true_and, Bool.and_self, Bool.and_false, Bool.false_and, allOne, List.isEmpty_toArray, List.isEmpty_nil, lenV, exists_eq_left', Option.some.injEq, Nat.le_refl, Nat.zero_le, Nat.add_zero, Nat.zero_add, decide_true, decide_false, cond_true, cond_false, Int.toNat_natCast, Int.ofNat_lt, Int.ofNat_le, Int.natCast_nonneg, List.length_map, List.getElem?_map, List.getD_eq_getElem?_getD, Option.getD_some, Option.getD_none, fin_pure, List.map_cons, List.map_nil, srcV, ty3, ty4, ty5, ty9, ty22, ty28, ty31, ty33, ty35, ty37, ty50, Kp.cells_len, Kp.cells_take, Kp.cells_nls]
    refine spl (fun hc => ?_) (fun hc => ?_)
    · have hi2 : i < l.length := by simpa using hc
      refine ⟨hi2, ?_⟩
      have hkm := List.getElem_mem hi2
      have e0 : ((l.take (i + 1)).map ownK).map Kp.cells = ((l.take i).map ownK).map Kp.cells ++ [(ownK l[i]).cells] := by
        rw [List.take_succ_eq_append_getElem hi2, List.map_append, List.map_append]; rfl
      generalize hkk : l[i] = k at hkm e0
      simp (maxSteps := 4000000) -implicitDefEqProofs only [↓vc_seq, ↓vc_region, ↓vc_draw, ↓vc_skip, ↓vc_label, ↓vc_ret, ↓vc_exit, ↓vc_block, ↓vc_loop, ↓vc_cond, ↓vcOps_nil, ↓vcOps_plain, ↓vcOps_plain0, ↓vcOps_guard, ↓stepK_some, ↓stepK_none, ↓opK_f, ↓opK_t, ↓op0_f, ↓op0_t, ↓guardD_some, ↓guardV_u, ↓guardV_tt, ↓guardV_tf, ↓guardV_ft, ↓guardV_ff, ↓seqK_eq, ↓drawK_eq, ↓condV_t, ↓condV_f, ↓kq_nil, ↓kq_seq_n, ↓kq_seq_r, ↓kq_seq_x, ↓kq_rnd_n, ↓kq_rnd_r, ↓kq_rnd_x, ↓kq_blk_n, ↓kq_blk_r, ↓kq_blk_hit, ↓kq_blk_miss, ↓thenQ_rnd, ↓fnPost_normal, ↓fnPost_ret,
    guardV_bt, guardV_bf, condV_b, pop, hop, ev, evs, evp, argEnv, get_hit, get_miss, constV, constC, constCs, dstOf_stub, id, List.getElem?_cons_zero, List.getElem?_cons_succ, Option.bind_some, Option.bind_none, Option.map_some, Option.map_none,
    Nat.reduceBEq, bsize_lit, Nat.reduceLT, Nat.reduceLeDiff, Nat.reduceAdd, Nat.reduceSub, Nat.reduceEqDiff, Nat.reduceMul, intBin, strBin, isSh, shV, resK, packV, InK, Int.reduceLE, Int.reduceLT, Int.reduceNeg, true_and, and_true, and_self, eq_self, ↓reduceIte, Bool.false_eq_true, if_true, if_false, true_imp_iff, false_imp_iff, imp_self, forall_const, reduceCtorEq, ne_eq, not_false_eq_true, not_true_eq_false, or_self, or_false, false_or, false_and, and_false,
    hget, hput, V.cells, List.length_cons, List.length_nil, List.drop_zero, List.drop_succ_cons, List.take_succ_cons, List.take_zero, List.take_nil, List.drop_nil, fillV, fillE, List.append_eq, List.cons_append, List.nil_append, List.append_nil, List.set_cons_zero, List.set_cons_succ, List.replicate, nls, nl, List.all_cons, List.all_nil, Bool.not_true, Bool.not_false, Bool.and_true, Bool.true_and, Bool.and_self, Bool.and_false, Bool.false_and, allOne, List.isEmpty_toArray, List.isEmpty_nil, lenV, exists_eq_left', Option.some.injEq, Nat.le_refl, Nat.zero_le, Nat.add_zero, Nat.zero_add, decide_true, decide_false, cond_true, cond_false, Int.toNat_natCast, Int.ofNat_lt, Int.ofNat_le, Int.natCast_nonneg, List.length_map, List.getElem?_map, List.getD_eq_getElem?_getD, Option.getD_some, Option.getD_none, fin_pure, List.map_cons, List.map_nil, srcV, ty3, ty4, ty5, ty9, ty22, ty28, ty31, ty33, ty35, ty37, ty50, List.getElem?_eq_getElem hi2, hkk, Kp.cells_eq, Kp.cells_len, Kp.cells_take]
      refine CallK.pure (c17 k.f (hok _ hkm)) (by rw [Fc.cells_eq]; exact Wkt.refl _) fun _ => ?_
      have e2 : (ownK k).cells = .i .i64 k.seq :: (ownF k.f).cells := rfl
      rw [Fc.cells_eq] at e2 ⊢
      simp (maxSteps := 4000000) -implicitDefEqProofs only [↓vc_seq, ↓vc_region, ↓vc_draw, ↓vc_skip, ↓vc_label, ↓vc_ret, ↓vc_exit, ↓vc_block, ↓vc_loop, ↓vc_cond, ↓vcOps_nil, ↓vcOps_plain, ↓vcOps_plain0, ↓vcOps_guard, ↓stepK_some, ↓stepK_none, ↓opK_f, ↓opK_t, ↓op0_f, ↓op0_t, ↓guardD_some, ↓guardV_u, ↓guardV_tt, ↓guardV_tf, ↓guardV_ft, ↓guardV_ff, ↓seqK_eq, ↓drawK_eq, ↓condV_t, ↓condV_f, ↓kq_nil, ↓kq_seq_n, ↓kq_seq_r, ↓kq_seq_x, ↓kq_rnd_n, ↓kq_rnd_r, ↓kq_rnd_x, ↓kq_blk_n, ↓kq_blk_r, ↓kq_blk_hit, ↓kq_blk_miss, ↓thenQ_rnd, ↓fnPost_normal, ↓fnPost_ret,
    guardV_bt, guardV_bf, condV_b, pop, hop, ev, evs, evp, argEnv, get_hit, get_miss, constV, constC, constCs, dstOf_stub, id, List.getElem?_cons_zero, List.getElem?_cons_succ, Option.bind_some, Option.bind_none, Option.map_some, Option.map_none,
    Nat.reduceBEq, bsize_lit, Nat.reduceLT, Nat.reduceLeDiff, Nat.reduceAdd, Nat.reduceSub, Nat.reduceEqDiff, Nat.reduceMul, intBin, strBin, isSh, shV, resK, packV, InK, Int.reduceLE, Int.reduceLT, Int.reduceNeg, true_and, and_true, and_self, eq_self, ↓reduceIte, Bool.false_eq_true, if_true, if_false, true_imp_iff, false_imp_iff, imp_self, forall_const, reduceCtorEq, ne_eq, not_false_eq_true, not_true_eq_false, or_self, or_false, false_or, false_and, and_false,
    hget, hput, V.cells, List.length_cons, List.length_nil, List.drop_zero, List.drop_succ_cons, List.take_succ_cons, List.take_zero, List.take_nil, List.drop_nil, fillV, fillE, List.append_eq, List.cons_append, List.nil_append, List.append_nil, List.set_cons_zero, List.set_cons_succ, List.replicate, nls, nl, List.all_cons, List.all_nil, Bool.not_true, Bool.not_false, Bool.and_true, Bool.true_and, Bool.and_self, Bool.and_false, Bool.false_and, allOne, List.isEmpty_toArray, List.isEmpty_nil, lenV, exists_eq_left', Option.some.injEq, Nat.le_refl, Nat.zero_le, Nat.add_zero, Nat.zero_add, decide_true, decide_false, cond_true, cond_false, Int.toNat_natCast, Int.ofNat_lt, Int.ofNat_le, Int.natCast_nonneg, List.length_map, List.getElem?_map, List.getD_eq_getElem?_getD, Option.getD_some, Option.getD_none, fin_pure, List.map_cons, List.map_nil, srcV, ty3, ty4, ty5, ty9, ty22, ty28, ty31, ty33, ty35, ty37, ty50, Kp.cells_len, Kp.cells_take, Kp.cells_nls]
      rw [wrap_succ (by omega)]
      rw [e2] at e0
      refine ⟨⟨_, rfl⟩, by simp; omega, by omega, by omega, drawOk_of_fast (by kernel_rfl), ⟨i + 1, by omega⟩, by simp only; omega, Weak.p1 (by rw [e0]) ?_ ?_⟩
      · simp [Sub, Env.get, frV, frVs, hget, bl, bls]
      · simp only [List.mem_singleton, forall_eq, blB, List.all_eq_true]
        exact ⟨by omega, kcells_bls 1 _⟩
    · have hi2 : i = l.length := by simp at hc; omega
      subst hi2
      rw [List.take_length]
      refine ⟨[], by simp, by simp [frV, hget], by simp [bl], ?_⟩
      simp only [List.mem_singleton, forall_eq, blB, List.all_eq_true]
      exact ⟨by omega, kcells_bls 1 _⟩

theorem c16v (l : List Kp) (hlen : l.length ≤ 1000000) (hok : ∀ k ∈ l, okT k.f.t = true) : CV Try.prog 16 [kps l] (kps (l.map ownK)) :=
  (c16 l hlen hok).froz (kcells_nls _) (by simp)

def findV' (l : List Kp) (f : Fc) : Int × Int :=
  if listB l = true ∧ isB f = true then (if atI l f 0 < 0 then (0, 3) else match l[(atI l f 0).toNat]? with
    | some k => (k.seq, 0)
    | none => (0, 3)) else (0, 1)

theorem atI_lt : ∀ (l : List Kp) (f : Fc) (i : Nat), atI l f i = -1 ∨ (∃ j, j < l.length ∧ atI l f i = (i + j : Nat))
  | [], _, _ => .inl rfl
  | k :: ks, f, i => by
    rw [atI]
    split
    · exact .inr ⟨0, by simp, by simp⟩
    · rcases atI_lt ks f (i + 1) with h | ⟨j, h1, h2⟩
      · exact .inl h
      · exact .inr ⟨j + 1, by simp; omega, by rw [h2]; omega⟩

theorem c7 (l : List Kp) (f : Fc) : CV Try.prog 7 [kps l, .agg f.cells] (.tup [.i .i64 (findV' l f).1, .i .i64 (findV' l f).2]) := by
  rw [Fc.cells_eq]
  unfold kps
  refine CV.of_vc0 (c := _) (rs := [.tmp 4, .tmp 5]) (n := _) sig rfl (fun _ => true) Try.func7 Try.call7 rfl Try.results7 Try.ntmps7 (by simp) (by simp [nls, nl]) (by simp [nls, nl]) ?_
  intro hw
  clear hw
  simp (maxSteps := 4000000) -implicitDefEqProofs only [↓vc_seq, ↓vc_region, ↓vc_draw, ↓vc_skip, ↓vc_label, ↓vc_ret, ↓vc_exit, ↓vc_block, ↓vc_loop, ↓vc_cond, ↓vcOps_nil, ↓vcOps_plain, ↓vcOps_plain0, ↓vcOps_guard, ↓stepK_some, ↓stepK_none, ↓opK_f, ↓opK_t, ↓op0_f, ↓op0_t, ↓guardD_some, ↓guardV_u, ↓guardV_tt, ↓guardV_tf, ↓guardV_ft, ↓guardV_ff, ↓seqK_eq, ↓drawK_eq, ↓condV_t, ↓condV_f, ↓kq_nil, ↓kq_seq_n, ↓kq_seq_r, ↓kq_seq_x, ↓kq_rnd_n, ↓kq_rnd_r, ↓kq_rnd_x, ↓kq_blk_n, ↓kq_blk_r, ↓kq_blk_hit, ↓kq_blk_miss, ↓thenQ_rnd, ↓fnPost_normal, ↓fnPost_ret,
    guardV_bt, guardV_bf, condV_b, pop, hop, ev, evs, evp, argEnv, get_hit, get_miss, constV, constC, constCs, dstOf_stub, id, List.getElem?_cons_zero, List.getElem?_cons_succ, Option.bind_some, Option.bind_none, Option.map_some, Option.map_none,
    Nat.reduceBEq, bsize_lit, Nat.reduceLT, Nat.reduceLeDiff, Nat.reduceAdd, Nat.reduceSub, Nat.reduceEqDiff, Nat.reduceMul, intBin, strBin, isSh, shV, resK, packV, InK, Int.reduceLE, Int.reduceLT, Int.reduceNeg, true_and, and_true, and_self, eq_self, ↓reduceIte, Bool.false_eq_true, if_true, if_false, true_imp_iff, false_imp_iff, imp_self, forall_const, reduceCtorEq, ne_eq, not_false_eq_true, not_true_eq_false, or_self, or_false, false_or, false_and, and_false,
    hget, hput, V.cells, List.length_cons, List.length_nil, List.drop_zero, List.drop_succ_cons, List.take_succ_cons, List.take_zero, List.take_nil, List.drop_nil, fillV, fillE, List.append_eq, List.cons_append, List.nil_append, List.append_nil, List.set_cons_zero, List.set_cons_succ, List.replicate, nls, nl, List.all_cons, List.all_nil, Bool.not_true, Bool.not_false, Bool.and_true, Bool.true_and, Bool.and_self, Bool.and_false, Bool.false_and, allOne, List.isEmpty_toArray, List.isEmpty_nil, lenV, exists_eq_left', Option.some.injEq, Nat.le_refl, Nat.zero_le, Nat.add_zero, Nat.zero_add, decide_true, decide_false, cond_true, cond_false, Int.toNat_natCast, Int.ofNat_lt, Int.ofNat_le, Int.natCast_nonneg, List.length_map, List.getElem?_map, List.getD_eq_getElem?_getD, Option.getD_some, Option.getD_none, fin_pure, List.map_cons, List.map_nil, srcV, ty3, ty4, ty5, ty9, ty22, ty28, ty31, ty33, ty35, ty37, ty50]
  refine CallK.pure (c13 l) (Wkt.refl _) fun _ => ?_
  cases h1 : listB l
  · simp (maxSteps := 4000000) -implicitDefEqProofs only [↓vc_seq, ↓vc_region, ↓vc_draw, ↓vc_skip, ↓vc_label, ↓vc_ret, ↓vc_exit, ↓vc_block, ↓vc_loop, ↓vc_cond, ↓vcOps_nil, ↓vcOps_plain, ↓vcOps_plain0, ↓vcOps_guard, ↓stepK_some, ↓stepK_none, ↓opK_f, ↓opK_t, ↓op0_f, ↓op0_t, ↓guardD_some, ↓guardV_u, ↓guardV_tt, ↓guardV_tf, ↓guardV_ft, ↓guardV_ff, ↓seqK_eq, ↓drawK_eq, ↓condV_t, ↓condV_f, ↓kq_nil, ↓kq_seq_n, ↓kq_seq_r, ↓kq_seq_x, ↓kq_rnd_n, ↓kq_rnd_r, ↓kq_rnd_x, ↓kq_blk_n, ↓kq_blk_r, ↓kq_blk_hit, ↓kq_blk_miss, ↓thenQ_rnd, ↓fnPost_normal, ↓fnPost_ret,
    guardV_bt, guardV_bf, condV_b, pop, hop, ev, evs, evp, argEnv, get_hit, get_miss, constV, constC, constCs, dstOf_stub, id, List.getElem?_cons_zero, List.getElem?_cons_succ, Option.bind_some, Option.bind_none, Option.map_some, Option.map_none,
    Nat.reduceBEq, bsize_lit, Nat.reduceLT, Nat.reduceLeDiff, Nat.reduceAdd, Nat.reduceSub, Nat.reduceEqDiff, Nat.reduceMul, intBin, strBin, isSh, shV, resK, packV, InK, Int.reduceLE, Int.reduceLT, Int.reduceNeg, true_and, and_true, and_self, eq_self, ↓reduceIte, Bool.false_eq_true, if_true, if_false, true_imp_iff, false_imp_iff, imp_self, forall_const, reduceCtorEq, ne_eq, not_false_eq_true, not_true_eq_false, or_self, or_false, false_or, false_and, and_false,
    hget, hput, V.cells, List.length_cons, List.length_nil, List.drop_zero, List.drop_succ_cons, List.take_succ_cons, List.take_zero, List.take_nil, List.drop_nil, fillV, fillE, List.append_eq, List.cons_append, List.nil_append, List.append_nil, List.set_cons_zero, List.set_cons_succ, List.replicate, nls, nl, List.all_cons, List.all_nil, Bool.not_true, Bool.not_false, Bool.and_true, Bool.true_and, Bool.and_self, Bool.and_false, Bool.false_and, allOne, List.isEmpty_toArray, List.isEmpty_nil, lenV, exists_eq_left', Option.some.injEq, Nat.le_refl, Nat.zero_le, Nat.add_zero, Nat.zero_add, decide_true, decide_false, cond_true, cond_false, Int.toNat_natCast, Int.ofNat_lt, Int.ofNat_le, Int.natCast_nonneg, List.length_map, List.getElem?_map, List.getD_eq_getElem?_getD, Option.getD_some, Option.getD_none, fin_pure, List.map_cons, List.map_nil, srcV, ty3, ty4, ty5, ty9, ty22, ty28, ty31, ty33, ty35, ty37, ty50]
    first | exact Fin.nl (by simp [findV', h1]) rfl | (refine ⟨?_, ?_⟩ <;> first | rfl | (simp [findV', h1])) | (simp [findV', h1])
  simp (maxSteps := 4000000) -implicitDefEqProofs only [↓vc_seq, ↓vc_region, ↓vc_draw, ↓vc_skip, ↓vc_label, ↓vc_ret, ↓vc_exit, ↓vc_block, ↓vc_loop, ↓vc_cond, ↓vcOps_nil, ↓vcOps_plain, ↓vcOps_plain0, ↓vcOps_guard, ↓stepK_some, ↓stepK_none, ↓opK_f, ↓opK_t, ↓op0_f, ↓op0_t, ↓guardD_some, ↓guardV_u, ↓guardV_tt, ↓guardV_tf, ↓guardV_ft, ↓guardV_ff, ↓seqK_eq, ↓drawK_eq, ↓condV_t, ↓condV_f, ↓kq_nil, ↓kq_seq_n, ↓kq_seq_r, ↓kq_seq_x, ↓kq_rnd_n, ↓kq_rnd_r, ↓kq_rnd_x, ↓kq_blk_n, ↓kq_blk_r, ↓kq_blk_hit, ↓kq_blk_miss, ↓thenQ_rnd, ↓fnPost_normal, ↓fnPost_ret,
    guardV_bt, guardV_bf, condV_b, pop, hop, ev, evs, evp, argEnv, get_hit, get_miss, constV, constC, constCs, dstOf_stub, id, List.getElem?_cons_zero, List.getElem?_cons_succ, Option.bind_some, Option.bind_none, Option.map_some, Option.map_none,
    Nat.reduceBEq, bsize_lit, Nat.reduceLT, Nat.reduceLeDiff, Nat.reduceAdd, Nat.reduceSub, Nat.reduceEqDiff, Nat.reduceMul, intBin, strBin, isSh, shV, resK, packV, InK, Int.reduceLE, Int.reduceLT, Int.reduceNeg, true_and, and_true, and_self, eq_self, ↓reduceIte, Bool.false_eq_true, if_true, if_false, true_imp_iff, false_imp_iff, imp_self, forall_const, reduceCtorEq, ne_eq, not_false_eq_true, not_true_eq_false, or_self, or_false, false_or, false_and, and_false,
    hget, hput, V.cells, List.length_cons, List.length_nil, List.drop_zero, List.drop_succ_cons, List.take_succ_cons, List.take_zero, List.take_nil, List.drop_nil, fillV, fillE, List.append_eq, List.cons_append, List.nil_append, List.append_nil, List.set_cons_zero, List.set_cons_succ, List.replicate, nls, nl, List.all_cons, List.all_nil, Bool.not_true, Bool.not_false, Bool.and_true, Bool.true_and, Bool.and_self, Bool.and_false, Bool.false_and, allOne, List.isEmpty_toArray, List.isEmpty_nil, lenV, exists_eq_left', Option.some.injEq, Nat.le_refl, Nat.zero_le, Nat.add_zero, Nat.zero_add, decide_true, decide_false, cond_true, cond_false, Int.toNat_natCast, Int.ofNat_lt, Int.ofNat_le, Int.natCast_nonneg, List.length_map, List.getElem?_map, List.getD_eq_getElem?_getD, Option.getD_some, Option.getD_none, fin_pure, List.map_cons, List.map_nil, srcV, ty3, ty4, ty5, ty9, ty22, ty28, ty31, ty33, ty35, ty37, ty50]
  refine CallK.pure (c14 f) (by rw [Fc.cells_eq]; exact Wkt.refl _) fun _ => ?_
  cases h2 : isB f
  · simp (maxSteps := 4000000) -implicitDefEqProofs only [↓vc_seq, ↓vc_region, ↓vc_draw, ↓vc_skip, ↓vc_label, ↓vc_ret, ↓vc_exit, ↓vc_block, ↓vc_loop, ↓vc_cond, ↓vcOps_nil, ↓vcOps_plain, ↓vcOps_plain0, ↓vcOps_guard, ↓stepK_some, ↓stepK_none, ↓opK_f, ↓opK_t, ↓op0_f, ↓op0_t, ↓guardD_some, ↓guardV_u, ↓guardV_tt, ↓guardV_tf, ↓guardV_ft, ↓guardV_ff, ↓seqK_eq, ↓drawK_eq, ↓condV_t, ↓condV_f, ↓kq_nil, ↓kq_seq_n, ↓kq_seq_r, ↓kq_seq_x, ↓kq_rnd_n, ↓kq_rnd_r, ↓kq_rnd_x, ↓kq_blk_n, ↓kq_blk_r, ↓kq_blk_hit, ↓kq_blk_miss, ↓thenQ_rnd, ↓fnPost_normal, ↓fnPost_ret,
    guardV_bt, guardV_bf, condV_b, pop, hop, ev, evs, evp, argEnv, get_hit, get_miss, constV, constC, constCs, dstOf_stub, id, List.getElem?_cons_zero, List.getElem?_cons_succ, Option.bind_some, Option.bind_none, Option.map_some, Option.map_none,
    Nat.reduceBEq, bsize_lit, Nat.reduceLT, Nat.reduceLeDiff, Nat.reduceAdd, Nat.reduceSub, Nat.reduceEqDiff, Nat.reduceMul, intBin, strBin, isSh, shV, resK, packV, InK, Int.reduceLE, Int.reduceLT, Int.reduceNeg, true_and, and_true, and_self, eq_self, ↓reduceIte, Bool.false_eq_true, if_true, if_false, true_imp_iff, false_imp_iff, imp_self, forall_const, reduceCtorEq, ne_eq, not_false_eq_true, not_true_eq_false, or_self, or_false, false_or, false_and, and_false,
    hget, hput, V.cells, List.length_cons, List.length_nil, List.drop_zero, List.drop_succ_cons, List.take_succ_cons, List.take_zero, List.take_nil, List.drop_nil, fillV, fillE, List.append_eq, List.cons_append, List.nil_append, List.append_nil, List.set_cons_zero, List.set_cons_succ, List.replicate, nls, nl, List.all_cons, List.all_nil, Bool.not_true, Bool.not_false, Bool.and_true, Bool.true_and, Bool.and_self, Bool.and_false, Bool.false_and, allOne, List.isEmpty_toArray, List.isEmpty_nil, lenV, exists_eq_left', Option.some.injEq, Nat.le_refl, Nat.zero_le, Nat.add_zero, Nat.zero_add, decide_true, decide_false, cond_true, cond_false, Int.toNat_natCast, Int.ofNat_lt, Int.ofNat_le, Int.natCast_nonneg, List.length_map, List.getElem?_map, List.getD_eq_getElem?_getD, Option.getD_some, Option.getD_none, fin_pure, List.map_cons, List.map_nil, srcV, ty3, ty4, ty5, ty9, ty22, ty28, ty31, ty33, ty35, ty37, ty50]
    first | exact Fin.nl (by simp [findV', h1, h2]) rfl | (refine ⟨?_, ?_⟩ <;> first | rfl | (simp [findV', h1, h2])) | (simp [findV', h1, h2])
  simp (maxSteps := 4000000) -implicitDefEqProofs only [↓vc_seq, ↓vc_region, ↓vc_draw, ↓vc_skip, ↓vc_label, ↓vc_ret, ↓vc_exit, ↓vc_block, ↓vc_loop, ↓vc_cond, ↓vcOps_nil, ↓vcOps_plain, ↓vcOps_plain0, ↓vcOps_guard, ↓stepK_some, ↓stepK_none, ↓opK_f, ↓opK_t, ↓op0_f, ↓op0_t, ↓guardD_some, ↓guardV_u, ↓guardV_tt, ↓guardV_tf, ↓guardV_ft, ↓guardV_ff, ↓seqK_eq, ↓drawK_eq, ↓condV_t, ↓condV_f, ↓kq_nil, ↓kq_seq_n, ↓kq_seq_r, ↓kq_seq_x, ↓kq_rnd_n, ↓kq_rnd_r, ↓kq_rnd_x, ↓kq_blk_n, ↓kq_blk_r, ↓kq_blk_hit, ↓kq_blk_miss, ↓thenQ_rnd, ↓fnPost_normal, ↓fnPost_ret,
    guardV_bt, guardV_bf, condV_b, pop, hop, ev, evs, evp, argEnv, get_hit, get_miss, constV, constC, constCs, dstOf_stub, id, List.getElem?_cons_zero, List.getElem?_cons_succ, Option.bind_some, Option.bind_none, Option.map_some, Option.map_none,
    Nat.reduceBEq, bsize_lit, Nat.reduceLT, Nat.reduceLeDiff, Nat.reduceAdd, Nat.reduceSub, Nat.reduceEqDiff, Nat.reduceMul, intBin, strBin, isSh, shV, resK, packV, InK, Int.reduceLE, Int.reduceLT, Int.reduceNeg, true_and, and_true, and_self, eq_self, ↓reduceIte, Bool.false_eq_true, if_true, if_false, true_imp_iff, false_imp_iff, imp_self, forall_const, reduceCtorEq, ne_eq, not_false_eq_true, not_true_eq_false, or_self, or_false, false_or, false_and, and_false,
    hget, hput, V.cells, List.length_cons, List.length_nil, List.drop_zero, List.drop_succ_cons, List.take_succ_cons, List.take_zero, List.take_nil, List.drop_nil, fillV, fillE, List.append_eq, List.cons_append, List.nil_append, List.append_nil, List.set_cons_zero, List.set_cons_succ, List.replicate, nls, nl, List.all_cons, List.all_nil, Bool.not_true, Bool.not_false, Bool.and_true, Bool.true_and, Bool.and_self, Bool.and_false, Bool.false_and, allOne, List.isEmpty_toArray, List.isEmpty_nil, lenV, exists_eq_left', Option.some.injEq, Nat.le_refl, Nat.zero_le, Nat.add_zero, Nat.zero_add, decide_true, decide_false, cond_true, cond_false, Int.toNat_natCast, Int.ofNat_lt, Int.ofNat_le, Int.natCast_nonneg, List.length_map, List.getElem?_map, List.getD_eq_getElem?_getD, Option.getD_some, Option.getD_none, fin_pure, List.map_cons, List.map_nil, srcV, ty3, ty4, ty5, ty9, ty22, ty28, ty31, ty33, ty35, ty37, ty50]
  refine CallK.pure (c15 l f) (by rw [Fc.cells_eq]; exact Wkt.refl _) fun _ => ?_
  rcases atI_lt l f 0 with h3 | ⟨j, hj, h3⟩
  · rw [h3]
    simp (maxSteps := 4000000) -implicitDefEqProofs only [↓vc_seq, ↓vc_region, ↓vc_draw, ↓vc_skip, ↓vc_label, ↓vc_ret, ↓vc_exit, ↓vc_block, ↓vc_loop, ↓vc_cond, ↓vcOps_nil, ↓vcOps_plain, ↓vcOps_plain0, ↓vcOps_guard, ↓stepK_some, ↓stepK_none, ↓opK_f, ↓opK_t, ↓op0_f, ↓op0_t, ↓guardD_some, ↓guardV_u, ↓guardV_tt, ↓guardV_tf, ↓guardV_ft, ↓guardV_ff, ↓seqK_eq, ↓drawK_eq, ↓condV_t, ↓condV_f, ↓kq_nil, ↓kq_seq_n, ↓kq_seq_r, ↓kq_seq_x, ↓kq_rnd_n, ↓kq_rnd_r, ↓kq_rnd_x, ↓kq_blk_n, ↓kq_blk_r, ↓kq_blk_hit, ↓kq_blk_miss, ↓thenQ_rnd, ↓fnPost_normal, ↓fnPost_ret,
    guardV_bt, guardV_bf, condV_b, pop, hop, ev, evs, evp, argEnv, get_hit, get_miss, constV, constC, constCs, dstOf_stub, id, List.getElem?_cons_zero, List.getElem?_cons_succ, Option.bind_some, Option.bind_none, Option.map_some, Option.map_none,
    Nat.reduceBEq, bsize_lit, Nat.reduceLT, Nat.reduceLeDiff, Nat.reduceAdd, Nat.reduceSub, Nat.reduceEqDiff, Nat.reduceMul, intBin, strBin, isSh, shV, resK, packV, InK, Int.reduceLE, Int.reduceLT, Int.reduceNeg, true_and, and_true, and_self, eq_self, ↓reduceIte, Bool.false_eq_true, if_true, if_false, true_imp_iff, false_imp_iff, imp_self, forall_const, reduceCtorEq, ne_eq, not_false_eq_true, not_true_eq_false, or_self, or_false, false_or, false_and, and_false,
    hget, hput, V.cells, List.length_cons, List.length_nil, List.drop_zero, List.drop_succ_cons, List.take_succ_cons, List.take_zero, List.take_nil, List.drop_nil, fillV, fillE, List.append_eq, List.cons_append, List.nil_append, List.append_nil, List.set_cons_zero, List.set_cons_succ, List.replicate, nls, nl, List.all_cons, List.all_nil, Bool.not_true, Bool.not_false, Bool.and_true, Bool.true_and, Bool.and_self, Bool.and_false, Bool.false_and, allOne, List.isEmpty_toArray, List.isEmpty_nil, lenV, exists_eq_left', Option.some.injEq, Nat.le_refl, Nat.zero_le, Nat.add_zero, Nat.zero_add, decide_true, decide_false, cond_true, cond_false, Int.toNat_natCast, Int.ofNat_lt, Int.ofNat_le, Int.natCast_nonneg, List.length_map, List.getElem?_map, List.getD_eq_getElem?_getD, Option.getD_some, Option.getD_none, fin_pure, List.map_cons, List.map_nil, srcV, ty3, ty4, ty5, ty9, ty22, ty28, ty31, ty33, ty35, ty37, ty50, show decide ((-1 : Int) < 0) = true from rfl]
    first | exact Fin.nl (by simp [findV', h1, h2, h3]) rfl | (refine ⟨?_, ?_⟩ <;> first | rfl | (simp [findV', h1, h2, h3])) | (simp [findV', h1, h2, h3])
  · simp only [Nat.zero_add] at h3
    rw [h3]
    have hd : decide ((j : Int) < 0) = false := by simp
    generalize hkk : l[j] = k
    simp (maxSteps := 4000000) -implicitDefEqProofs only [↓vc_seq, ↓vc_region, ↓vc_draw, ↓vc_skip, ↓vc_label, ↓vc_ret, ↓vc_exit, ↓vc_block, ↓vc_loop, ↓vc_cond, ↓vcOps_nil, ↓vcOps_plain, ↓vcOps_plain0, ↓vcOps_guard, ↓stepK_some, ↓stepK_none, ↓opK_f, ↓opK_t, ↓op0_f, ↓op0_t, ↓guardD_some, ↓guardV_u, ↓guardV_tt, ↓guardV_tf, ↓guardV_ft, ↓guardV_ff, ↓seqK_eq, ↓drawK_eq, ↓condV_t, ↓condV_f, ↓kq_nil, ↓kq_seq_n, ↓kq_seq_r, ↓kq_seq_x, ↓kq_rnd_n, ↓kq_rnd_r, ↓kq_rnd_x, ↓kq_blk_n, ↓kq_blk_r, ↓kq_blk_hit, ↓kq_blk_miss, ↓thenQ_rnd, ↓fnPost_normal, ↓fnPost_ret,
    guardV_bt, guardV_bf, condV_b, pop, hop, ev, evs, evp, argEnv, get_hit, get_miss, constV, constC, constCs, dstOf_stub, id, List.getElem?_cons_zero, List.getElem?_cons_succ, Option.bind_some, Option.bind_none, Option.map_some, Option.map_none,
    Nat.reduceBEq, bsize_lit, Nat.reduceLT, Nat.reduceLeDiff, Nat.reduceAdd, Nat.reduceSub, Nat.reduceEqDiff, Nat.reduceMul, intBin, strBin, isSh, shV, resK, packV, InK, Int.reduceLE, Int.reduceLT, Int.reduceNeg, true_and, and_true, and_self, eq_self, ↓reduceIte, Bool.false_eq_true, if_true, if_false, true_imp_iff, false_imp_iff, imp_self, forall_const, reduceCtorEq, ne_eq, not_false_eq_true, not_true_eq_false, or_self, or_false, false_or, false_and, and_false,
    hget, hput, V.cells, List.length_cons, List.length_nil, List.drop_zero, List.drop_succ_cons, List.take_succ_cons, List.take_zero, List.take_nil, List.drop_nil, fillV, fillE, List.append_eq, List.cons_append, List.nil_append, List.append_nil, List.set_cons_zero, List.set_cons_succ, List.replicate, nls, nl, List.all_cons, List.all_nil, Bool.not_true, Bool.not_false, Bool.and_true, Bool.true_and, Bool.and_self, Bool.and_false, Bool.false_and, allOne, List.isEmpty_toArray, List.isEmpty_nil, lenV, exists_eq_left', Option.some.injEq, Nat.le_refl, Nat.zero_le, Nat.add_zero, Nat.zero_add, decide_true, decide_false, cond_true, cond_false, Int.toNat_natCast, Int.ofNat_lt, Int.ofNat_le, Int.natCast_nonneg, List.length_map, List.getElem?_map, List.getD_eq_getElem?_getD, Option.getD_some, Option.getD_none, fin_pure, List.map_cons, List.map_nil, srcV, ty3, ty4, ty5, ty9, ty22, ty28, ty31, ty33, ty35, ty37, ty50, hd, List.getElem?_eq_getElem hj, Kp.cells_eq, hkk]
    refine ⟨hj, ?_⟩
    have hd2 : ¬ ((j : Int) < 0) := by omega
    first | exact Fin.nl (by simp [findV', h1, h2, h3, hd2, List.getElem?_eq_getElem hj, hkk]) rfl | (refine ⟨?_, ?_⟩ <;> first | rfl | (simp [findV', h1, h2, h3, hd2, List.getElem?_eq_getElem hj, hkk])) | (simp [findV', h1, h2, h3, hd2, List.getElem?_eq_getElem hj, hkk])

def lastOk (l : List Kp) (n : Int) : Bool := match l[l.length - 1]? with
  | some k => decide (k.seq < n)
  | none => true
def addOk (l : List Kp) (n : Int) (f : Fc) : Bool := listB l && isB f && decide (0 ≤ n) && decide (n ≤ 1073741824) && lastOk l n
def addV (l : List Kp) (n : Int) (f : Fc) : List Kp × Int :=
  if addOk l n f = true then (if 0 ≤ atI l f 0 then ([], 4) else if 300 ≤ l.length then ([], 2) else (l.map ownK ++ [⟨n, ownF f⟩], 0)) else ([], 1)

theorem mayT_ok : ∀ (t : Tm) (d : Nat) (l : Int), (mayT t d l).1 = true → okT t = true
  | .mk k s n ts, d, l, h => by
    have key : ts.length ≤ 4 → okTs ts = true → okT (.mk k s n ts) = true := fun h1 h2 => by simp only [okT, h2, Bool.and_true, decide_eq_true_eq]; omega
    rw [mayT] at h
    split at h
    · simp at h
    split at h
    · simp only [Bool.and_eq_true, decide_eq_true_eq] at h
      have : ts = [] := List.eq_nil_of_length_eq_zero h.2
      subst this
      exact key (by simp) rfl
    split at h
    · simp only [Bool.and_eq_true, decide_eq_true_eq] at h
      have : ts = [] := List.eq_nil_of_length_eq_zero h.2
      subst this
      exact key (by simp) rfl
    split at h
    · split at h
      · rename_i hc
        simp only [Bool.and_eq_true, decide_eq_true_eq] at hc
        refine key hc.2 ?_
        have : ∀ (us : List Tm), (∀ u ∈ us, u ∈ ts) → ∀ l, (mayTs us (d - 1) l).1 = true → okTs us = true := by
          intro us
          induction us with
          | nil => intro _ l _; rfl
          | cons u us ih =>
            intro hu l hl
            rw [mayTs] at hl
            split at hl
            · rename_i h1
              simp only [okTs, Bool.and_eq_true]
              exact ⟨mayT_ok u (d - 1) l h1, ih (fun v hv => hu v (List.mem_cons_of_mem _ hv)) _ hl⟩
            · simp at hl
        exact this ts (fun _ h => h) _ h
      · simp at h
    · simp at h
termination_by t => SizeOf.sizeOf t
decreasing_by
  have := List.sizeOf_lt_of_mem (hu u (List.mem_cons_self))
  simp; omega

theorem isB_ok {f : Fc} (h : isB f = true) : okT f.t = true := by
  simp only [isB, Bool.and_eq_true] at h
  exact mayT_ok _ _ _ h.1.1.2

theorem listGo_is : ∀ (l : List Kp) (p : Option Int) (ids : List (List UInt8 × Int × Int)), listGo l p ids = true → ∀ k ∈ l, isB k.f = true
  | [], _, _, _ => by simp
  | k :: ks, p, ids, h => by
    simp only [listGo, Bool.and_eq_true] at h
    intro x hx
    rcases List.mem_cons.1 hx with rfl | hx
    · exact h.1.1.1.1
    · exact listGo_is ks _ _ h.2 x hx
theorem listB_is {l : List Kp} (h : listB l = true) : l.length ≤ 300 ∧ ∀ k ∈ l, isB k.f = true := by
  simp only [listB, Bool.and_eq_true, decide_eq_true_eq] at h
  exact ⟨h.1, listGo_is _ _ _ h.2⟩

theorem kps_nil_wk : Wk .nilS (kps []) := Wk.nil 7

theorem c5 (l : List Kp) (n : Int) (f : Fc) : CV Try.prog 5 [kps l, .i .i64 n, .agg f.cells] (.tup [kps (addV l n f).1, .i .i64 (addV l n f).2]) := by
  have bad : ∀ e, addV l n f = ([], e) → Wk (.tup [.nilS, .i .i64 e]) (.tup [kps (addV l n f).1, .i .i64 (addV l n f).2]) := fun e he => by
    rw [he]; exact Wk.tup (Wkt.cons kps_nil_wk (Wkt.refl _))
  by_cases h0 : addOk l n f = true ∧ ¬ (0 ≤ atI l f 0) ∧ ¬ 300 ≤ l.length
  · obtain ⟨h0, h2, h3⟩ := h0
    have hv : addV l n f = (l.map ownK ++ [⟨n, ownF f⟩], 0) := by simp [addV, h0, h2, h3]
    rw [hv]
    simp only [addOk, Bool.and_eq_true, decide_eq_true_eq] at h0
    obtain ⟨⟨⟨⟨hl, hf⟩, hn1⟩, hn2⟩, hlast⟩ := h0
    obtain ⟨hlen, his⟩ := listB_is hl
    have hn1' : decide (n < 0) = false := by simp; omega
    have hn2' : decide (1073741824 < n) = false := by simp; omega
    have h2' : decide (0 ≤ atI l f 0) = false := by simp; omega
    have h3' : decide ((300:Int) ≤ (l.length : Int)) = false := by simp; omega
    rw [Fc.cells_eq]
    unfold kps
    refine CV.of_vc0 (c := _) (rs := [.tmp 6, .tmp 7]) (n := _) sig rfl (fun _ => true) Try.func5 Try.call5 rfl Try.results5 Try.ntmps5 (by simp) (by simp [nls, nl]) (by simp [nls, nl]) ?_
    intro hw
    clear hw
    simp (maxSteps := 4000000) -implicitDefEqProofs only [↓vc_seq, ↓vc_region, ↓vc_draw, ↓vc_skip, ↓vc_label, ↓vc_ret, ↓vc_exit, ↓vc_block, ↓vc_loop, ↓vc_cond, ↓vcOps_nil, ↓vcOps_plain, ↓vcOps_plain0, ↓vcOps_guard, ↓stepK_some, ↓stepK_none, ↓opK_f, ↓opK_t, ↓op0_f, ↓op0_t, ↓guardD_some, ↓guardV_u, ↓guardV_tt, ↓guardV_tf, ↓guardV_ft, ↓guardV_ff, ↓seqK_eq, ↓drawK_eq, ↓condV_t, ↓condV_f, ↓kq_nil, ↓kq_seq_n, ↓kq_seq_r, ↓kq_seq_x, ↓kq_rnd_n, ↓kq_rnd_r, ↓kq_rnd_x, ↓kq_blk_n, ↓kq_blk_r, ↓kq_blk_hit, ↓kq_blk_miss, ↓thenQ_rnd, ↓fnPost_normal, ↓fnPost_ret,
    guardV_bt, guardV_bf, condV_b, pop, hop, ev, evs, evp, argEnv, get_hit, get_miss, constV, constC, constCs, dstOf_stub, id, List.getElem?_cons_zero, List.getElem?_cons_succ, Option.bind_some, Option.bind_none, Option.map_some, Option.map_none,
    Nat.reduceBEq, bsize_lit, Nat.reduceLT, Nat.reduceLeDiff, Nat.reduceAdd, Nat.reduceSub, Nat.reduceEqDiff, Nat.reduceMul, intBin, strBin, isSh, shV, resK, packV, InK, Int.reduceLE, Int.reduceLT, Int.reduceNeg, true_and, and_true, and_self, eq_self, ↓reduceIte, Bool.false_eq_true, if_true, if_false, true_imp_iff, false_imp_iff, imp_self, forall_const, reduceCtorEq, ne_eq, not_false_eq_true, not_true_eq_false, or_self, or_false, false_or, false_and, and_false,
    hget, hput, V.cells, List.length_cons, List.length_nil, List.drop_zero, List.drop_succ_cons, List.take_succ_cons, List.take_zero, List.take_nil, List.drop_nil, fillV, fillE, List.append_eq, List.cons_append, List.nil_append, List.append_nil, List.set_cons_zero, List.set_cons_succ, List.replicate, nls, nl, List.all_cons, List.all_nil, Bool.not_true, Bool.not_false, Bool.and_true, Bool.true_and, Bool.and_self, Bool.and_false, Bool.false_and, allOne, List.isEmpty_toArray, List.isEmpty_nil, lenV, exists_eq_left', Option.some.injEq, Nat.le_refl, Nat.zero_le, Nat.add_zero, Nat.zero_add, decide_true, decide_false, cond_true, cond_false, Int.toNat_natCast, Int.ofNat_lt, Int.ofNat_le, Int.natCast_nonneg, List.length_map, List.getElem?_map, List.getD_eq_getElem?_getD, Option.getD_some, Option.getD_none, fin_pure, List.map_cons, List.map_nil, srcV, ty3, ty4, ty5, ty9, ty22, ty28, ty31, ty33, ty35, ty37, ty50]
    refine CallK.pure (c13 l) (Wkt.refl _) fun _ => ?_
    rw [hl]
    simp (maxSteps := 4000000) -implicitDefEqProofs only [↓vc_seq, ↓vc_region, ↓vc_draw, ↓vc_skip, ↓vc_label, ↓vc_ret, ↓vc_exit, ↓vc_block, ↓vc_loop, ↓vc_cond, ↓vcOps_nil, ↓vcOps_plain, ↓vcOps_plain0, ↓vcOps_guard, ↓stepK_some, ↓stepK_none, ↓opK_f, ↓opK_t, ↓op0_f, ↓op0_t, ↓guardD_some, ↓guardV_u, ↓guardV_tt, ↓guardV_tf, ↓guardV_ft, ↓guardV_ff, ↓seqK_eq, ↓drawK_eq, ↓condV_t, ↓condV_f, ↓kq_nil, ↓kq_seq_n, ↓kq_seq_r, ↓kq_seq_x, ↓kq_rnd_n, ↓kq_rnd_r, ↓kq_rnd_x, ↓kq_blk_n, ↓kq_blk_r, ↓kq_blk_hit, ↓kq_blk_miss, ↓thenQ_rnd, ↓fnPost_normal, ↓fnPost_ret,
    guardV_bt, guardV_bf, condV_b, pop, hop, ev, evs, evp, argEnv, get_hit, get_miss, constV, constC, constCs, dstOf_stub, id, List.getElem?_cons_zero, List.getElem?_cons_succ, Option.bind_some, Option.bind_none, Option.map_some, Option.map_none,
    Nat.reduceBEq, bsize_lit, Nat.reduceLT, Nat.reduceLeDiff, Nat.reduceAdd, Nat.reduceSub, Nat.reduceEqDiff, Nat.reduceMul, intBin, strBin, isSh, shV, resK, packV, InK, Int.reduceLE, Int.reduceLT, Int.reduceNeg, true_and, and_true, and_self, eq_self, ↓reduceIte, Bool.false_eq_true, if_true, if_false, true_imp_iff, false_imp_iff, imp_self, forall_const, reduceCtorEq, ne_eq, not_false_eq_true, not_true_eq_false, or_self, or_false, false_or, false_and, and_false,
    hget, hput, V.cells, List.length_cons, List.length_nil, List.drop_zero, List.drop_succ_cons, List.take_succ_cons, List.take_zero, List.take_nil, List.drop_nil, fillV, fillE, List.append_eq, List.cons_append, List.nil_append, List.append_nil, List.set_cons_zero, List.set_cons_succ, List.replicate, nls, nl, List.all_cons, List.all_nil, Bool.not_true, Bool.not_false, Bool.and_true, Bool.true_and, Bool.and_self, Bool.and_false, Bool.false_and, allOne, List.isEmpty_toArray, List.isEmpty_nil, lenV, exists_eq_left', Option.some.injEq, Nat.le_refl, Nat.zero_le, Nat.add_zero, Nat.zero_add, decide_true, decide_false, cond_true, cond_false, Int.toNat_natCast, Int.ofNat_lt, Int.ofNat_le, Int.natCast_nonneg, List.length_map, List.getElem?_map, List.getD_eq_getElem?_getD, Option.getD_some, Option.getD_none, fin_pure, List.map_cons, List.map_nil, srcV, ty3, ty4, ty5, ty9, ty22, ty28, ty31, ty33, ty35, ty37, ty50]
    refine CallK.pure (c14 f) (by rw [Fc.cells_eq]; exact Wkt.refl _) fun _ => ?_
    rw [hf]
    rcases Nat.eq_zero_or_pos l.length with hz | hp
    case' inl =>
      have hd : decide ((0:Int) < (l.length : Int)) = false := by simp [hz]
      simp (maxSteps := 4000000) -implicitDefEqProofs only [↓vc_seq, ↓vc_region, ↓vc_draw, ↓vc_skip, ↓vc_label, ↓vc_ret, ↓vc_exit, ↓vc_block, ↓vc_loop, ↓vc_cond, ↓vcOps_nil, ↓vcOps_plain, ↓vcOps_plain0, ↓vcOps_guard, ↓stepK_some, ↓stepK_none, ↓opK_f, ↓opK_t, ↓op0_f, ↓op0_t, ↓guardD_some, ↓guardV_u, ↓guardV_tt, ↓guardV_tf, ↓guardV_ft, ↓guardV_ff, ↓seqK_eq, ↓drawK_eq, ↓condV_t, ↓condV_f, ↓kq_nil, ↓kq_seq_n, ↓kq_seq_r, ↓kq_seq_x, ↓kq_rnd_n, ↓kq_rnd_r, ↓kq_rnd_x, ↓kq_blk_n, ↓kq_blk_r, ↓kq_blk_hit, ↓kq_blk_miss, ↓thenQ_rnd, ↓fnPost_normal, ↓fnPost_ret,
    guardV_bt, guardV_bf, condV_b, pop, hop, ev, evs, evp, argEnv, get_hit, get_miss, constV, constC, constCs, dstOf_stub, id, List.getElem?_cons_zero, List.getElem?_cons_succ, Option.bind_some, Option.bind_none, Option.map_some, Option.map_none,
    Nat.reduceBEq, bsize_lit, Nat.reduceLT, Nat.reduceLeDiff, Nat.reduceAdd, Nat.reduceSub, Nat.reduceEqDiff, Nat.reduceMul, intBin, strBin, isSh, shV, resK, packV, InK, Int.reduceLE, Int.reduceLT, Int.reduceNeg, true_and, and_true, and_self, eq_self, ↓reduceIte, Bool.false_eq_true, if_true, if_false, true_imp_iff, false_imp_iff, imp_self, forall_const, reduceCtorEq, ne_eq, not_false_eq_true, not_true_eq_false, or_self, or_false, false_or, false_and, and_false,
    hget, hput, V.cells, List.length_cons, List.length_nil, List.drop_zero, List.drop_succ_cons, List.take_succ_cons, List.take_zero, List.take_nil, List.drop_nil, fillV, fillE, List.append_eq, List.cons_append, List.nil_append, List.append_nil, List.set_cons_zero, List.set_cons_succ, List.replicate, nls, nl, List.all_cons, List.all_nil, Bool.not_true, Bool.not_false, Bool.and_true, Bool.true_and, Bool.and_self, Bool.and_false, Bool.false_and, allOne, List.isEmpty_toArray, List.isEmpty_nil, lenV, exists_eq_left', Option.some.injEq, Nat.le_refl, Nat.zero_le, Nat.add_zero, Nat.zero_add, decide_true, decide_false, cond_true, cond_false, Int.toNat_natCast, Int.ofNat_lt, Int.ofNat_le, Int.natCast_nonneg, List.length_map, List.getElem?_map, List.getD_eq_getElem?_getD, Option.getD_some, Option.getD_none, fin_pure, List.map_cons, List.map_nil, srcV, ty3, ty4, ty5, ty9, ty22, ty28, ty31, ty33, ty35, ty37, ty50, hn1', hn2', hd]
    case' inr =>
      have hd : decide ((0:Int) < (l.length : Int)) = true := by simp; omega
      have e2 : (IntKind.i64.wrap ((l.length:Int) - 1) : Int) = ((l.length - 1 : Nat) : Int) := by
        rw [wrap_in]
        · omega
        · simp only [InK]; omega
      have hi3 : l.length - 1 < l.length := by omega
      have hlast2 : decide (n ≤ l[l.length - 1].seq) = false := by
        simp [lastOk, List.getElem?_eq_getElem hi3] at hlast; simp; omega
      generalize hqq : l[l.length - 1] = q at hlast2
      have hq2 : l[l.length - 1]? = some q := by rw [List.getElem?_eq_getElem hi3, hqq]
      simp (maxSteps := 4000000) -implicitDefEqProofs only [↓vc_seq, ↓vc_region, ↓vc_draw, ↓vc_skip, ↓vc_label, ↓vc_ret, ↓vc_exit, ↓vc_block, ↓vc_loop, ↓vc_cond, ↓vcOps_nil, ↓vcOps_plain, ↓vcOps_plain0, ↓vcOps_guard, ↓stepK_some, ↓stepK_none, ↓opK_f, ↓opK_t, ↓op0_f, ↓op0_t, ↓guardD_some, ↓guardV_u, ↓guardV_tt, ↓guardV_tf, ↓guardV_ft, ↓guardV_ff, ↓seqK_eq, ↓drawK_eq, ↓condV_t, ↓condV_f, ↓kq_nil, ↓kq_seq_n, ↓kq_seq_r, ↓kq_seq_x, ↓kq_rnd_n, ↓kq_rnd_r, ↓kq_rnd_x, ↓kq_blk_n, ↓kq_blk_r, ↓kq_blk_hit, ↓kq_blk_miss, ↓thenQ_rnd, ↓fnPost_normal, ↓fnPost_ret,
    guardV_bt, guardV_bf, condV_b, pop, hop, ev, evs, evp, argEnv, get_hit, get_miss, constV, constC, constCs, dstOf_stub, id, List.getElem?_cons_zero, List.getElem?_cons_succ, Option.bind_some, Option.bind_none, Option.map_some, Option.map_none,
    Nat.reduceBEq, bsize_lit, Nat.reduceLT, Nat.reduceLeDiff, Nat.reduceAdd, Nat.reduceSub, Nat.reduceEqDiff, Nat.reduceMul, intBin, strBin, isSh, shV, resK, packV, InK, Int.reduceLE, Int.reduceLT, Int.reduceNeg, true_and, and_true, and_self, eq_self, ↓reduceIte, Bool.false_eq_true, if_true, if_false, true_imp_iff, false_imp_iff, imp_self, forall_const, reduceCtorEq, ne_eq, not_false_eq_true, not_true_eq_false, or_self, or_false, false_or, false_and, and_false,
    hget, hput, V.cells, List.length_cons, List.length_nil, List.drop_zero, List.drop_succ_cons, List.take_succ_cons, List.take_zero, List.take_nil, List.drop_nil, fillV, fillE, List.append_eq, List.cons_append, List.nil_append, List.append_nil, List.set_cons_zero, List.set_cons_succ, List.replicate, nls, nl, List.all_cons, List.all_nil, Bool.not_true, Bool.not_false, Bool.and_true, Bool.true_and, Bool.and_self, Bool.and_false, Bool.false_and, allOne, List.isEmpty_toArray, List.isEmpty_nil, lenV, exists_eq_left', Option.some.injEq, Nat.le_refl, Nat.zero_le, Nat.add_zero, Nat.zero_add, decide_true, decide_false, cond_true, cond_false, Int.toNat_natCast, Int.ofNat_lt, Int.ofNat_le, Int.natCast_nonneg, List.length_map, List.getElem?_map, List.getD_eq_getElem?_getD, Option.getD_some, Option.getD_none, fin_pure, List.map_cons, List.map_nil, srcV, ty3, ty4, ty5, ty9, ty22, ty28, ty31, ty33, ty35, ty37, ty50, hn1', hn2', hd, e2, hq2, hlast2, Kp.cells_eq]
      refine ⟨hi3, ?_⟩
    all_goals
      refine CallK.pure (c15 l f) (by rw [Fc.cells_eq]; exact Wkt.refl _) fun _ => ?_
      simp (maxSteps := 4000000) -implicitDefEqProofs only [↓vc_seq, ↓vc_region, ↓vc_draw, ↓vc_skip, ↓vc_label, ↓vc_ret, ↓vc_exit, ↓vc_block, ↓vc_loop, ↓vc_cond, ↓vcOps_nil, ↓vcOps_plain, ↓vcOps_plain0, ↓vcOps_guard, ↓stepK_some, ↓stepK_none, ↓opK_f, ↓opK_t, ↓op0_f, ↓op0_t, ↓guardD_some, ↓guardV_u, ↓guardV_tt, ↓guardV_tf, ↓guardV_ft, ↓guardV_ff, ↓seqK_eq, ↓drawK_eq, ↓condV_t, ↓condV_f, ↓kq_nil, ↓kq_seq_n, ↓kq_seq_r, ↓kq_seq_x, ↓kq_rnd_n, ↓kq_rnd_r, ↓kq_rnd_x, ↓kq_blk_n, ↓kq_blk_r, ↓kq_blk_hit, ↓kq_blk_miss, ↓thenQ_rnd, ↓fnPost_normal, ↓fnPost_ret,
    guardV_bt, guardV_bf, condV_b, pop, hop, ev, evs, evp, argEnv, get_hit, get_miss, constV, constC, constCs, dstOf_stub, id, List.getElem?_cons_zero, List.getElem?_cons_succ, Option.bind_some, Option.bind_none, Option.map_some, Option.map_none,
    Nat.reduceBEq, bsize_lit, Nat.reduceLT, Nat.reduceLeDiff, Nat.reduceAdd, Nat.reduceSub, Nat.reduceEqDiff, Nat.reduceMul, intBin, strBin, isSh, shV, resK, packV, InK, Int.reduceLE, Int.reduceLT, Int.reduceNeg, true_and, and_true, and_self, eq_self, ↓reduceIte, Bool.false_eq_true, if_true, if_false, true_imp_iff, false_imp_iff, imp_self, forall_const, reduceCtorEq, ne_eq, not_false_eq_true, not_true_eq_false, or_self, or_false, false_or, false_and, and_false,
    hget, hput, V.cells, List.length_cons, List.length_nil, List.drop_zero, List.drop_succ_cons, List.take_succ_cons, List.take_zero, List.take_nil, List.drop_nil, fillV, fillE, List.append_eq, List.cons_append, List.nil_append, List.append_nil, List.set_cons_zero, List.set_cons_succ, List.replicate, nls, nl, List.all_cons, List.all_nil, Bool.not_true, Bool.not_false, Bool.and_true, Bool.true_and, Bool.and_self, Bool.and_false, Bool.false_and, allOne, List.isEmpty_toArray, List.isEmpty_nil, lenV, exists_eq_left', Option.some.injEq, Nat.le_refl, Nat.zero_le, Nat.add_zero, Nat.zero_add, decide_true, decide_false, cond_true, cond_false, Int.toNat_natCast, Int.ofNat_lt, Int.ofNat_le, Int.natCast_nonneg, List.length_map, List.getElem?_map, List.getD_eq_getElem?_getD, Option.getD_some, Option.getD_none, fin_pure, List.map_cons, List.map_nil, srcV, ty3, ty4, ty5, ty9, ty22, ty28, ty31, ty33, ty35, ty37, ty50, h2', h3']
      refine CallK.new (c16 l (by omega) (fun k hk => isB_ok (his k hk))) (Wkt.refl _) ?_
      simp (maxSteps := 4000000) -implicitDefEqProofs only [↓vc_seq, ↓vc_region, ↓vc_draw, ↓vc_skip, ↓vc_label, ↓vc_ret, ↓vc_exit, ↓vc_block, ↓vc_loop, ↓vc_cond, ↓vcOps_nil, ↓vcOps_plain, ↓vcOps_plain0, ↓vcOps_guard, ↓stepK_some, ↓stepK_none, ↓opK_f, ↓opK_t, ↓op0_f, ↓op0_t, ↓guardD_some, ↓guardV_u, ↓guardV_tt, ↓guardV_tf, ↓guardV_ft, ↓guardV_ff, ↓seqK_eq, ↓drawK_eq, ↓condV_t, ↓condV_f, ↓kq_nil, ↓kq_seq_n, ↓kq_seq_r, ↓kq_seq_x, ↓kq_rnd_n, ↓kq_rnd_r, ↓kq_rnd_x, ↓kq_blk_n, ↓kq_blk_r, ↓kq_blk_hit, ↓kq_blk_miss, ↓thenQ_rnd, ↓fnPost_normal, ↓fnPost_ret,
    guardV_bt, guardV_bf, condV_b, pop, hop, ev, evs, evp, argEnv, get_hit, get_miss, constV, constC, constCs, dstOf_stub, id, List.getElem?_cons_zero, List.getElem?_cons_succ, Option.bind_some, Option.bind_none, Option.map_some, Option.map_none,
    Nat.reduceBEq, bsize_lit, Nat.reduceLT, Nat.reduceLeDiff, Nat.reduceAdd, Nat.reduceSub, Nat.reduceEqDiff, Nat.reduceMul, intBin, strBin, isSh, shV, resK, packV, InK, Int.reduceLE, Int.reduceLT, Int.reduceNeg, true_and, and_true, and_self, eq_self, ↓reduceIte, Bool.false_eq_true, if_true, if_false, true_imp_iff, false_imp_iff, imp_self, forall_const, reduceCtorEq, ne_eq, not_false_eq_true, not_true_eq_false, or_self, or_false, false_or, false_and, and_false,
    hget, hput, V.cells, List.length_cons, List.length_nil, List.drop_zero, List.drop_succ_cons, List.take_succ_cons, List.take_zero, List.take_nil, List.drop_nil, fillV, fillE, List.append_eq, List.cons_append, List.nil_append, List.append_nil, List.set_cons_zero, List.set_cons_succ, List.replicate, nls, nl, List.all_cons, List.all_nil, Bool.not_true, Bool.not_false, Bool.and_true, Bool.true_and, Bool.and_self, Bool.and_false, Bool.false_and, allOne, List.isEmpty_toArray, List.isEmpty_nil, lenV, exists_eq_left', Option.some.injEq, Nat.le_refl, Nat.zero_le, Nat.add_zero, Nat.zero_add, decide_true, decide_false, cond_true, cond_false, Int.toNat_natCast, Int.ofNat_lt, Int.ofNat_le, Int.natCast_nonneg, List.length_map, List.getElem?_map, List.getD_eq_getElem?_getD, Option.getD_some, Option.getD_none, fin_pure, List.map_cons, List.map_nil, srcV, ty3, ty4, ty5, ty9, ty22, ty28, ty31, ty33, ty35, ty37, ty50]
      refine CallK.pure (c17 f (isB_ok hf)) (by rw [Fc.cells_eq]; exact Wkt.refl _) fun _ => ?_
      have e3 : (Kp.mk n (ownF f)).cells = .i .i64 n :: (ownF f).cells := rfl
      rw [Fc.cells_eq] at e3 ⊢
      simp (maxSteps := 4000000) -implicitDefEqProofs only [↓vc_seq, ↓vc_region, ↓vc_draw, ↓vc_skip, ↓vc_label, ↓vc_ret, ↓vc_exit, ↓vc_block, ↓vc_loop, ↓vc_cond, ↓vcOps_nil, ↓vcOps_plain, ↓vcOps_plain0, ↓vcOps_guard, ↓stepK_some, ↓stepK_none, ↓opK_f, ↓opK_t, ↓op0_f, ↓op0_t, ↓guardD_some, ↓guardV_u, ↓guardV_tt, ↓guardV_tf, ↓guardV_ft, ↓guardV_ff, ↓seqK_eq, ↓drawK_eq, ↓condV_t, ↓condV_f, ↓kq_nil, ↓kq_seq_n, ↓kq_seq_r, ↓kq_seq_x, ↓kq_rnd_n, ↓kq_rnd_r, ↓kq_rnd_x, ↓kq_blk_n, ↓kq_blk_r, ↓kq_blk_hit, ↓kq_blk_miss, ↓thenQ_rnd, ↓fnPost_normal, ↓fnPost_ret,
    guardV_bt, guardV_bf, condV_b, pop, hop, ev, evs, evp, argEnv, get_hit, get_miss, constV, constC, constCs, dstOf_stub, id, List.getElem?_cons_zero, List.getElem?_cons_succ, Option.bind_some, Option.bind_none, Option.map_some, Option.map_none,
    Nat.reduceBEq, bsize_lit, Nat.reduceLT, Nat.reduceLeDiff, Nat.reduceAdd, Nat.reduceSub, Nat.reduceEqDiff, Nat.reduceMul, intBin, strBin, isSh, shV, resK, packV, InK, Int.reduceLE, Int.reduceLT, Int.reduceNeg, true_and, and_true, and_self, eq_self, ↓reduceIte, Bool.false_eq_true, if_true, if_false, true_imp_iff, false_imp_iff, imp_self, forall_const, reduceCtorEq, ne_eq, not_false_eq_true, not_true_eq_false, or_self, or_false, false_or, false_and, and_false,
    hget, hput, V.cells, List.length_cons, List.length_nil, List.drop_zero, List.drop_succ_cons, List.take_succ_cons, List.take_zero, List.take_nil, List.drop_nil, fillV, fillE, List.append_eq, List.cons_append, List.nil_append, List.append_nil, List.set_cons_zero, List.set_cons_succ, List.replicate, nls, nl, List.all_cons, List.all_nil, Bool.not_true, Bool.not_false, Bool.and_true, Bool.true_and, Bool.and_self, Bool.and_false, Bool.false_and, allOne, List.isEmpty_toArray, List.isEmpty_nil, lenV, exists_eq_left', Option.some.injEq, Nat.le_refl, Nat.zero_le, Nat.add_zero, Nat.zero_add, decide_true, decide_false, cond_true, cond_false, Int.toNat_natCast, Int.ofNat_lt, Int.ofNat_le, Int.natCast_nonneg, List.length_map, List.getElem?_map, List.getD_eq_getElem?_getD, Option.getD_some, Option.getD_none, fin_pure, List.map_cons, List.map_nil, srcV, ty3, ty4, ty5, ty9, ty22, ty28, ty31, ty33, ty35, ty37, ty50]
      refine ⟨⟨_, rfl⟩, by omega, by omega, drawOk_of_fast (by kernel_rfl), ?_⟩
      refine fin_drop _ _ _ _ ?_ (by simp [bl, bls])
      have hall : ((l.map ownK).map Kp.cells ++ [(Kp.mk n (ownF f)).cells]).all nls = true := by
        rw [List.all_append, kcells_nls]; simp [Kp.cells_nls]
      rw [e3] at hall
      simp only [frV, frVs, hget, if_true, hall, kps, List.map_append, List.map_cons, List.map_nil, e3]
      simp
      rw [List.take_of_length_le (by simp)]
  · have : ∃ e, addV l n f = ([], e) := by
      simp only [addV]; split
      · split
        · exact ⟨_, rfl⟩
        · split
          · exact ⟨_, rfl⟩
          · rename_i h1 h2 h3; exact absurd ⟨h1, h2, h3⟩ h0
      · exact ⟨_, rfl⟩
    obtain ⟨e, he⟩ := this
    refine CV.out' ?_ (bad e he)
    rw [Fc.cells_eq]
    unfold kps
    refine CV.of_vc0 (c := _) (rs := [.tmp 6, .tmp 7]) (n := _) sig rfl (fun _ => true) Try.func5 Try.call5 rfl Try.results5 Try.ntmps5 (by simp) (by simp [nls, nl]) (by simp [nls, nl]) ?_
    intro hw
    clear hw
    simp (maxSteps := 4000000) -implicitDefEqProofs only [↓vc_seq, ↓vc_region, ↓vc_draw, ↓vc_skip, ↓vc_label, ↓vc_ret, ↓vc_exit, ↓vc_block, ↓vc_loop, ↓vc_cond, ↓vcOps_nil, ↓vcOps_plain, ↓vcOps_plain0, ↓vcOps_guard, ↓stepK_some, ↓stepK_none, ↓opK_f, ↓opK_t, ↓op0_f, ↓op0_t, ↓guardD_some, ↓guardV_u, ↓guardV_tt, ↓guardV_tf, ↓guardV_ft, ↓guardV_ff, ↓seqK_eq, ↓drawK_eq, ↓condV_t, ↓condV_f, ↓kq_nil, ↓kq_seq_n, ↓kq_seq_r, ↓kq_seq_x, ↓kq_rnd_n, ↓kq_rnd_r, ↓kq_rnd_x, ↓kq_blk_n, ↓kq_blk_r, ↓kq_blk_hit, ↓kq_blk_miss, ↓thenQ_rnd, ↓fnPost_normal, ↓fnPost_ret,
    guardV_bt, guardV_bf, condV_b, pop, hop, ev, evs, evp, argEnv, get_hit, get_miss, constV, constC, constCs, dstOf_stub, id, List.getElem?_cons_zero, List.getElem?_cons_succ, Option.bind_some, Option.bind_none, Option.map_some, Option.map_none,
    Nat.reduceBEq, bsize_lit, Nat.reduceLT, Nat.reduceLeDiff, Nat.reduceAdd, Nat.reduceSub, Nat.reduceEqDiff, Nat.reduceMul, intBin, strBin, isSh, shV, resK, packV, InK, Int.reduceLE, Int.reduceLT, Int.reduceNeg, true_and, and_true, and_self, eq_self, ↓reduceIte, Bool.false_eq_true, if_true, if_false, true_imp_iff, false_imp_iff, imp_self, forall_const, reduceCtorEq, ne_eq, not_false_eq_true, not_true_eq_false, or_self, or_false, false_or, false_and, and_false,
    hget, hput, V.cells, List.length_cons, List.length_nil, List.drop_zero, List.drop_succ_cons, List.take_succ_cons, List.take_zero, List.take_nil, List.drop_nil, fillV, fillE, List.append_eq, List.cons_append, List.nil_append, List.append_nil, List.set_cons_zero, List.set_cons_succ, List.replicate, nls, nl, List.all_cons, List.all_nil, Bool.not_true, Bool.not_false, Bool.and_true, Bool.true_and, Bool.and_self, Bool.and_false, Bool.false_and, allOne, List.isEmpty_toArray, List.isEmpty_nil, lenV, exists_eq_left', Option.some.injEq, Nat.le_refl, Nat.zero_le, Nat.add_zero, Nat.zero_add, decide_true, decide_false, cond_true, cond_false, Int.toNat_natCast, Int.ofNat_lt, Int.ofNat_le, Int.natCast_nonneg, List.length_map, List.getElem?_map, List.getD_eq_getElem?_getD, Option.getD_some, Option.getD_none, fin_pure, List.map_cons, List.map_nil, srcV, ty3, ty4, ty5, ty9, ty22, ty28, ty31, ty33, ty35, ty37, ty50]
    refine CallK.pure (c13 l) (Wkt.refl _) fun _ => ?_
    cases hl : listB l
    · simp (maxSteps := 4000000) -implicitDefEqProofs only [↓vc_seq, ↓vc_region, ↓vc_draw, ↓vc_skip, ↓vc_label, ↓vc_ret, ↓vc_exit, ↓vc_block, ↓vc_loop, ↓vc_cond, ↓vcOps_nil, ↓vcOps_plain, ↓vcOps_plain0, ↓vcOps_guard, ↓stepK_some, ↓stepK_none, ↓opK_f, ↓opK_t, ↓op0_f, ↓op0_t, ↓guardD_some, ↓guardV_u, ↓guardV_tt, ↓guardV_tf, ↓guardV_ft, ↓guardV_ff, ↓seqK_eq, ↓drawK_eq, ↓condV_t, ↓condV_f, ↓kq_nil, ↓kq_seq_n, ↓kq_seq_r, ↓kq_seq_x, ↓kq_rnd_n, ↓kq_rnd_r, ↓kq_rnd_x, ↓kq_blk_n, ↓kq_blk_r, ↓kq_blk_hit, ↓kq_blk_miss, ↓thenQ_rnd, ↓fnPost_normal, ↓fnPost_ret,
    guardV_bt, guardV_bf, condV_b, pop, hop, ev, evs, evp, argEnv, get_hit, get_miss, constV, constC, constCs, dstOf_stub, id, List.getElem?_cons_zero, List.getElem?_cons_succ, Option.bind_some, Option.bind_none, Option.map_some, Option.map_none,
    Nat.reduceBEq, bsize_lit, Nat.reduceLT, Nat.reduceLeDiff, Nat.reduceAdd, Nat.reduceSub, Nat.reduceEqDiff, Nat.reduceMul, intBin, strBin, isSh, shV, resK, packV, InK, Int.reduceLE, Int.reduceLT, Int.reduceNeg, true_and, and_true, and_self, eq_self, ↓reduceIte, Bool.false_eq_true, if_true, if_false, true_imp_iff, false_imp_iff, imp_self, forall_const, reduceCtorEq, ne_eq, not_false_eq_true, not_true_eq_false, or_self, or_false, false_or, false_and, and_false,
    hget, hput, V.cells, List.length_cons, List.length_nil, List.drop_zero, List.drop_succ_cons, List.take_succ_cons, List.take_zero, List.take_nil, List.drop_nil, fillV, fillE, List.append_eq, List.cons_append, List.nil_append, List.append_nil, List.set_cons_zero, List.set_cons_succ, List.replicate, nls, nl, List.all_cons, List.all_nil, Bool.not_true, Bool.not_false, Bool.and_true, Bool.true_and, Bool.and_self, Bool.and_false, Bool.false_and, allOne, List.isEmpty_toArray, List.isEmpty_nil, lenV, exists_eq_left', Option.some.injEq, Nat.le_refl, Nat.zero_le, Nat.add_zero, Nat.zero_add, decide_true, decide_false, cond_true, cond_false, Int.toNat_natCast, Int.ofNat_lt, Int.ofNat_le, Int.natCast_nonneg, List.length_map, List.getElem?_map, List.getD_eq_getElem?_getD, Option.getD_some, Option.getD_none, fin_pure, List.map_cons, List.map_nil, srcV, ty3, ty4, ty5, ty9, ty22, ty28, ty31, ty33, ty35, ty37, ty50]
      first | exact Fin.nl (by simp [addV, addOk, hl] at he; simp [he]) rfl | (refine ⟨?_, ?_⟩ <;> first | rfl | (simp [addV, addOk, hl] at he; simp [he])) | (simp [addV, addOk, hl] at he; simp [he])
    simp (maxSteps := 4000000) -implicitDefEqProofs only [↓vc_seq, ↓vc_region, ↓vc_draw, ↓vc_skip, ↓vc_label, ↓vc_ret, ↓vc_exit, ↓vc_block, ↓vc_loop, ↓vc_cond, ↓vcOps_nil, ↓vcOps_plain, ↓vcOps_plain0, ↓vcOps_guard, ↓stepK_some, ↓stepK_none, ↓opK_f, ↓opK_t, ↓op0_f, ↓op0_t, ↓guardD_some, ↓guardV_u, ↓guardV_tt, ↓guardV_tf, ↓guardV_ft, ↓guardV_ff, ↓seqK_eq, ↓drawK_eq, ↓condV_t, ↓condV_f, ↓kq_nil, ↓kq_seq_n, ↓kq_seq_r, ↓kq_seq_x, ↓kq_rnd_n, ↓kq_rnd_r, ↓kq_rnd_x, ↓kq_blk_n, ↓kq_blk_r, ↓kq_blk_hit, ↓kq_blk_miss, ↓thenQ_rnd, ↓fnPost_normal, ↓fnPost_ret,
    guardV_bt, guardV_bf, condV_b, pop, hop, ev, evs, evp, argEnv, get_hit, get_miss, constV, constC, constCs, dstOf_stub, id, List.getElem?_cons_zero, List.getElem?_cons_succ, Option.bind_some, Option.bind_none, Option.map_some, Option.map_none,
    Nat.reduceBEq, bsize_lit, Nat.reduceLT, Nat.reduceLeDiff, Nat.reduceAdd, Nat.reduceSub, Nat.reduceEqDiff, Nat.reduceMul, intBin, strBin, isSh, shV, resK, packV, InK, Int.reduceLE, Int.reduceLT, Int.reduceNeg, true_and, and_true, and_self, eq_self, ↓reduceIte, Bool.false_eq_true, if_true, if_false, true_imp_iff, false_imp_iff, imp_self, forall_const, reduceCtorEq, ne_eq, not_false_eq_true, not_true_eq_false, or_self, or_false, false_or, false_and, and_false,
    hget, hput, V.cells, List.length_cons, List.length_nil, List.drop_zero, List.drop_succ_cons, List.take_succ_cons, List.take_zero, List.take_nil, List.drop_nil, fillV, fillE, List.append_eq, List.cons_append, List.nil_append, List.append_nil, List.set_cons_zero, List.set_cons_succ, List.replicate, nls, nl, List.all_cons, List.all_nil, Bool.not_true, Bool.not_false, Bool.and_true, Bool.true_and, Bool.and_self, Bool.and_false, Bool.false_and, allOne, List.isEmpty_toArray, List.isEmpty_nil, lenV, exists_eq_left', Option.some.injEq, Nat.le_refl, Nat.zero_le, Nat.add_zero, Nat.zero_add, decide_true, decide_false, cond_true, cond_false, Int.toNat_natCast, Int.ofNat_lt, Int.ofNat_le, Int.natCast_nonneg, List.length_map, List.getElem?_map, List.getD_eq_getElem?_getD, Option.getD_some, Option.getD_none, fin_pure, List.map_cons, List.map_nil, srcV, ty3, ty4, ty5, ty9, ty22, ty28, ty31, ty33, ty35, ty37, ty50]
    refine CallK.pure (c14 f) (by rw [Fc.cells_eq]; exact Wkt.refl _) fun _ => ?_
    cases hf : isB f
    · simp (maxSteps := 4000000) -implicitDefEqProofs only [↓vc_seq, ↓vc_region, ↓vc_draw, ↓vc_skip, ↓vc_label, ↓vc_ret, ↓vc_exit, ↓vc_block, ↓vc_loop, ↓vc_cond, ↓vcOps_nil, ↓vcOps_plain, ↓vcOps_plain0, ↓vcOps_guard, ↓stepK_some, ↓stepK_none, ↓opK_f, ↓opK_t, ↓op0_f, ↓op0_t, ↓guardD_some, ↓guardV_u, ↓guardV_tt, ↓guardV_tf, ↓guardV_ft, ↓guardV_ff, ↓seqK_eq, ↓drawK_eq, ↓condV_t, ↓condV_f, ↓kq_nil, ↓kq_seq_n, ↓kq_seq_r, ↓kq_seq_x, ↓kq_rnd_n, ↓kq_rnd_r, ↓kq_rnd_x, ↓kq_blk_n, ↓kq_blk_r, ↓kq_blk_hit, ↓kq_blk_miss, ↓thenQ_rnd, ↓fnPost_normal, ↓fnPost_ret,
    guardV_bt, guardV_bf, condV_b, pop, hop, ev, evs, evp, argEnv, get_hit, get_miss, constV, constC, constCs, dstOf_stub, id, List.getElem?_cons_zero, List.getElem?_cons_succ, Option.bind_some, Option.bind_none, Option.map_some, Option.map_none,
    Nat.reduceBEq, bsize_lit, Nat.reduceLT, Nat.reduceLeDiff, Nat.reduceAdd, Nat.reduceSub, Nat.reduceEqDiff, Nat.reduceMul, intBin, strBin, isSh, shV, resK, packV, InK, Int.reduceLE, Int.reduceLT, Int.reduceNeg, true_and, and_true, and_self, eq_self, ↓reduceIte, Bool.false_eq_true, if_true, if_false, true_imp_iff, false_imp_iff, imp_self, forall_const, reduceCtorEq, ne_eq, not_false_eq_true, not_true_eq_false, or_self, or_false, false_or, false_and, and_false,
    hget, hput, V.cells, List.length_cons, List.length_nil, List.drop_zero, List.drop_succ_cons, List.take_succ_cons, List.take_zero, List.take_nil, List.drop_nil, fillV, fillE, List.append_eq, List.cons_append, List.nil_append, List.append_nil, List.set_cons_zero, List.set_cons_succ, List.replicate, nls, nl, List.all_cons, List.all_nil, Bool.not_true, Bool.not_false, Bool.and_true, Bool.true_and, Bool.and_self, Bool.and_false, Bool.false_and, allOne, List.isEmpty_toArray, List.isEmpty_nil, lenV, exists_eq_left', Option.some.injEq, Nat.le_refl, Nat.zero_le, Nat.add_zero, Nat.zero_add, decide_true, decide_false, cond_true, cond_false, Int.toNat_natCast, Int.ofNat_lt, Int.ofNat_le, Int.natCast_nonneg, List.length_map, List.getElem?_map, List.getD_eq_getElem?_getD, Option.getD_some, Option.getD_none, fin_pure, List.map_cons, List.map_nil, srcV, ty3, ty4, ty5, ty9, ty22, ty28, ty31, ty33, ty35, ty37, ty50]
      first | exact Fin.nl (by simp [addV, addOk, hl, hf] at he; simp [he]) rfl | (refine ⟨?_, ?_⟩ <;> first | rfl | (simp [addV, addOk, hl, hf] at he; simp [he])) | (simp [addV, addOk, hl, hf] at he; simp [he])
    have cont : ∀ (h5 : lastOk l n = true) (h6 : 0 ≤ n) (h7 : n ≤ 1073741824), addOk l n f = true := fun h5 h6 h7 => by simp [addOk, hl, hf, h5, h6, h7]
    have hbad : ∀ (h8 : ¬ addOk l n f = true), e = 1 := fun h8 => by simp [addV, h8] at he; exact he.symm
    rcases Nat.eq_zero_or_pos l.length with hz | hp
    case' inl =>
      have hd : decide ((0:Int) < (l.length : Int)) = false := by simp [hz]
      have hlo : lastOk l n = true := by
        have : l = [] := List.eq_nil_of_length_eq_zero hz
        subst this; rfl
      simp (maxSteps := 4000000) -implicitDefEqProofs only [↓vc_seq, ↓vc_region, ↓vc_draw, ↓vc_skip, ↓vc_label, ↓vc_ret, ↓vc_exit, ↓vc_block, ↓vc_loop, ↓vc_cond, ↓vcOps_nil, ↓vcOps_plain, ↓vcOps_plain0, ↓vcOps_guard, ↓stepK_some, ↓stepK_none, ↓opK_f, ↓opK_t, ↓op0_f, ↓op0_t, ↓guardD_some, ↓guardV_u, ↓guardV_tt, ↓guardV_tf, ↓guardV_ft, ↓guardV_ff, ↓seqK_eq, ↓drawK_eq, ↓condV_t, ↓condV_f, ↓kq_nil, ↓kq_seq_n, ↓kq_seq_r, ↓kq_seq_x, ↓kq_rnd_n, ↓kq_rnd_r, ↓kq_rnd_x, ↓kq_blk_n, ↓kq_blk_r, ↓kq_blk_hit, ↓kq_blk_miss, ↓thenQ_rnd, ↓fnPost_normal, ↓fnPost_ret,
    guardV_bt, guardV_bf, condV_b, pop, hop, ev, evs, evp, argEnv, get_hit, get_miss, constV, constC, constCs, dstOf_stub, id, List.getElem?_cons_zero, List.getElem?_cons_succ, Option.bind_some, Option.bind_none, Option.map_some, Option.map_none,
    Nat.reduceBEq, bsize_lit, Nat.reduceLT, Nat.reduceLeDiff, Nat.reduceAdd, Nat.reduceSub, Nat.reduceEqDiff, Nat.reduceMul, intBin, strBin, isSh, shV, resK, packV, InK, Int.reduceLE, Int.reduceLT, Int.reduceNeg, true_and, and_true, and_self, eq_self, ↓reduceIte, Bool.false_eq_true, if_true, if_false, true_imp_iff, false_imp_iff, imp_self, forall_const, reduceCtorEq, ne_eq, not_false_eq_true, not_true_eq_false, or_self, or_false, false_or, false_and, and_false,
    hget, hput, V.cells, List.length_cons, List.length_nil, List.drop_zero, List.drop_succ_cons, List.take_succ_cons, List.take_zero, List.take_nil, List.drop_nil, fillV, fillE, List.append_eq, List.cons_append, List.nil_append, List.append_nil, List.set_cons_zero, List.set_cons_succ, List.replicate, nls, nl, List.all_cons, List.all_nil, Bool.not_true, Bool.not_false, Bool.and_true, Bool.true_and, Bool.and_self, Bool.and_false, Bool.false_and, allOne, List.isEmpty_toArray, List.isEmpty_nil, lenV, exists_eq_left', Option.some.injEq, Nat.le_refl, Nat.zero_le, Nat.add_zero, Nat.zero_add, decide_true, decide_false, cond_true, cond_false, Int.toNat_natCast, Int.ofNat_lt, Int.ofNat_le, Int.natCast_nonneg, List.length_map, List.getElem?_map, List.getD_eq_getElem?_getD, Option.getD_some, Option.getD_none, fin_pure, List.map_cons, List.map_nil, srcV, ty3, ty4, ty5, ty9, ty22, ty28, ty31, ty33, ty35, ty37, ty50, hd]
      refine spl (fun h4 => ?_) (fun h4 => spl (fun h5 => ?_) (fun h5 => ?_))
      · have : e = 1 := hbad fun h => by simp [addOk] at h; simp at h4; omega
        first | exact Fin.nl (by rw [this]) rfl | (refine ⟨?_, ?_⟩ <;> first | rfl | (rw [this])) | (rw [this])
      · have : e = 1 := hbad fun h => by simp [addOk] at h; simp at h5; omega
        first | exact Fin.nl (by rw [this]) rfl | (refine ⟨?_, ?_⟩ <;> first | rfl | (rw [this])) | (rw [this])
      have hok : addOk l n f = true := cont hlo (by simp at h4; omega) (by simp at h5; omega)
    case' inr =>
      have hd : decide ((0:Int) < (l.length : Int)) = true := by simp; omega
      have e2 : (IntKind.i64.wrap ((l.length:Int) - 1) : Int) = ((l.length - 1 : Nat) : Int) := by
        have := (listB_is hl).1
        rw [wrap_in]
        · omega
        · simp only [InK]; omega
      have hi3 : l.length - 1 < l.length := by omega
      have hlo : lastOk l n = decide (l[l.length - 1].seq < n) := by simp [lastOk, List.getElem?_eq_getElem hi3]
      generalize hqq : l[l.length - 1] = q at hlo
      have hq2 : l[l.length - 1]? = some q := by rw [List.getElem?_eq_getElem hi3, hqq]
      simp (maxSteps := 4000000) -implicitDefEqProofs only [↓vc_seq, ↓vc_region, ↓vc_draw, ↓vc_skip, ↓vc_label, ↓vc_ret, ↓vc_exit, ↓vc_block, ↓vc_loop, ↓vc_cond, ↓vcOps_nil, ↓vcOps_plain, ↓vcOps_plain0, ↓vcOps_guard, ↓stepK_some, ↓stepK_none, ↓opK_f, ↓opK_t, ↓op0_f, ↓op0_t, ↓guardD_some, ↓guardV_u, ↓guardV_tt, ↓guardV_tf, ↓guardV_ft, ↓guardV_ff, ↓seqK_eq, ↓drawK_eq, ↓condV_t, ↓condV_f, ↓kq_nil, ↓kq_seq_n, ↓kq_seq_r, ↓kq_seq_x, ↓kq_rnd_n, ↓kq_rnd_r, ↓kq_rnd_x, ↓kq_blk_n, ↓kq_blk_r, ↓kq_blk_hit, ↓kq_blk_miss, ↓thenQ_rnd, ↓fnPost_normal, ↓fnPost_ret,
    guardV_bt, guardV_bf, condV_b, pop, hop, ev, evs, evp, argEnv, get_hit, get_miss, constV, constC, constCs, dstOf_stub, id, List.getElem?_cons_zero, List.getElem?_cons_succ, Option.bind_some, Option.bind_none, Option.map_some, Option.map_none,
    Nat.reduceBEq, bsize_lit, Nat.reduceLT, Nat.reduceLeDiff, Nat.reduceAdd, Nat.reduceSub, Nat.reduceEqDiff, Nat.reduceMul, intBin, strBin, isSh, shV, resK, packV, InK, Int.reduceLE, Int.reduceLT, Int.reduceNeg, true_and, and_true, and_self, eq_self, ↓reduceIte, Bool.false_eq_true, if_true, if_false, true_imp_iff, false_imp_iff, imp_self, forall_const, reduceCtorEq, ne_eq, not_false_eq_true, not_true_eq_false, or_self, or_false, false_or, false_and, and_false,
    hget, hput, V.cells, List.length_cons, List.length_nil, List.drop_zero, List.drop_succ_cons, List.take_succ_cons, List.take_zero, List.take_nil, List.drop_nil, fillV, fillE, List.append_eq, List.cons_append, List.nil_append, List.append_nil, List.set_cons_zero, List.set_cons_succ, List.replicate, nls, nl, List.all_cons, List.all_nil, Bool.not_true, Bool.not_false, Bool.and_true, Bool.true_and, Bool.and_self, Bool.and_false, Bool.false_and, allOne, List.isEmpty_toArray, List.isEmpty_nil, lenV, exists_eq_left', Option.some.injEq, Nat.le_refl, Nat.zero_le, Nat.add_zero, Nat.zero_add, decide_true, decide_false, cond_true, cond_false, Int.toNat_natCast, Int.ofNat_lt, Int.ofNat_le, Int.natCast_nonneg, List.length_map, List.getElem?_map, List.getD_eq_getElem?_getD, Option.getD_some, Option.getD_none, fin_pure, List.map_cons, List.map_nil, srcV, ty3, ty4, ty5, ty9, ty22, ty28, ty31, ty33, ty35, ty37, ty50, hd, e2, hq2, Kp.cells_eq]
      refine spl (fun h4 => ?_) (fun h4 => spl (fun h5 => ?_) (fun h5 => ?_))
      · have : e = 1 := hbad fun h => by simp [addOk] at h; simp at h4; omega
        first | exact Fin.nl (by rw [this]) rfl | (refine ⟨?_, ?_⟩ <;> first | rfl | (rw [this])) | (rw [this])
      · have : e = 1 := hbad fun h => by simp [addOk] at h; simp at h5; omega
        first | exact Fin.nl (by rw [this]) rfl | (refine ⟨?_, ?_⟩ <;> first | rfl | (rw [this])) | (rw [this])
      refine ⟨hi3, spl (fun h6 => ?_) (fun h6 => ?_)⟩
      · have : e = 1 := hbad fun h => by simp [addOk, hlo] at h; simp at h6; omega
        first | exact Fin.nl (by rw [this]) rfl | (refine ⟨?_, ?_⟩ <;> first | rfl | (rw [this])) | (rw [this])
      have hok : addOk l n f = true := cont (by rw [hlo]; simp at h6 ⊢; omega) (by simp at h4; omega) (by simp at h5; omega)
    all_goals
      have hbad2 : ∀ (h8 : 0 ≤ atI l f 0), e = 4 := fun h8 => by simp [addV, hok, h8] at he; exact he.symm
      have hbad3 : ∀ (h8 : ¬ 0 ≤ atI l f 0) (h9 : 300 ≤ l.length), e = 2 := fun h8 h9 => by simp [addV, hok, h8, h9] at he; exact he.symm
      refine CallK.pure (c15 l f) (by rw [Fc.cells_eq]; exact Wkt.refl _) fun _ => ?_
      simp (maxSteps := 4000000) -implicitDefEqProofs only [↓vc_seq, ↓vc_region, ↓vc_draw, ↓vc_skip, ↓vc_label, ↓vc_ret, ↓vc_exit, ↓vc_block, ↓vc_loop, ↓vc_cond, ↓vcOps_nil, ↓vcOps_plain, ↓vcOps_plain0, ↓vcOps_guard, ↓stepK_some, ↓stepK_none, ↓opK_f, ↓opK_t, ↓op0_f, ↓op0_t, ↓guardD_some, ↓guardV_u, ↓guardV_tt, ↓guardV_tf, ↓guardV_ft, ↓guardV_ff, ↓seqK_eq, ↓drawK_eq, ↓condV_t, ↓condV_f, ↓kq_nil, ↓kq_seq_n, ↓kq_seq_r, ↓kq_seq_x, ↓kq_rnd_n, ↓kq_rnd_r, ↓kq_rnd_x, ↓kq_blk_n, ↓kq_blk_r, ↓kq_blk_hit, ↓kq_blk_miss, ↓thenQ_rnd, ↓fnPost_normal, ↓fnPost_ret,
    guardV_bt, guardV_bf, condV_b, pop, hop, ev, evs, evp, argEnv, get_hit, get_miss, constV, constC, constCs, dstOf_stub, id, List.getElem?_cons_zero, List.getElem?_cons_succ, Option.bind_some, Option.bind_none, Option.map_some, Option.map_none,
    Nat.reduceBEq, bsize_lit, Nat.reduceLT, Nat.reduceLeDiff, Nat.reduceAdd, Nat.reduceSub, Nat.reduceEqDiff, Nat.reduceMul, intBin, strBin, isSh, shV, resK, packV, InK, Int.reduceLE, Int.reduceLT, Int.reduceNeg, true_and, and_true, and_self, eq_self, ↓reduceIte, Bool.false_eq_true, if_true, if_false, true_imp_iff, false_imp_iff, imp_self, forall_const, reduceCtorEq, ne_eq, not_false_eq_true, not_true_eq_false, or_self, or_false, false_or, false_and, and_false,
    hget, hput, V.cells, List.length_cons, List.length_nil, List.drop_zero, List.drop_succ_cons, List.take_succ_cons, List.take_zero, List.take_nil, List.drop_nil, fillV, fillE, List.append_eq, List.cons_append, List.nil_append, List.append_nil, List.set_cons_zero, List.set_cons_succ, List.replicate, nls, nl, List.all_cons, List.all_nil, Bool.not_true, Bool.not_false, Bool.and_true, Bool.true_and, Bool.and_self, Bool.and_false, Bool.false_and, allOne, List.isEmpty_toArray, List.isEmpty_nil, lenV, exists_eq_left', Option.some.injEq, Nat.le_refl, Nat.zero_le, Nat.add_zero, Nat.zero_add, decide_true, decide_false, cond_true, cond_false, Int.toNat_natCast, Int.ofNat_lt, Int.ofNat_le, Int.natCast_nonneg, List.length_map, List.getElem?_map, List.getD_eq_getElem?_getD, Option.getD_some, Option.getD_none, fin_pure, List.map_cons, List.map_nil, srcV, ty3, ty4, ty5, ty9, ty22, ty28, ty31, ty33, ty35, ty37, ty50]
      refine spl (fun h4 => ?_) (fun h4 => spl (fun h5 => ?_) (fun h5 => ?_))
      · have : e = 4 := hbad2 (by simpa using h4)
        first | exact Fin.nl (by rw [this]) rfl | (refine ⟨?_, ?_⟩ <;> first | rfl | (rw [this])) | (rw [this])
      · have : e = 2 := hbad3 (by simpa using h4) (by simp at h5; omega)
        first | exact Fin.nl (by rw [this]) rfl | (refine ⟨?_, ?_⟩ <;> first | rfl | (rw [this])) | (rw [this])
      · exact absurd ⟨hok, by simpa using h4, by simp at h5; omega⟩ h0
end Go.L1.Try
