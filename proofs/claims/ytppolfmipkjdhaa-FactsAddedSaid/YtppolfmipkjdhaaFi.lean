import Derived.Test.YtppolfmipkjdhaaFg
/-! Seat of almagestlaw9.FactsAdded: term.Note. -/
-- alias Try
-- tys ty3 ty4 ty5 ty9 ty31 ty33 ty35 ty73 ty96
set_option linter.all false
set_option maxRecDepth 100000
namespace Go.L1.Try
open Go.RowKit Go.Proofs
variable [Zero Prop]

def mapN (ns : List ByteArray) : List (V × V) := ns.map fun s => (.s s, .b true)
def hasN (ns : List ByteArray) (s : ByteArray) : Bool := ns.any fun x => decide (s = x)
def addN (ns : List ByteArray) (s : ByteArray) : List ByteArray := if hasN ns s = true then ns else ns ++ [s]

theorem hasN_iff (ns : List ByteArray) (s : ByteArray) : hasN ns s = true ↔ s ∈ ns := by
  simp [hasN]

theorem findI_mapN (s : ByteArray) : ∀ (ns : List ByteArray) (i : Nat), match findI (.s s) (mapN ns) i with
    | none => hasN ns s = false
    | some j => hasN ns s = true ∧ i ≤ j ∧ ns[j - i]? = some s
  | [], i => by simp [mapN, findI, hasN]
  | x :: ns, i => by
    have ih := findI_mapN s ns (i + 1)
    simp only [mapN, List.map_cons, findI, hasN, List.any_cons] at ih ⊢
    by_cases h : s = x
    · subst h; simp [keyEq, scEq]
    · simp only [keyEq, scEq, h, decide_false, Bool.false_eq_true, if_false, Bool.false_or]
      split at ih
      · exact ih
      · rename_i j hq
        refine ⟨ih.1, by omega, ?_⟩
        rw [show j - i = (j - (i + 1)) + 1 from by omega, List.getElem?_cons_succ]
        exact ih.2.2

theorem updE_mapN (ns : List ByteArray) (s : ByteArray) : updE (mapN ns) (.s s) (.b true) = mapN (addN ns s) := by
  have h := findI_mapN s ns 0
  unfold updE addN
  split at h
  · rename_i hq; rw [hq]; simp [h, mapN]
  · rename_i j hq; rw [hq]
    simp only [h.1, if_true]
    have h2 := h.2.2
    rw [Nat.sub_zero] at h2
    obtain ⟨hl, he⟩ := List.getElem?_eq_some_iff.1 h2
    unfold mapN
    apply List.ext_getElem?
    intro i
    rw [List.getElem?_set]
    split
    · rename_i hj; subst hj
      simp [hl, List.getElem?_map, he]
    · rfl

theorem fits_mapN (ns : List ByteArray) : ∀ e ∈ mapN ns, fits tys 9 e.1 = true := by
  intro e he
  simp only [mapN, List.mem_map] at he
  obtain ⟨s, _, rfl⟩ := he
  rfl

mutual
def noteT : Tm → List ByteArray → List ByteArray
  | .mk k s n ts, ns => noteTs ts (if k = 1 then addN ns s else ns)
def noteTs : List Tm → List ByteArray → List ByteArray
  | [], ns => ns
  | x :: xs, ns => noteTs xs (noteT x ns)
end

def NoteOk (t : Tm) : Prop := ∀ ns, CH Try.prog 55 1 [.agg t.cells, .mp 0] [(0, 0, .map (mapN ns))] (.tup []) [(0, 0, .map (mapN (noteT t ns)))]

theorem noteTs_drop {ts : List Tm} {i : Nat} {ns : List ByteArray} (hi : i < ts.length) : noteTs (ts.drop i) ns = noteTs (ts.drop (i + 1)) (noteT ts[i] ns) := by
  rw [List.drop_eq_getElem_cons hi, noteTs]

theorem blB_mapN (n : Nat) (ns : List ByteArray) : blB n (.map (mapN ns)) = true := by
  simp [blB, mapN, bl]

theorem c55_step (k : Int) (s : ByteArray) (n : Int) (ts : List Tm) (ih : ∀ x ∈ ts, NoteOk x) : NoteOk (.mk k s n ts) := by
  intro ns
  refine CH.of ?_ (by simp [Tm.cells_eq, bls, bl]) (by simp [bl, bls]) (by simp [blB_mapN]) (by simp [blB_mapN])
  simp only [Tm.cells]
  refine C.of_vck (c := _) (rs := []) (n := _) sig rfl (fun _ => true) Try.func55 Try.call55 rfl Try.results55 Try.ntmps55 (by simp) (by omega) ?_
  intro hw
  have hlen : ts.length ≤ 9223372036854775807 := by
    simp only [Wfs, Wf, cellss_len] at hw; have := hw.1.2.2.2.1.1; unfold maxLen at this; omega
  clear hw
  simp (maxSteps := 4000000) -implicitDefEqProofs only [↓vc_seq, ↓vc_region, ↓vc_draw, ↓vc_skip, ↓vc_label, ↓vc_ret, ↓vc_exit, ↓vc_block, ↓vc_loop, ↓vc_cond, ↓vcOps_nil, ↓vcOps_plain, ↓vcOps_plain0, ↓vcOps_guard, ↓stepK_some, ↓stepK_none, ↓opK_f, ↓opK_t, ↓op0_f, ↓op0_t, ↓guardD_some, ↓guardV_u, ↓guardV_tt, ↓guardV_tf, ↓guardV_ft, ↓guardV_ff, ↓seqK_eq, ↓drawK_eq, ↓condV_t, ↓condV_f, ↓kq_nil, ↓kq_seq_n, ↓kq_seq_r, ↓kq_seq_x, ↓kq_rnd_n, ↓kq_rnd_r, ↓kq_rnd_x, ↓kq_blk_n, ↓kq_blk_r, ↓kq_blk_hit, ↓kq_blk_miss, ↓thenQ_rnd, ↓fnPost_normal, ↓fnPost_ret,
    guardV_bt, guardV_bf, condV_b, pop, hop, ev, evs, evp, argEnv, get_hit, get_miss, constV, constC, constCs, dstOf_stub, id, List.getElem?_cons_zero, List.getElem?_cons_succ, Option.bind_some, Option.bind_none, Option.map_some, Option.map_none,
    Nat.reduceBEq, bsize_lit, Nat.reduceLT, Nat.reduceLeDiff, Nat.reduceAdd, Nat.reduceSub, Nat.reduceEqDiff, Nat.reduceMul, intBin, strBin, isSh, shV, resK, packV, InK, Int.reduceLE, Int.reduceLT, Int.reduceNeg, true_and, and_true, and_self, eq_self, ↓reduceIte, Bool.false_eq_true, if_true, if_false, true_imp_iff, false_imp_iff, imp_self, forall_const, reduceCtorEq, ne_eq, not_false_eq_true, not_true_eq_false, or_self, or_false, false_or, false_and, and_false,
    hget, hput, V.cells, List.length_cons, List.length_nil, List.drop_zero, List.drop_succ_cons, List.take_succ_cons, List.take_zero, List.take_nil, List.drop_nil, fillV, fillE, List.append_eq, List.cons_append, List.nil_append, List.append_nil, List.set_cons_zero, List.set_cons_succ, List.replicate, nls, nl, List.all_cons, List.all_nil, Bool.not_true, Bool.not_false, Bool.and_true, Bool.true_and, Bool.and_self, Bool.and_false, Bool.false_and, allOne, List.isEmpty_toArray, List.isEmpty_nil, lenV, exists_eq_left', Option.some.injEq, Nat.le_refl, Nat.zero_le, Nat.add_zero, Nat.zero_add, decide_true, decide_false, cond_true, cond_false, Int.toNat_natCast, Int.ofNat_lt, Int.ofNat_le, Int.natCast_nonneg, List.length_map, List.getElem?_map, List.getD_eq_getElem?_getD, Option.getD_some, Option.getD_none, fin_pure, List.map_cons, List.map_nil, srcV, ty3, ty4, ty5, ty9, ty31, ty33, ty35, ty73, ty96, cellss_len, updE_mapN]
  refine spl (fun hk => ⟨rfl, fits_mapN ns, ?_⟩) (fun hk => ?_)
  · have hk : k = 1 := by simpa using hk
    have hres : noteT (.mk k s n ts) ns = noteTs ts (addN ns s) := by rw [noteT, if_pos hk]
    rw [hres]
    generalize addN ns s = ns0
    refine ⟨{ p : Nat × List ByteArray // p.1 ≤ ts.length ∧ noteTs (ts.drop p.1) p.2 = noteTs ts ns0 }, fun p => [(15, .i .i64 p.1.1), (14, .i .i64 ts.length), (13, .dsl 4 (cellss ts)), (1, .mp 0)], fun p => [(0, 0, .map (mapN p.1.2))], 1, fun p => ts.length - p.1.1, [], ?_, ?_⟩
    · refine ⟨Nat.le_refl _, ⟨(0, ns0), Nat.zero_le _, rfl⟩, [], by simp, ?_, ?_⟩
      · simp [Sub, Env.get, frV_nil, bl, bls]
      · simp [blB_mapN]
    · rintro ⟨⟨i, ns1⟩, hi, hn⟩ hwf
      clear hwf
      simp only at hi hn ⊢
      simp (maxSteps := 4000000) -implicitDefEqProofs only [↓vc_seq, ↓vc_region, ↓vc_draw, ↓vc_skip, ↓vc_label, ↓vc_ret, ↓vc_exit, ↓vc_block, ↓vc_loop, ↓vc_cond, ↓vcOps_nil, ↓vcOps_plain, ↓vcOps_plain0, ↓vcOps_guard, ↓stepK_some, ↓stepK_none, ↓opK_f, ↓opK_t, ↓op0_f, ↓op0_t, ↓guardD_some, ↓guardV_u, ↓guardV_tt, ↓guardV_tf, ↓guardV_ft, ↓guardV_ff, ↓seqK_eq, ↓drawK_eq, ↓condV_t, ↓condV_f, ↓kq_nil, ↓kq_seq_n, ↓kq_seq_r, ↓kq_seq_x, ↓kq_rnd_n, ↓kq_rnd_r, ↓kq_rnd_x, ↓kq_blk_n, ↓kq_blk_r, ↓kq_blk_hit, ↓kq_blk_miss, ↓thenQ_rnd, ↓fnPost_normal, ↓fnPost_ret,
    guardV_bt, guardV_bf, condV_b, pop, hop, ev, evs, evp, argEnv, get_hit, get_miss, constV, constC, constCs, dstOf_stub, id, List.getElem?_cons_zero, List.getElem?_cons_succ, Option.bind_some, Option.bind_none, Option.map_some, Option.map_none,
    Nat.reduceBEq, bsize_lit, Nat.reduceLT, Nat.reduceLeDiff, Nat.reduceAdd, Nat.reduceSub, Nat.reduceEqDiff, Nat.reduceMul, intBin, strBin, isSh, shV, resK, packV, InK, Int.reduceLE, Int.reduceLT, Int.reduceNeg, true_and, and_true, and_self, eq_self, ↓reduceIte, Bool.false_eq_true, if_true, if_false, true_imp_iff, false_imp_iff, imp_self, forall_const, reduceCtorEq, ne_eq, not_false_eq_true, not_true_eq_false, or_self, or_false, false_or, false_and, and_false,
    hget, hput, V.cells, List.length_cons, List.length_nil, List.drop_zero, List.drop_succ_cons, List.take_succ_cons, List.take_zero, List.take_nil, List.drop_nil, fillV, fillE, List.append_eq, List.cons_append, List.nil_append, List.append_nil, List.set_cons_zero, List.set_cons_succ, List.replicate, nls, nl, List.all_cons, List.all_nil, Bool.not_true, Bool.not_false, Bool.and_true, Bool.true_and, Bool.and_self, Bool.and_false, Bool.false_and, allOne, List.isEmpty_toArray, List.isEmpty_nil, lenV, exists_eq_left', Option.some.injEq, Nat.le_refl, Nat.zero_le, Nat.add_zero, Nat.zero_add, decide_true, decide_false, cond_true, cond_false, Int.toNat_natCast, Int.ofNat_lt, Int.ofNat_le, Int.natCast_nonneg, List.length_map, List.getElem?_map, List.getD_eq_getElem?_getD, Option.getD_some, Option.getD_none, fin_pure, List.map_cons, List.map_nil, srcV, ty3, ty4, ty5, ty9, ty31, ty33, ty35, ty73, ty96, cellss_len, cellss_get, Tm.cells_len, Tm.cells_take, Tm.cells_nls]
      refine spl (fun hc => ?_) (fun hc => ?_)
      · have hi2 : i < ts.length := by simpa using hc
        refine ⟨hi2, ?_⟩
        simp (maxSteps := 4000000) -implicitDefEqProofs only [↓vc_seq, ↓vc_region, ↓vc_draw, ↓vc_skip, ↓vc_label, ↓vc_ret, ↓vc_exit, ↓vc_block, ↓vc_loop, ↓vc_cond, ↓vcOps_nil, ↓vcOps_plain, ↓vcOps_plain0, ↓vcOps_guard, ↓stepK_some, ↓stepK_none, ↓opK_f, ↓opK_t, ↓op0_f, ↓op0_t, ↓guardD_some, ↓guardV_u, ↓guardV_tt, ↓guardV_tf, ↓guardV_ft, ↓guardV_ff, ↓seqK_eq, ↓drawK_eq, ↓condV_t, ↓condV_f, ↓kq_nil, ↓kq_seq_n, ↓kq_seq_r, ↓kq_seq_x, ↓kq_rnd_n, ↓kq_rnd_r, ↓kq_rnd_x, ↓kq_blk_n, ↓kq_blk_r, ↓kq_blk_hit, ↓kq_blk_miss, ↓thenQ_rnd, ↓fnPost_normal, ↓fnPost_ret,
    guardV_bt, guardV_bf, condV_b, pop, hop, ev, evs, evp, argEnv, get_hit, get_miss, constV, constC, constCs, dstOf_stub, id, List.getElem?_cons_zero, List.getElem?_cons_succ, Option.bind_some, Option.bind_none, Option.map_some, Option.map_none,
    Nat.reduceBEq, bsize_lit, Nat.reduceLT, Nat.reduceLeDiff, Nat.reduceAdd, Nat.reduceSub, Nat.reduceEqDiff, Nat.reduceMul, intBin, strBin, isSh, shV, resK, packV, InK, Int.reduceLE, Int.reduceLT, Int.reduceNeg, true_and, and_true, and_self, eq_self, ↓reduceIte, Bool.false_eq_true, if_true, if_false, true_imp_iff, false_imp_iff, imp_self, forall_const, reduceCtorEq, ne_eq, not_false_eq_true, not_true_eq_false, or_self, or_false, false_or, false_and, and_false,
    hget, hput, V.cells, List.length_cons, List.length_nil, List.drop_zero, List.drop_succ_cons, List.take_succ_cons, List.take_zero, List.take_nil, List.drop_nil, fillV, fillE, List.append_eq, List.cons_append, List.nil_append, List.append_nil, List.set_cons_zero, List.set_cons_succ, List.replicate, nls, nl, List.all_cons, List.all_nil, Bool.not_true, Bool.not_false, Bool.and_true, Bool.true_and, Bool.and_self, Bool.and_false, Bool.false_and, allOne, List.isEmpty_toArray, List.isEmpty_nil, lenV, exists_eq_left', Option.some.injEq, Nat.le_refl, Nat.zero_le, Nat.add_zero, Nat.zero_add, decide_true, decide_false, cond_true, cond_false, Int.toNat_natCast, Int.ofNat_lt, Int.ofNat_le, Int.natCast_nonneg, List.length_map, List.getElem?_map, List.getD_eq_getElem?_getD, Option.getD_some, Option.getD_none, fin_pure, List.map_cons, List.map_nil, srcV, ty3, ty4, ty5, ty9, ty31, ty33, ty35, ty73, ty96, List.getElem?_eq_getElem hi2, cellss_len, cellss_get, Tm.cells_len, Tm.cells_take, Tm.cells_nls]
        refine CallK.own (H1 := [(0, 0, .map (mapN ns1))]) (H2 := [(1, 0, .row 33 [ts[i].cells])]) (List.Perm.swap ..) (ih _ (List.getElem_mem hi2) ns1 _ (by omega)) (Wkt.refl _) fun _ => ?_
        simp (maxSteps := 4000000) -implicitDefEqProofs only [↓vc_seq, ↓vc_region, ↓vc_draw, ↓vc_skip, ↓vc_label, ↓vc_ret, ↓vc_exit, ↓vc_block, ↓vc_loop, ↓vc_cond, ↓vcOps_nil, ↓vcOps_plain, ↓vcOps_plain0, ↓vcOps_guard, ↓stepK_some, ↓stepK_none, ↓opK_f, ↓opK_t, ↓op0_f, ↓op0_t, ↓guardD_some, ↓guardV_u, ↓guardV_tt, ↓guardV_tf, ↓guardV_ft, ↓guardV_ff, ↓seqK_eq, ↓drawK_eq, ↓condV_t, ↓condV_f, ↓kq_nil, ↓kq_seq_n, ↓kq_seq_r, ↓kq_seq_x, ↓kq_rnd_n, ↓kq_rnd_r, ↓kq_rnd_x, ↓kq_blk_n, ↓kq_blk_r, ↓kq_blk_hit, ↓kq_blk_miss, ↓thenQ_rnd, ↓fnPost_normal, ↓fnPost_ret,
    guardV_bt, guardV_bf, condV_b, pop, hop, ev, evs, evp, argEnv, get_hit, get_miss, constV, constC, constCs, dstOf_stub, id, List.getElem?_cons_zero, List.getElem?_cons_succ, Option.bind_some, Option.bind_none, Option.map_some, Option.map_none,
    Nat.reduceBEq, bsize_lit, Nat.reduceLT, Nat.reduceLeDiff, Nat.reduceAdd, Nat.reduceSub, Nat.reduceEqDiff, Nat.reduceMul, intBin, strBin, isSh, shV, resK, packV, InK, Int.reduceLE, Int.reduceLT, Int.reduceNeg, true_and, and_true, and_self, eq_self, ↓reduceIte, Bool.false_eq_true, if_true, if_false, true_imp_iff, false_imp_iff, imp_self, forall_const, reduceCtorEq, ne_eq, not_false_eq_true, not_true_eq_false, or_self, or_false, false_or, false_and, and_false,
    hget, hput, V.cells, List.length_cons, List.length_nil, List.drop_zero, List.drop_succ_cons, List.take_succ_cons, List.take_zero, List.take_nil, List.drop_nil, fillV, fillE, List.append_eq, List.cons_append, List.nil_append, List.append_nil, List.set_cons_zero, List.set_cons_succ, List.replicate, nls, nl, List.all_cons, List.all_nil, Bool.not_true, Bool.not_false, Bool.and_true, Bool.true_and, Bool.and_self, Bool.and_false, Bool.false_and, allOne, List.isEmpty_toArray, List.isEmpty_nil, lenV, exists_eq_left', Option.some.injEq, Nat.le_refl, Nat.zero_le, Nat.add_zero, Nat.zero_add, decide_true, decide_false, cond_true, cond_false, Int.toNat_natCast, Int.ofNat_lt, Int.ofNat_le, Int.natCast_nonneg, List.length_map, List.getElem?_map, List.getD_eq_getElem?_getD, Option.getD_some, Option.getD_none, fin_pure, List.map_cons, List.map_nil, srcV, ty3, ty4, ty5, ty9, ty31, ty33, ty35, ty73, ty96]
        have e1 : (IntKind.i64.wrap (i + 1) : Int) = ((i + 1 : Nat) : Int) := by
          rw [wrap_in]
          · omega
          · simp only [InK]; omega
        refine ⟨⟨(i + 1, noteT ts[i] ns1), by simp only; omega, by rw [← hn, noteTs_drop hi2]⟩, by simp only; omega, [(1, 0, .row 33 [ts[i].cells])], List.Perm.refl _, ?_, ?_⟩
        · simp [Sub, Env.get, frV, frVs, bl, bls, e1]
        · simp [blB_mapN]
      · have hi2 : i = ts.length := by simp at hc; omega
        subst hi2
        rw [List.drop_length] at hn
        simp only [noteTs] at hn
        exact Fin.keep (rest := []) (by rw [hn]; simp) rfl (by simp [nl, nls]) (by simp [blB_mapN])
  · have hk : ¬ k = 1 := by simpa using hk
    have hres : noteT (.mk k s n ts) ns = noteTs ts ns := by rw [noteT, if_neg hk]
    rw [hres]
    generalize ns = ns0
    refine ⟨{ p : Nat × List ByteArray // p.1 ≤ ts.length ∧ noteTs (ts.drop p.1) p.2 = noteTs ts ns0 }, fun p => [(15, .i .i64 p.1.1), (14, .i .i64 ts.length), (13, .dsl 4 (cellss ts)), (1, .mp 0)], fun p => [(0, 0, .map (mapN p.1.2))], 1, fun p => ts.length - p.1.1, [], ?_, ?_⟩
    · refine ⟨Nat.le_refl _, ⟨(0, ns0), Nat.zero_le _, rfl⟩, [], by simp, ?_, ?_⟩
      · simp [Sub, Env.get, frV_nil, bl, bls]
      · simp [blB_mapN]
    · rintro ⟨⟨i, ns1⟩, hi, hn⟩ hwf
      clear hwf
      simp only at hi hn ⊢
      simp (maxSteps := 4000000) -implicitDefEqProofs only [↓vc_seq, ↓vc_region, ↓vc_draw, ↓vc_skip, ↓vc_label, ↓vc_ret, ↓vc_exit, ↓vc_block, ↓vc_loop, ↓vc_cond, ↓vcOps_nil, ↓vcOps_plain, ↓vcOps_plain0, ↓vcOps_guard, ↓stepK_some, ↓stepK_none, ↓opK_f, ↓opK_t, ↓op0_f, ↓op0_t, ↓guardD_some, ↓guardV_u, ↓guardV_tt, ↓guardV_tf, ↓guardV_ft, ↓guardV_ff, ↓seqK_eq, ↓drawK_eq, ↓condV_t, ↓condV_f, ↓kq_nil, ↓kq_seq_n, ↓kq_seq_r, ↓kq_seq_x, ↓kq_rnd_n, ↓kq_rnd_r, ↓kq_rnd_x, ↓kq_blk_n, ↓kq_blk_r, ↓kq_blk_hit, ↓kq_blk_miss, ↓thenQ_rnd, ↓fnPost_normal, ↓fnPost_ret,
    guardV_bt, guardV_bf, condV_b, pop, hop, ev, evs, evp, argEnv, get_hit, get_miss, constV, constC, constCs, dstOf_stub, id, List.getElem?_cons_zero, List.getElem?_cons_succ, Option.bind_some, Option.bind_none, Option.map_some, Option.map_none,
    Nat.reduceBEq, bsize_lit, Nat.reduceLT, Nat.reduceLeDiff, Nat.reduceAdd, Nat.reduceSub, Nat.reduceEqDiff, Nat.reduceMul, intBin, strBin, isSh, shV, resK, packV, InK, Int.reduceLE, Int.reduceLT, Int.reduceNeg, true_and, and_true, and_self, eq_self, ↓reduceIte, Bool.false_eq_true, if_true, if_false, true_imp_iff, false_imp_iff, imp_self, forall_const, reduceCtorEq, ne_eq, not_false_eq_true, not_true_eq_false, or_self, or_false, false_or, false_and, and_false,
    hget, hput, V.cells, List.length_cons, List.length_nil, List.drop_zero, List.drop_succ_cons, List.take_succ_cons, List.take_zero, List.take_nil, List.drop_nil, fillV, fillE, List.append_eq, List.cons_append, List.nil_append, List.append_nil, List.set_cons_zero, List.set_cons_succ, List.replicate, nls, nl, List.all_cons, List.all_nil, Bool.not_true, Bool.not_false, Bool.and_true, Bool.true_and, Bool.and_self, Bool.and_false, Bool.false_and, allOne, List.isEmpty_toArray, List.isEmpty_nil, lenV, exists_eq_left', Option.some.injEq, Nat.le_refl, Nat.zero_le, Nat.add_zero, Nat.zero_add, decide_true, decide_false, cond_true, cond_false, Int.toNat_natCast, Int.ofNat_lt, Int.ofNat_le, Int.natCast_nonneg, List.length_map, List.getElem?_map, List.getD_eq_getElem?_getD, Option.getD_some, Option.getD_none, fin_pure, List.map_cons, List.map_nil, srcV, ty3, ty4, ty5, ty9, ty31, ty33, ty35, ty73, ty96, cellss_len, cellss_get, Tm.cells_len, Tm.cells_take, Tm.cells_nls]
      refine spl (fun hc => ?_) (fun hc => ?_)
      · have hi2 : i < ts.length := by simpa using hc
        refine ⟨hi2, ?_⟩
        simp (maxSteps := 4000000) -implicitDefEqProofs only [↓vc_seq, ↓vc_region, ↓vc_draw, ↓vc_skip, ↓vc_label, ↓vc_ret, ↓vc_exit, ↓vc_block, ↓vc_loop, ↓vc_cond, ↓vcOps_nil, ↓vcOps_plain, ↓vcOps_plain0, ↓vcOps_guard, ↓stepK_some, ↓stepK_none, ↓opK_f, ↓opK_t, ↓op0_f, ↓op0_t, ↓guardD_some, ↓guardV_u, ↓guardV_tt, ↓guardV_tf, ↓guardV_ft, ↓guardV_ff, ↓seqK_eq, ↓drawK_eq, ↓condV_t, ↓condV_f, ↓kq_nil, ↓kq_seq_n, ↓kq_seq_r, ↓kq_seq_x, ↓kq_rnd_n, ↓kq_rnd_r, ↓kq_rnd_x, ↓kq_blk_n, ↓kq_blk_r, ↓kq_blk_hit, ↓kq_blk_miss, ↓thenQ_rnd, ↓fnPost_normal, ↓fnPost_ret,
    guardV_bt, guardV_bf, condV_b, pop, hop, ev, evs, evp, argEnv, get_hit, get_miss, constV, constC, constCs, dstOf_stub, id, List.getElem?_cons_zero, List.getElem?_cons_succ, Option.bind_some, Option.bind_none, Option.map_some, Option.map_none,
    Nat.reduceBEq, bsize_lit, Nat.reduceLT, Nat.reduceLeDiff, Nat.reduceAdd, Nat.reduceSub, Nat.reduceEqDiff, Nat.reduceMul, intBin, strBin, isSh, shV, resK, packV, InK, Int.reduceLE, Int.reduceLT, Int.reduceNeg, true_and, and_true, and_self, eq_self, ↓reduceIte, Bool.false_eq_true, if_true, if_false, true_imp_iff, false_imp_iff, imp_self, forall_const, reduceCtorEq, ne_eq, not_false_eq_true, not_true_eq_false, or_self, or_false, false_or, false_and, and_false,
    hget, hput, V.cells, List.length_cons, List.length_nil, List.drop_zero, List.drop_succ_cons, List.take_succ_cons, List.take_zero, List.take_nil, List.drop_nil, fillV, fillE, List.append_eq, List.cons_append, List.nil_append, List.append_nil, List.set_cons_zero, List.set_cons_succ, List.replicate, nls, nl, List.all_cons, List.all_nil, Bool.not_true, Bool.not_false, Bool.and_true, Bool.true_and, Bool.and_self, Bool.and_false, Bool.false_and, allOne, List.isEmpty_toArray, List.isEmpty_nil, lenV, exists_eq_left', Option.some.injEq, Nat.le_refl, Nat.zero_le, Nat.add_zero, Nat.zero_add, decide_true, decide_false, cond_true, cond_false, Int.toNat_natCast, Int.ofNat_lt, Int.ofNat_le, Int.natCast_nonneg, List.length_map, List.getElem?_map, List.getD_eq_getElem?_getD, Option.getD_some, Option.getD_none, fin_pure, List.map_cons, List.map_nil, srcV, ty3, ty4, ty5, ty9, ty31, ty33, ty35, ty73, ty96, List.getElem?_eq_getElem hi2, cellss_len, cellss_get, Tm.cells_len, Tm.cells_take, Tm.cells_nls]
        refine CallK.own (H1 := [(0, 0, .map (mapN ns1))]) (H2 := [(1, 0, .row 33 [ts[i].cells])]) (List.Perm.swap ..) (ih _ (List.getElem_mem hi2) ns1 _ (by omega)) (Wkt.refl _) fun _ => ?_
        simp (maxSteps := 4000000) -implicitDefEqProofs only [↓vc_seq, ↓vc_region, ↓vc_draw, ↓vc_skip, ↓vc_label, ↓vc_ret, ↓vc_exit, ↓vc_block, ↓vc_loop, ↓vc_cond, ↓vcOps_nil, ↓vcOps_plain, ↓vcOps_plain0, ↓vcOps_guard, ↓stepK_some, ↓stepK_none, ↓opK_f, ↓opK_t, ↓op0_f, ↓op0_t, ↓guardD_some, ↓guardV_u, ↓guardV_tt, ↓guardV_tf, ↓guardV_ft, ↓guardV_ff, ↓seqK_eq, ↓drawK_eq, ↓condV_t, ↓condV_f, ↓kq_nil, ↓kq_seq_n, ↓kq_seq_r, ↓kq_seq_x, ↓kq_rnd_n, ↓kq_rnd_r, ↓kq_rnd_x, ↓kq_blk_n, ↓kq_blk_r, ↓kq_blk_hit, ↓kq_blk_miss, ↓thenQ_rnd, ↓fnPost_normal, ↓fnPost_ret,
    guardV_bt, guardV_bf, condV_b, pop, hop, ev, evs, evp, argEnv, get_hit, get_miss, constV, constC, constCs, dstOf_stub, id, List.getElem?_cons_zero, List.getElem?_cons_succ, Option.bind_some, Option.bind_none, Option.map_some, Option.map_none,
    Nat.reduceBEq, bsize_lit, Nat.reduceLT, Nat.reduceLeDiff, Nat.reduceAdd, Nat.reduceSub, Nat.reduceEqDiff, Nat.reduceMul, intBin, strBin, isSh, shV, resK, packV, InK, Int.reduceLE, Int.reduceLT, Int.reduceNeg, true_and, and_true, and_self, eq_self, ↓reduceIte, Bool.false_eq_true, if_true, if_false, true_imp_iff, false_imp_iff, imp_self, forall_const, reduceCtorEq, ne_eq, not_false_eq_true, not_true_eq_false, or_self, or_false, false_or, false_and, and_false,
    hget, hput, V.cells, List.length_cons, List.length_nil, List.drop_zero, List.drop_succ_cons, List.take_succ_cons, List.take_zero, List.take_nil, List.drop_nil, fillV, fillE, List.append_eq, List.cons_append, List.nil_append, List.append_nil, List.set_cons_zero, List.set_cons_succ, List.replicate, nls, nl, List.all_cons, List.all_nil, Bool.not_true, Bool.not_false, Bool.and_true, Bool.true_and, Bool.and_self, Bool.and_false, Bool.false_and, allOne, List.isEmpty_toArray, List.isEmpty_nil, lenV, exists_eq_left', Option.some.injEq, Nat.le_refl, Nat.zero_le, Nat.add_zero, Nat.zero_add, decide_true, decide_false, cond_true, cond_false, Int.toNat_natCast, Int.ofNat_lt, Int.ofNat_le, Int.natCast_nonneg, List.length_map, List.getElem?_map, List.getD_eq_getElem?_getD, Option.getD_some, Option.getD_none, fin_pure, List.map_cons, List.map_nil, srcV, ty3, ty4, ty5, ty9, ty31, ty33, ty35, ty73, ty96]
        have e1 : (IntKind.i64.wrap (i + 1) : Int) = ((i + 1 : Nat) : Int) := by
          rw [wrap_in]
          · omega
          · simp only [InK]; omega
        refine ⟨⟨(i + 1, noteT ts[i] ns1), by simp only; omega, by rw [← hn, noteTs_drop hi2]⟩, by simp only; omega, [(1, 0, .row 33 [ts[i].cells])], List.Perm.refl _, ?_, ?_⟩
        · simp [Sub, Env.get, frV, frVs, bl, bls, e1]
        · simp [blB_mapN]
      · have hi2 : i = ts.length := by simp at hc; omega
        subst hi2
        rw [List.drop_length] at hn
        simp only [noteTs] at hn
        exact Fin.keep (rest := []) (by rw [hn]; simp) rfl (by simp [nl, nls]) (by simp [blB_mapN])

theorem c55 : ∀ t : Tm, NoteOk t
  | .mk k s n ts => c55_step k s n ts fun x _ => c55 x
termination_by t => SizeOf.sizeOf t
end Go.L1.Try
