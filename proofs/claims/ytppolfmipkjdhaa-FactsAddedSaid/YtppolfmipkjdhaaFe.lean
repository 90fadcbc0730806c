import Derived.Test.YtppolfmipkjdhaaFd
/-! Seat of almagestlaw9.FactsAdded: term.Key. -/
-- alias Try
-- tys ty3 ty4 ty5 ty9 ty21 ty24 ty31 ty33 ty35 ty37 ty87 ty93
set_option linter.all false
set_option maxRecDepth 100000
namespace Go.L1.Try
open Go.RowKit Go.Proofs
variable [Zero Prop]

def u8 (n : Int) : UInt8 := UInt8.ofNat (IntKind.u8.wrap n).toNat
def n32 (n : Int) : Int := IntKind.u32.wrap (IntKind.i32.wrap n)

mutual
def keyB : Tm → List UInt8
  | .mk k s n ts => u8 k :: u8 s.size :: (s.data.toList ++ ([u8 ((n32 n).fdiv (2 ^ 24)), u8 ((n32 n).fdiv (2 ^ 16)), u8 ((n32 n).fdiv (2 ^ 8)), u8 (n32 n), u8 ts.length] ++ keyBs ts))
def keyBs : List Tm → List UInt8
  | [] => []
  | t :: ts => keyB t ++ keyBs ts
end

def rowB (l : List UInt8) : List (List V) := l.map fun b => [.i .u8 (b.toNat : Int)]

theorem rowB_u8 (n : Int) : [V.i .u8 (IntKind.u8.wrap n)] = [.i .u8 ((u8 n).toNat : Int)] := by
  have h := InK.wrap .u8 n
  simp only [InK] at h
  have : ((u8 n).toNat : Int) = IntKind.u8.wrap n := by
    unfold u8
    rw [UInt8.toNat_ofNat']
    omega
  rw [this]

theorem strOf_rowB (l : List UInt8) : strOf (rowB l) = ⟨l.toArray⟩ := by
  unfold strOf rowB
  congr 1
  congr 1
  rw [List.map_map]
  conv => rhs; rw [← List.map_id l]
  apply List.map_congr_left
  intro b _
  simp [byteOf]
theorem rowB_bytes (l : List UInt8) : (rowB l).all isByte = true := by
  unfold rowB; simp [isByte]
theorem rowB_len (l : List UInt8) : (rowB l).length = l.length := by simp [rowB]
theorem rowB_append (l k : List UInt8) : rowB (l ++ k) = rowB l ++ rowB k := by simp [rowB]

theorem keyBs_append : ∀ (a b : List Tm), keyBs (a ++ b) = keyBs a ++ keyBs b
  | [], b => rfl
  | x :: a, b => by simp [keyBs, keyBs_append a b]
theorem byteEls_mk (l : List UInt8) : byteEls ⟨l.toArray⟩ = rowB l := rfl
theorem keyBs_len {ts : List Tm} {i : Nat} (hi : i < ts.length) : (keyBs (ts.take i)).length + (keyB ts[i]).length ≤ (keyBs ts).length ∧ keyBs (ts.take (i + 1)) = keyBs (ts.take i) ++ keyB ts[i] := by
  have e1 : keyBs (ts.take (i + 1)) = keyBs (ts.take i) ++ keyB ts[i] := by
    rw [List.take_succ_eq_append_getElem hi, keyBs_append]; simp [keyBs]
  have e2 : keyBs ts = keyBs (ts.take (i + 1)) ++ keyBs (ts.drop (i + 1)) := by rw [← keyBs_append, List.take_append_drop]
  rw [e1] at e2
  refine ⟨?_, e1⟩
  rw [e2]; simp only [List.length_append]; omega

theorem c32 : ∀ (t : Tm), (keyB t).length ≤ 140737488355328 → CV Try.prog 32 [.agg t.cells] (.s ⟨(keyB t).toArray⟩)
  | .mk k s n ts, hlen => by
    have ih : ∀ a ∈ ts, (keyB a).length ≤ 140737488355328 → CV Try.prog 32 [.agg a.cells] (.s ⟨(keyB a).toArray⟩) := fun a ha => c32 a
    simp only [Tm.cells]
    refine CV.of_vc0 (c := _) (rs := [.tmp 2]) (n := _) sig rfl (fun d => !(d == 14)) Try.func32 Try.call32 rfl Try.results32 Try.ntmps32 (by simp) (by simp [nls, nl]) (by simp [nls, nl]) ?_
    intro hw
    simp (maxSteps := 4000000) -implicitDefEqProofs only [↓vc_seq, ↓vc_region, ↓vc_draw, ↓vc_skip, ↓vc_label, ↓vc_ret, ↓vc_exit, ↓vc_block, ↓vc_loop, ↓vc_cond, ↓vcOps_nil, ↓vcOps_plain, ↓vcOps_plain0, ↓vcOps_guard, ↓stepK_some, ↓stepK_none, ↓opK_f, ↓opK_t, ↓op0_f, ↓op0_t, ↓guardD_some, ↓guardV_u, ↓guardV_tt, ↓guardV_tf, ↓guardV_ft, ↓guardV_ff, ↓seqK_eq, ↓drawK_eq, ↓condV_t, ↓condV_f, ↓kq_nil, ↓kq_seq_n, ↓kq_seq_r, ↓kq_seq_x, ↓kq_rnd_n, ↓kq_rnd_r, ↓kq_rnd_x, ↓kq_blk_n, ↓kq_blk_r, ↓kq_blk_hit, ↓kq_blk_miss, ↓thenQ_rnd, ↓fnPost_normal, ↓fnPost_ret,
    guardV_bt, guardV_bf, condV_b, pop, hop, ev, evs, evp, argEnv, get_hit, get_miss, constV, constC, constCs, dstOf_stub, id, List.getElem?_cons_zero, List.getElem?_cons_succ, Option.bind_some, Option.bind_none, Option.map_some, Option.map_none,
    Nat.reduceBEq, bsize_lit, Nat.reduceLT, Nat.reduceLeDiff, Nat.reduceAdd, Nat.reduceSub, Nat.reduceEqDiff, Nat.reduceMul, intBin, strBin, isSh, shV, resK, packV, InK, Int.reduceLE, Int.reduceLT, Int.reduceNeg, true_and, and_true, and_self, eq_self, ↓reduceIte, Bool.false_eq_true, if_true, if_false, true_imp_iff, false_imp_iff, imp_self, forall_const, reduceCtorEq, ne_eq, not_false_eq_true, not_true_eq_false, or_self, or_false, false_or, false_and, and_false,
    hget, hput, V.cells, List.length_cons, List.length_nil, List.drop_zero, List.drop_succ_cons, List.take_succ_cons, List.take_zero, List.take_nil, List.drop_nil, fillV, fillE, List.append_eq, List.cons_append, List.nil_append, List.append_nil, List.set_cons_zero, List.set_cons_succ, List.replicate, nls, nl, List.all_cons, List.all_nil, Bool.not_true, Bool.not_false, Bool.and_true, Bool.true_and, Bool.and_self, Bool.and_false, Bool.false_and, allOne, List.isEmpty_toArray, List.isEmpty_nil, lenV, exists_eq_left', Option.some.injEq, Nat.le_refl, Nat.zero_le, Nat.add_zero, Nat.zero_add, decide_true, decide_false, cond_true, cond_false, Int.toNat_natCast, Int.ofNat_lt, Int.ofNat_le, Int.natCast_nonneg, List.length_map, List.getElem?_map, List.getD_eq_getElem?_getD, Option.getD_some, Option.getD_none, fin_pure, List.map_cons, List.map_nil, srcV, ty3, ty4, ty5, ty9, ty21, ty24, ty31, ty33, ty35, ty37, ty87, ty93, cellss_len]
    have hb : (byteEls s).length = s.size := byteEls_length s
    have hn := InK.wrap .u32 (IntKind.i32.wrap n)
    simp only [InK] at hn
    have hsh : ∀ e : Nat, 0 ≤ (IntKind.u32.wrap (IntKind.i32.wrap n)).fdiv (2 ^ e) ∧ (IntKind.u32.wrap (IntKind.i32.wrap n)).fdiv (2 ^ e) ≤ 4294967295 := fun e => by
      rw [Int.fdiv_eq_ediv_of_nonneg _ (Int.le_of_lt (Int.pow_pos (by decide)))]
      constructor
      · exact Int.ediv_nonneg hn.1 (Int.le_of_lt (Int.pow_pos (by decide)))
      · exact Int.le_trans (Int.ediv_le_self _ hn.1) hn.2
    have hb2 : s.data.toList.length = s.size := by rw [Array.length_toList]; rfl
    have hw1 : ts.length ≤ 9223372036854775807 := by
      simp only [Wfs, Wf, cellss_len] at hw; have := hw.1.2.2.2.1.1; unfold maxLen at this; omega
    clear hw
    generalize hpre : (u8 k :: u8 s.size :: (s.data.toList ++ [u8 ((n32 n).fdiv (2 ^ 24)), u8 ((n32 n).fdiv (2 ^ 16)), u8 ((n32 n).fdiv (2 ^ 8)), u8 (n32 n), u8 ts.length]) : List UInt8) = pre
    have hkey : keyB (.mk k s n ts) = pre ++ keyBs ts := by rw [← hpre, keyB]; simp only [List.cons_append, List.append_assoc]
    have hpl : pre.length = s.size + 7 := by rw [← hpre]; simp only [List.length_cons, List.length_append, List.length_nil, hb2]
    have e0 : ([V.i .u8 (IntKind.u8.wrap k)] :: [V.i .u8 (IntKind.u8.wrap s.size)] :: (byteEls s ++ [[V.i .u8 (IntKind.u8.wrap ((IntKind.u32.wrap (IntKind.i32.wrap n)).fdiv (2 ^ min (Int.toNat 24) IntKind.u32.bits)))],
        [V.i .u8 (IntKind.u8.wrap ((IntKind.u32.wrap (IntKind.i32.wrap n)).fdiv (2 ^ min (Int.toNat 16) IntKind.u32.bits)))], [V.i .u8 (IntKind.u8.wrap ((IntKind.u32.wrap (IntKind.i32.wrap n)).fdiv (2 ^ min (Int.toNat 8) IntKind.u32.bits)))],
        [V.i .u8 (IntKind.u8.wrap (IntKind.u32.wrap (IntKind.i32.wrap n)))], [V.i .u8 (IntKind.u8.wrap ts.length)]])) = rowB pre := by
      rw [← hpre]
      simp only [rowB_u8, rowB, List.map_cons, List.map_append, List.map_nil, byteEls]
      rfl
    rw [hkey, List.length_append] at hlen
    refine ⟨.inr trivial, by omega, by omega, hsh _, hsh _, hsh _, ⟨_, rfl⟩, by omega, by omega, by omega, ?_⟩
    rw [e0, hkey]
    clear e0 hsh hn
    refine ⟨{ i : Nat // i ≤ ts.length }, fun i => [(44, .i .i64 i.1), (43, .i .i64 ts.length), (42, .dsl 4 (cellss ts)), (3, .sl 0 (2 + i.1) 0 (pre ++ keyBs (ts.take i.1)).length 1)], fun i => [(0, 2 + i.1, .row 5 (rowB (pre ++ keyBs (ts.take i.1))))], 1, fun i => ts.length - i.1, [], ?_, ?_⟩
    · refine ⟨Nat.le_refl _, ⟨0, Nat.zero_le _⟩, [], ?_⟩
      simp only [List.take_zero, keyBs, List.append_nil]
      refine ⟨List.Perm.refl _, ?_, ?_⟩
      · simp [Sub, Env.get, frV_nil, bl, bls, hpl, hb]; omega
      · simp [blB, rowB, bl, bls]
    · rintro ⟨i, hi⟩ hwf
      clear hwf
      simp only
      simp (maxSteps := 4000000) -implicitDefEqProofs only [↓vc_seq, ↓vc_region, ↓vc_draw, ↓vc_skip, ↓vc_label, ↓vc_ret, ↓vc_exit, ↓vc_block, ↓vc_loop, ↓vc_cond, ↓vcOps_nil, ↓vcOps_plain, ↓vcOps_plain0, ↓vcOps_guard, ↓stepK_some, ↓stepK_none, ↓opK_f, ↓opK_t, ↓op0_f, ↓op0_t, ↓guardD_some, ↓guardV_u, ↓guardV_tt, ↓guardV_tf, ↓guardV_ft, ↓guardV_ff, ↓seqK_eq, ↓drawK_eq, ↓condV_t, ↓condV_f, ↓kq_nil, ↓kq_seq_n, ↓kq_seq_r, ↓kq_seq_x, ↓kq_rnd_n, ↓kq_rnd_r, ↓kq_rnd_x, ↓kq_blk_n, ↓kq_blk_r, ↓kq_blk_hit, ↓kq_blk_miss, ↓thenQ_rnd, ↓fnPost_normal, ↓fnPost_ret,
    guardV_bt, guardV_bf, condV_b, pop, hop, ev, evs, evp, argEnv, get_hit, get_miss, constV, constC, constCs, dstOf_stub, id, List.getElem?_cons_zero, List.getElem?_cons_succ, Option.bind_some, Option.bind_none, Option.map_some, Option.map_none,
    Nat.reduceBEq, bsize_lit, Nat.reduceLT, Nat.reduceLeDiff, Nat.reduceAdd, Nat.reduceSub, Nat.reduceEqDiff, Nat.reduceMul, intBin, strBin, isSh, shV, resK, packV, InK, Int.reduceLE, Int.reduceLT, Int.reduceNeg, true_and, and_true, and_self, eq_self, ↓reduceIte, Bool.false_eq_true, if_true, if_false, true_imp_iff, false_imp_iff, imp_self, forall_const, reduceCtorEq, ne_eq, not_false_eq_true, not_true_eq_false, or_self, or_false, false_or, false_and, and_false,
    hget, hput, V.cells, List.length_cons, List.length_nil, List.drop_zero, List.drop_succ_cons, List.take_succ_cons, List.take_zero, List.take_nil, List.drop_nil, fillV, fillE, List.append_eq, List.cons_append, List.nil_append, List.append_nil, List.set_cons_zero, List.set_cons_succ, List.replicate, nls, nl, List.all_cons, List.all_nil, Bool.not_true, Bool.not_false, Bool.and_true, Bool.true_and, Bool.and_self, Bool.and_false, Bool.false_and, allOne, List.isEmpty_toArray, List.isEmpty_nil, lenV, exists_eq_left', Option.some.injEq, Nat.le_refl, Nat.zero_le, Nat.add_zero, Nat.zero_add, decide_true, decide_false, cond_true, cond_false, Int.toNat_natCast, Int.ofNat_lt, Int.ofNat_le, Int.natCast_nonneg, List.length_map, List.getElem?_map, List.getD_eq_getElem?_getD, Option.getD_some, Option.getD_none, fin_pure, List.map_cons, List.map_nil, srcV, ty3, ty4, ty5, ty9, ty21, ty24, ty31, ty33, ty35, ty37, ty87, ty93, cellss_len, cellss_get, Tm.cells_len, Tm.cells_take, Tm.cells_nls]
      refine spl (fun hc => ?_) (fun hc => ?_)
      · have hi2 : i < ts.length := by simpa using hc
        refine ⟨hi2, ?_⟩
        simp (maxSteps := 4000000) -implicitDefEqProofs only [↓vc_seq, ↓vc_region, ↓vc_draw, ↓vc_skip, ↓vc_label, ↓vc_ret, ↓vc_exit, ↓vc_block, ↓vc_loop, ↓vc_cond, ↓vcOps_nil, ↓vcOps_plain, ↓vcOps_plain0, ↓vcOps_guard, ↓stepK_some, ↓stepK_none, ↓opK_f, ↓opK_t, ↓op0_f, ↓op0_t, ↓guardD_some, ↓guardV_u, ↓guardV_tt, ↓guardV_tf, ↓guardV_ft, ↓guardV_ff, ↓seqK_eq, ↓drawK_eq, ↓condV_t, ↓condV_f, ↓kq_nil, ↓kq_seq_n, ↓kq_seq_r, ↓kq_seq_x, ↓kq_rnd_n, ↓kq_rnd_r, ↓kq_rnd_x, ↓kq_blk_n, ↓kq_blk_r, ↓kq_blk_hit, ↓kq_blk_miss, ↓thenQ_rnd, ↓fnPost_normal, ↓fnPost_ret,
    guardV_bt, guardV_bf, condV_b, pop, hop, ev, evs, evp, argEnv, get_hit, get_miss, constV, constC, constCs, dstOf_stub, id, List.getElem?_cons_zero, List.getElem?_cons_succ, Option.bind_some, Option.bind_none, Option.map_some, Option.map_none,
    Nat.reduceBEq, bsize_lit, Nat.reduceLT, Nat.reduceLeDiff, Nat.reduceAdd, Nat.reduceSub, Nat.reduceEqDiff, Nat.reduceMul, intBin, strBin, isSh, shV, resK, packV, InK, Int.reduceLE, Int.reduceLT, Int.reduceNeg, true_and, and_true, and_self, eq_self, ↓reduceIte, Bool.false_eq_true, if_true, if_false, true_imp_iff, false_imp_iff, imp_self, forall_const, reduceCtorEq, ne_eq, not_false_eq_true, not_true_eq_false, or_self, or_false, false_or, false_and, and_false,
    hget, hput, V.cells, List.length_cons, List.length_nil, List.drop_zero, List.drop_succ_cons, List.take_succ_cons, List.take_zero, List.take_nil, List.drop_nil, fillV, fillE, List.append_eq, List.cons_append, List.nil_append, List.append_nil, List.set_cons_zero, List.set_cons_succ, List.replicate, nls, nl, List.all_cons, List.all_nil, Bool.not_true, Bool.not_false, Bool.and_true, Bool.true_and, Bool.and_self, Bool.and_false, Bool.false_and, allOne, List.isEmpty_toArray, List.isEmpty_nil, lenV, exists_eq_left', Option.some.injEq, Nat.le_refl, Nat.zero_le, Nat.add_zero, Nat.zero_add, decide_true, decide_false, cond_true, cond_false, Int.toNat_natCast, Int.ofNat_lt, Int.ofNat_le, Int.natCast_nonneg, List.length_map, List.getElem?_map, List.getD_eq_getElem?_getD, Option.getD_some, Option.getD_none, fin_pure, List.map_cons, List.map_nil, srcV, ty3, ty4, ty5, ty9, ty21, ty24, ty31, ty33, ty35, ty37, ty87, ty93, List.getElem?_eq_getElem hi2, cellss_len, cellss_get, Tm.cells_len, Tm.cells_take, Tm.cells_nls]
        obtain ⟨hk1, hk2⟩ := keyBs_len hi2
        refine CallK.pure (ih _ (List.getElem_mem hi2) (by omega)) (Wkt.refl _) fun _ => ?_
        simp (maxSteps := 4000000) -implicitDefEqProofs only [↓vc_seq, ↓vc_region, ↓vc_draw, ↓vc_skip, ↓vc_label, ↓vc_ret, ↓vc_exit, ↓vc_block, ↓vc_loop, ↓vc_cond, ↓vcOps_nil, ↓vcOps_plain, ↓vcOps_plain0, ↓vcOps_guard, ↓stepK_some, ↓stepK_none, ↓opK_f, ↓opK_t, ↓op0_f, ↓op0_t, ↓guardD_some, ↓guardV_u, ↓guardV_tt, ↓guardV_tf, ↓guardV_ft, ↓guardV_ff, ↓seqK_eq, ↓drawK_eq, ↓condV_t, ↓condV_f, ↓kq_nil, ↓kq_seq_n, ↓kq_seq_r, ↓kq_seq_x, ↓kq_rnd_n, ↓kq_rnd_r, ↓kq_rnd_x, ↓kq_blk_n, ↓kq_blk_r, ↓kq_blk_hit, ↓kq_blk_miss, ↓thenQ_rnd, ↓fnPost_normal, ↓fnPost_ret,
    guardV_bt, guardV_bf, condV_b, pop, hop, ev, evs, evp, argEnv, get_hit, get_miss, constV, constC, constCs, dstOf_stub, id, List.getElem?_cons_zero, List.getElem?_cons_succ, Option.bind_some, Option.bind_none, Option.map_some, Option.map_none,
    Nat.reduceBEq, bsize_lit, Nat.reduceLT, Nat.reduceLeDiff, Nat.reduceAdd, Nat.reduceSub, Nat.reduceEqDiff, Nat.reduceMul, intBin, strBin, isSh, shV, resK, packV, InK, Int.reduceLE, Int.reduceLT, Int.reduceNeg, true_and, and_true, and_self, eq_self, ↓reduceIte, Bool.false_eq_true, if_true, if_false, true_imp_iff, false_imp_iff, imp_self, forall_const, reduceCtorEq, ne_eq, not_false_eq_true, not_true_eq_false, or_self, or_false, false_or, false_and, and_false,
    hget, hput, V.cells, List.length_cons, List.length_nil, List.drop_zero, List.drop_succ_cons, List.take_succ_cons, List.take_zero, List.take_nil, List.drop_nil, fillV, fillE, List.append_eq, List.cons_append, List.nil_append, List.append_nil, List.set_cons_zero, List.set_cons_succ, List.replicate, nls, nl, List.all_cons, List.all_nil, Bool.not_true, Bool.not_false, Bool.and_true, Bool.true_and, Bool.and_self, Bool.and_false, Bool.false_and, allOne, List.isEmpty_toArray, List.isEmpty_nil, lenV, exists_eq_left', Option.some.injEq, Nat.le_refl, Nat.zero_le, Nat.add_zero, Nat.zero_add, decide_true, decide_false, cond_true, cond_false, Int.toNat_natCast, Int.ofNat_lt, Int.ofNat_le, Int.natCast_nonneg, List.length_map, List.getElem?_map, List.getD_eq_getElem?_getD, Option.getD_some, Option.getD_none, fin_pure, List.map_cons, List.map_nil, srcV, ty3, ty4, ty5, ty9, ty21, ty24, ty31, ty33, ty35, ty37, ty87, ty93, byteEls_mk, rowB_len]
        rw [List.length_append] 
        refine ⟨.inr trivial, by omega, by omega, ?_⟩
        have e1 : (IntKind.i64.wrap (i + 1) : Int) = ((i + 1 : Nat) : Int) := by
          rw [wrap_in]
          · omega
          · simp only [InK]; omega
        refine ⟨⟨i + 1, by omega⟩, by simp only; omega, [(1, 0, .row 33 [ts[i].cells])], ?_, ?_, ?_⟩
        · simp only [hk2, ← List.append_assoc]
          rw [← rowB_append]
          exact List.Perm.swap ..
        · simp only [hk2, ← List.append_assoc]
          simp [Sub, Env.get, frV, hget, bl, bls, e1]; omega
        · simp [blB, rowB, bl, bls]
      · have hi2 : i = ts.length := by simp at hc; omega
        subst hi2
        refine ⟨rowB_len _, rowB_bytes _, Fin.nl ?_ (by simp [nl])⟩
        rw [strOf_rowB, List.take_length]
termination_by t => SizeOf.sizeOf t
end Go.L1.Try
