import Derived.Test.YtppolfmipkjdhaaFn
/-! Seat of almagestlaw9.FactsAdded: how much the input is. -/
-- alias Try
-- tys ty3 ty4 ty5 ty9 ty22 ty23 ty24 ty26 ty28 ty31 ty33 ty35 ty37 ty50
set_option linter.all false
set_option maxRecDepth 100000
namespace Go.L1.Try
open Go.RowKit Go.Proofs

mutual
def wT : Tm → Nat → Int
  | .mk _ s _ ts, d => if d = 0 then 1048576 else wTs ts (d - 1) (1 + s.size)
def wTs : List Tm → Nat → Int → Int
  | [], _, n => n
  | x :: xs, d, n => if n < 1048576 then wTs xs d (n + wT x d) else n
end
mutual
/-- No name is longer than memory. -/
def szT : Tm → Prop
  | .mk _ s _ ts => s.size ≤ 140737488355328 ∧ szTs ts
def szTs : List Tm → Prop
  | [] => True
  | x :: xs => szT x ∧ szTs xs
end
theorem szTs_mem : ∀ {ts : List Tm}, szTs ts → ∀ x ∈ ts, szT x
  | y :: ys, h, x, hx => by
    rcases List.mem_cons.1 hx with rfl | hx
    · exact h.1
    · exact szTs_mem h.2 x hx
theorem wTs_stop (xs : List Tm) (d : Nat) {n : Int} (h : ¬ n < 1048576) : wTs xs d n = n := by
  cases xs with
  | nil => rfl
  | cons x xs => rw [wTs, if_neg h]

theorem wTs_in (S : Int) (ts : List Tm) (d : Nat) (ih : ∀ x ∈ ts, 0 ≤ wT x d ∧ wT x d ≤ S) : ∀ n : Int, 0 ≤ n → n ≤ S + 1048576 → 0 ≤ wTs ts d n ∧ wTs ts d n ≤ S + 1048576 := by
  induction ts with
  | nil => intro n h0 h1; exact ⟨h0, h1⟩
  | cons x xs ihx =>
    intro n h0 h1
    rw [wTs]
    split
    · have := ih x List.mem_cons_self
      exact ihx (fun y hy => ih y (List.mem_cons_of_mem _ hy)) _ (by omega) (by omega)
    · exact ⟨h0, h1⟩
theorem wT_in : ∀ (t : Tm) (d : Nat), szT t → 0 ≤ wT t d ∧ wT t d ≤ 140737488355329 + 1048576 * (d + 1)
  | .mk k s n ts, d, h => by
    rw [wT]
    split
    · omega
    · rename_i hd
      have e : ((d - 1 : Nat) : Int) = (d : Int) - 1 := by omega
      have h1 := wTs_in (140737488355329 + 1048576 * d) ts (d - 1) (fun x hx => by have := wT_in x (d - 1) (szTs_mem h.2 x hx); rw [e] at this; omega) (1 + s.size) (by omega) (by have := h.1; omega)
      omega
termination_by t => SizeOf.sizeOf t

def WOk (t : Tm) : Prop := ∀ d : Nat, d ≤ 30 → szT t → CV Try.prog 12 [.agg t.cells, .i .i64 d] (.i .i64 (wT t d))

theorem wTs_drop {ts : List Tm} {i d : Nat} {n : Int} (hi : i < ts.length) : wTs (ts.drop i) d n = if n < 1048576 then wTs (ts.drop (i + 1)) d (n + wT ts[i] d) else n := by
  rw [List.drop_eq_getElem_cons hi, wTs]

theorem c12_step (k : Int) (s : ByteArray) (n : Int) (ts : List Tm) (ih : ∀ x ∈ ts, WOk x) : WOk (.mk k s n ts) := by
  intro d hd hsz
  simp only [Tm.cells]
  refine CV.of_vc0 (c := _) (rs := [.tmp 4]) (n := _) sig rfl (fun _ => true) Try.func12 Try.call12 rfl Try.results12 Try.ntmps12 (by simp) (by simp [nls, nl]) (by simp [nls, nl]) ?_
  intro hw
  have hlen : ts.length ≤ 9223372036854775807 := by
    simp only [Wfs, Wf, cellss_len] at hw; have := hw.1.2.2.2.1.1; unfold maxLen at this; omega
  clear hw
  have hs := hsz.1
  have e0 : IntKind.i64.wrap (1 + (s.size : Int)) = 1 + s.size := by
    rw [wrap_in]; simp only [InK]; omega
  simp (maxSteps := 4000000) -implicitDefEqProofs only [↓vc_seq, ↓vc_region, ↓vc_draw, ↓vc_skip, ↓vc_label, ↓vc_ret, ↓vc_exit, ↓vc_block, ↓vc_loop, ↓vc_cond, ↓vcOps_nil, ↓vcOps_plain, ↓vcOps_plain0, ↓vcOps_guard, ↓stepK_some, ↓stepK_none, ↓opK_f, ↓opK_t, ↓op0_f, ↓op0_t, ↓guardD_some, ↓guardV_u, ↓guardV_tt, ↓guardV_tf, ↓guardV_ft, ↓guardV_ff, ↓seqK_eq, ↓drawK_eq, ↓condV_t, ↓condV_f, ↓kq_nil, ↓kq_seq_n, ↓kq_seq_r, ↓kq_seq_x, ↓kq_rnd_n, ↓kq_rnd_r, ↓kq_rnd_x, ↓kq_blk_n, ↓kq_blk_r, ↓kq_blk_hit, ↓kq_blk_miss, ↓thenQ_rnd, ↓fnPost_normal, ↓fnPost_ret,
    guardV_bt, guardV_bf, condV_b, pop, hop, ev, evs, evp, argEnv, get_hit, get_miss, constV, constC, constCs, dstOf_stub, id, List.getElem?_cons_zero, List.getElem?_cons_succ, Option.bind_some, Option.bind_none, Option.map_some, Option.map_none,
    Nat.reduceBEq, bsize_lit, Nat.reduceLT, Nat.reduceLeDiff, Nat.reduceAdd, Nat.reduceSub, Nat.reduceEqDiff, Nat.reduceMul, intBin, strBin, isSh, shV, resK, packV, InK, Int.reduceLE, Int.reduceLT, Int.reduceNeg, true_and, and_true, and_self, eq_self, ↓reduceIte, Bool.false_eq_true, if_true, if_false, true_imp_iff, false_imp_iff, imp_self, forall_const, reduceCtorEq, ne_eq, not_false_eq_true, not_true_eq_false, or_self, or_false, false_or, false_and, and_false,
    hget, hput, V.cells, List.length_cons, List.length_nil, List.drop_zero, List.drop_succ_cons, List.take_succ_cons, List.take_zero, List.take_nil, List.drop_nil, fillV, fillE, List.append_eq, List.cons_append, List.nil_append, List.append_nil, List.set_cons_zero, List.set_cons_succ, List.replicate, nls, nl, List.all_cons, List.all_nil, Bool.not_true, Bool.not_false, Bool.and_true, Bool.true_and, Bool.and_self, Bool.and_false, Bool.false_and, allOne, List.isEmpty_toArray, List.isEmpty_nil, lenV, exists_eq_left', Option.some.injEq, Nat.le_refl, Nat.zero_le, Nat.add_zero, Nat.zero_add, decide_true, decide_false, cond_true, cond_false, Int.toNat_natCast, Int.ofNat_lt, Int.ofNat_le, Int.natCast_nonneg, List.length_map, List.getElem?_map, List.getD_eq_getElem?_getD, Option.getD_some, Option.getD_none, fin_pure, List.map_cons, List.map_nil, srcV, ty3, ty4, ty5, ty9, ty22, ty23, ty24, ty26, ty28, ty31, ty33, ty35, ty37, ty50, e0]
  refine spl (fun h0 => ?_) (fun h0 => ?_)
  · have : d = 0 := by simpa using h0
    first | exact Fin.nl (by rw [wT, if_pos this]) rfl | (refine ⟨?_, ?_⟩ <;> first | rfl | (rw [wT, if_pos this])) | (rw [wT, if_pos this])
  have hd0 : ¬ d = 0 := by simpa using h0
  rw [wT, if_neg hd0]
  have e1 : IntKind.i64.wrap ((d : Int) - 1) = ((d - 1 : Nat) : Int) := by
    rw [wrap_in]
    · omega
    · simp only [InK]; omega
  refine ⟨{ p : Nat × Int // p.1 ≤ ts.length ∧ 0 ≤ p.2 ∧ p.2 ≤ 140737488355329 + 1048576 * (((d - 1 : Nat) : Int) + 2) ∧ wTs (ts.drop p.1) (d - 1) p.2 = wTs ts (d - 1) (1 + s.size) }, fun p => [(6, .i .i64 p.1.1), (5, .i .i64 p.1.2), (2, .dptr [.i .i64 k, .s s, .i .i64 n, .dsl 4 (cellss ts)]), (1, .i .i64 d)], fun p => [], 0, fun p => ts.length - p.1.1, [], ?_, ?_⟩
  · refine ⟨Nat.le_refl _, ⟨(0, 1 + s.size), Nat.zero_le _, by omega, by omega, rfl⟩, [], by simp, ?_, by simp⟩
    simp [Sub, Env.get, frV_nil, bl, bls]
  · rintro ⟨⟨i, m⟩, hi, h1, h2, hn⟩ hwf
    clear hwf
    simp only at hi h1 h2 hn ⊢
    simp (maxSteps := 4000000) -implicitDefEqProofs only [↓vc_seq, ↓vc_region, ↓vc_draw, ↓vc_skip, ↓vc_label, ↓vc_ret, ↓vc_exit, ↓vc_block, ↓vc_loop, ↓vc_cond, ↓vcOps_nil, ↓vcOps_plain, ↓vcOps_plain0, ↓vcOps_guard, ↓stepK_some, ↓stepK_none, ↓opK_f, ↓opK_t, ↓op0_f, ↓op0_t, ↓guardD_some, ↓guardV_u, ↓guardV_tt, ↓guardV_tf, ↓guardV_ft, ↓guardV_ff, ↓seqK_eq, ↓drawK_eq, ↓condV_t, ↓condV_f, ↓kq_nil, ↓kq_seq_n, ↓kq_seq_r, ↓kq_seq_x, ↓kq_rnd_n, ↓kq_rnd_r, ↓kq_rnd_x, ↓kq_blk_n, ↓kq_blk_r, ↓kq_blk_hit, ↓kq_blk_miss, ↓thenQ_rnd, ↓fnPost_normal, ↓fnPost_ret,
    guardV_bt, guardV_bf, condV_b, pop, hop, ev, evs, evp, argEnv, get_hit, get_miss, constV, constC, constCs, dstOf_stub, id, List.getElem?_cons_zero, List.getElem?_cons_succ, Option.bind_some, Option.bind_none, Option.map_some, Option.map_none,
    Nat.reduceBEq, bsize_lit, Nat.reduceLT, Nat.reduceLeDiff, Nat.reduceAdd, Nat.reduceSub, Nat.reduceEqDiff, Nat.reduceMul, intBin, strBin, isSh, shV, resK, packV, InK, Int.reduceLE, Int.reduceLT, Int.reduceNeg, true_and, and_true, and_self, eq_self, ↓reduceIte, Bool.false_eq_true, if_true, if_false, true_imp_iff, false_imp_iff, imp_self, forall_const, reduceCtorEq, ne_eq, not_false_eq_true, not_true_eq_false, or_self, or_false, false_or, false_and, and_false,
    hget, hput, V.cells, List.length_cons, List.length_nil, List.drop_zero, List.drop_succ_cons, List.take_succ_cons, List.take_zero, List.take_nil, List.drop_nil, fillV, fillE, List.append_eq, List.cons_append, List.nil_append, List.append_nil, List.set_cons_zero, List.set_cons_succ, List.replicate, nls, nl, List.all_cons, List.all_nil, Bool.not_true, Bool.not_false, Bool.and_true, Bool.true_and, Bool.and_self, Bool.and_false, Bool.false_and, allOne, List.isEmpty_toArray, List.isEmpty_nil, lenV, exists_eq_left', Option.some.injEq, Nat.le_refl, Nat.zero_le, Nat.add_zero, Nat.zero_add, decide_true, decide_false, cond_true, cond_false, Int.toNat_natCast, Int.ofNat_lt, Int.ofNat_le, Int.natCast_nonneg, List.length_map, List.getElem?_map, List.getD_eq_getElem?_getD, Option.getD_some, Option.getD_none, fin_pure, List.map_cons, List.map_nil, srcV, ty3, ty4, ty5, ty9, ty22, ty23, ty24, ty26, ty28, ty31, ty33, ty35, ty37, ty50, cellss_len, cellss_get, Tm.cells_len, Tm.cells_take, Tm.cells_nls]
    refine spl (fun hc => ?_) (fun hc => ?_)
    · have hi2 : i < ts.length := by simpa using hc
      rw [wTs_drop hi2] at hn
      refine spl (fun hm => ?_) (fun hm => ?_)
      · have hm : m < 1048576 := by simpa using hm
        rw [if_pos hm] at hn
        refine ⟨hi2, ?_⟩
        simp (maxSteps := 4000000) -implicitDefEqProofs only [↓vc_seq, ↓vc_region, ↓vc_draw, ↓vc_skip, ↓vc_label, ↓vc_ret, ↓vc_exit, ↓vc_block, ↓vc_loop, ↓vc_cond, ↓vcOps_nil, ↓vcOps_plain, ↓vcOps_plain0, ↓vcOps_guard, ↓stepK_some, ↓stepK_none, ↓opK_f, ↓opK_t, ↓op0_f, ↓op0_t, ↓guardD_some, ↓guardV_u, ↓guardV_tt, ↓guardV_tf, ↓guardV_ft, ↓guardV_ff, ↓seqK_eq, ↓drawK_eq, ↓condV_t, ↓condV_f, ↓kq_nil, ↓kq_seq_n, ↓kq_seq_r, ↓kq_seq_x, ↓kq_rnd_n, ↓kq_rnd_r, ↓kq_rnd_x, ↓kq_blk_n, ↓kq_blk_r, ↓kq_blk_hit, ↓kq_blk_miss, ↓thenQ_rnd, ↓fnPost_normal, ↓fnPost_ret,
    guardV_bt, guardV_bf, condV_b, pop, hop, ev, evs, evp, argEnv, get_hit, get_miss, constV, constC, constCs, dstOf_stub, id, List.getElem?_cons_zero, List.getElem?_cons_succ, Option.bind_some, Option.bind_none, Option.map_some, Option.map_none,
    Nat.reduceBEq, bsize_lit, Nat.reduceLT, Nat.reduceLeDiff, Nat.reduceAdd, Nat.reduceSub, Nat.reduceEqDiff, Nat.reduceMul, intBin, strBin, isSh, shV, resK, packV, InK, Int.reduceLE, Int.reduceLT, Int.reduceNeg, true_and, and_true, and_self, eq_self, ↓reduceIte, Bool.false_eq_true, if_true, if_false, true_imp_iff, false_imp_iff, imp_self, forall_const, reduceCtorEq, ne_eq, not_false_eq_true, not_true_eq_false, or_self, or_false, false_or, false_and, and_false,
    hget, hput, V.cells, List.length_cons, List.length_nil, List.drop_zero, List.drop_succ_cons, List.take_succ_cons, List.take_zero, List.take_nil, List.drop_nil, fillV, fillE, List.append_eq, List.cons_append, List.nil_append, List.append_nil, List.set_cons_zero, List.set_cons_succ, List.replicate, nls, nl, List.all_cons, List.all_nil, Bool.not_true, Bool.not_false, Bool.and_true, Bool.true_and, Bool.and_self, Bool.and_false, Bool.false_and, allOne, List.isEmpty_toArray, List.isEmpty_nil, lenV, exists_eq_left', Option.some.injEq, Nat.le_refl, Nat.zero_le, Nat.add_zero, Nat.zero_add, decide_true, decide_false, cond_true, cond_false, Int.toNat_natCast, Int.ofNat_lt, Int.ofNat_le, Int.natCast_nonneg, List.length_map, List.getElem?_map, List.getD_eq_getElem?_getD, Option.getD_some, Option.getD_none, fin_pure, List.map_cons, List.map_nil, srcV, ty3, ty4, ty5, ty9, ty22, ty23, ty24, ty26, ty28, ty31, ty33, ty35, ty37, ty50, List.getElem?_eq_getElem hi2, cellss_len, cellss_get, Tm.cells_len, Tm.cells_take, Tm.cells_nls]
        rw [e1]
        have hx := szTs_mem hsz.2 _ (List.getElem_mem hi2)
        refine CallK.pure (ih _ (List.getElem_mem hi2) (d - 1) (by omega) hx) (Wkt.refl _) fun _ => ?_
        have hb := wT_in ts[i] (d - 1) hx
        have e2 : IntKind.i64.wrap (m + wT ts[i] (d - 1)) = m + wT ts[i] (d - 1) := by
          rw [wrap_in]; simp only [InK]; omega
        simp (maxSteps := 4000000) -implicitDefEqProofs only [↓vc_seq, ↓vc_region, ↓vc_draw, ↓vc_skip, ↓vc_label, ↓vc_ret, ↓vc_exit, ↓vc_block, ↓vc_loop, ↓vc_cond, ↓vcOps_nil, ↓vcOps_plain, ↓vcOps_plain0, ↓vcOps_guard, ↓stepK_some, ↓stepK_none, ↓opK_f, ↓opK_t, ↓op0_f, ↓op0_t, ↓guardD_some, ↓guardV_u, ↓guardV_tt, ↓guardV_tf, ↓guardV_ft, ↓guardV_ff, ↓seqK_eq, ↓drawK_eq, ↓condV_t, ↓condV_f, ↓kq_nil, ↓kq_seq_n, ↓kq_seq_r, ↓kq_seq_x, ↓kq_rnd_n, ↓kq_rnd_r, ↓kq_rnd_x, ↓kq_blk_n, ↓kq_blk_r, ↓kq_blk_hit, ↓kq_blk_miss, ↓thenQ_rnd, ↓fnPost_normal, ↓fnPost_ret,
    guardV_bt, guardV_bf, condV_b, pop, hop, ev, evs, evp, argEnv, get_hit, get_miss, constV, constC, constCs, dstOf_stub, id, List.getElem?_cons_zero, List.getElem?_cons_succ, Option.bind_some, Option.bind_none, Option.map_some, Option.map_none,
    Nat.reduceBEq, bsize_lit, Nat.reduceLT, Nat.reduceLeDiff, Nat.reduceAdd, Nat.reduceSub, Nat.reduceEqDiff, Nat.reduceMul, intBin, strBin, isSh, shV, resK, packV, InK, Int.reduceLE, Int.reduceLT, Int.reduceNeg, true_and, and_true, and_self, eq_self, ↓reduceIte, Bool.false_eq_true, if_true, if_false, true_imp_iff, false_imp_iff, imp_self, forall_const, reduceCtorEq, ne_eq, not_false_eq_true, not_true_eq_false, or_self, or_false, false_or, false_and, and_false,
    hget, hput, V.cells, List.length_cons, List.length_nil, List.drop_zero, List.drop_succ_cons, List.take_succ_cons, List.take_zero, List.take_nil, List.drop_nil, fillV, fillE, List.append_eq, List.cons_append, List.nil_append, List.append_nil, List.set_cons_zero, List.set_cons_succ, List.replicate, nls, nl, List.all_cons, List.all_nil, Bool.not_true, Bool.not_false, Bool.and_true, Bool.true_and, Bool.and_self, Bool.and_false, Bool.false_and, allOne, List.isEmpty_toArray, List.isEmpty_nil, lenV, exists_eq_left', Option.some.injEq, Nat.le_refl, Nat.zero_le, Nat.add_zero, Nat.zero_add, decide_true, decide_false, cond_true, cond_false, Int.toNat_natCast, Int.ofNat_lt, Int.ofNat_le, Int.natCast_nonneg, List.length_map, List.getElem?_map, List.getD_eq_getElem?_getD, Option.getD_some, Option.getD_none, fin_pure, List.map_cons, List.map_nil, srcV, ty3, ty4, ty5, ty9, ty22, ty23, ty24, ty26, ty28, ty31, ty33, ty35, ty37, ty50, e2]
        rw [wrap_succ (by omega)]
        refine ⟨⟨(i + 1, m + wT ts[i] (d - 1)), hi2, by simp only; omega, by simp only; omega, hn⟩, by simp only; omega, Weak.p0 rfl ?_ (by simp)⟩
        simp [Sub, Env.get, frV_nil, bl, bls]
      · have hm : ¬ m < 1048576 := by simpa using hm
        rw [if_neg hm] at hn
        first | exact Fin.nl (by rw [hn]) rfl | (refine ⟨?_, ?_⟩ <;> first | rfl | (rw [hn])) | (rw [hn])
    · have hi2 : i = ts.length := by simp at hc; omega
      subst hi2
      rw [List.drop_length, wTs] at hn
      first | exact Fin.nl (by rw [hn]) rfl | (refine ⟨?_, ?_⟩ <;> first | rfl | (rw [hn])) | (rw [hn])

theorem c12 : ∀ t : Tm, WOk t
  | .mk k s n ts => c12_step k s n ts fun x _ => c12 x
termination_by t => SizeOf.sizeOf t
end Go.L1.Try
