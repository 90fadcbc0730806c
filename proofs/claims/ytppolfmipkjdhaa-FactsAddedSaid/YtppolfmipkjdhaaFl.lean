import Derived.Test.YtppolfmipkjdhaaFk
import Derived.Test.YtppolfmipkjdhaaLw
/-! Seat of almagestlaw9.FactsAdded: facts.List. -/
-- alias Try
-- tys ty3 ty4 ty5 ty9 ty22 ty31 ty33 ty35 ty37 ty50 ty56 ty58
set_option linter.all false
set_option maxRecDepth 100000
namespace Go.L1.Try
open Go.RowKit Go.Proofs

structure Kp where
  seq : Int
  f : Fc
def Kp.cells (k : Kp) : List V := .i .i64 k.seq :: k.f.cells
theorem Kp.cells_eq (k : Kp) : k.cells = [.i .i64 k.seq, .i .i64 k.f.t.kind, .s k.f.t.name, .i .i64 k.f.t.num, .dsl 4 (cellss k.f.t.args), .i .i64 k.f.a, .i .i64 k.f.b] := by
  rw [Kp.cells, Fc.cells_eq]
theorem Kp.cells_len (k : Kp) : k.cells.length = 7 := by rw [Kp.cells_eq]; rfl
theorem Kp.cells_take (k : Kp) : k.cells.take 7 = k.cells := by rw [Kp.cells_eq]; rfl
theorem Kp.cells_nls (k : Kp) : nls k.cells = true := by rw [Kp.cells_eq]; rfl
def kps (l : List Kp) : V := .dsl 7 (l.map Kp.cells)

def keyF (f : Fc) : List UInt8 × Int × Int := (keyB f.t, f.a, f.b)
def idV (i : List UInt8 × Int × Int) : V := .agg [.s ⟨i.1.toArray⟩, .i .i64 i.2.1, .i .i64 i.2.2]
def mapK (ids : List (List UInt8 × Int × Int)) : List (V × V) := ids.map fun i => (idV i, .b true)
def hasK (ids : List (List UInt8 × Int × Int)) (i : List UInt8 × Int × Int) : Bool := ids.any fun x => decide (i = x)

theorem keyEq_idV (i j : List UInt8 × Int × Int) : keyEq (idV i) (idV j) = decide (i = j) := by
  obtain ⟨a, b, c⟩ := i
  obtain ⟨a', b', c'⟩ := j
  simp only [keyEq, idV, cellsEq, scEq, Bool.and_true]
  by_cases h1 : a = a'
  · subst h1
    by_cases h2 : b = b' <;> by_cases h3 : c = c' <;> simp [h2, h3]
  · have : ¬ (⟨a.toArray⟩ : ByteArray) = ⟨a'.toArray⟩ := fun e => h1 (by simpa using e)
    simp [h1]

theorem findV_mapK (i : List UInt8 × Int × Int) : ∀ ids : List (List UInt8 × Int × Int), findV (idV i) (mapK ids) = if hasK ids i = true then some (.b true) else none
  | [] => by simp [findV, mapK, hasK]
  | x :: ids => by
    have ih := findV_mapK i ids
    simp only [findV, mapK, List.map_cons, List.find?_cons, hasK, List.any_cons, keyEq_idV] at ih ⊢
    by_cases h : i = x
    · simp [h]
    · simp only [h, decide_false, Bool.false_or]
      exact ih

theorem fits_idV (i : List UInt8 × Int × Int) : fits tys 58 (idV i) = true := rfl
theorem fits_mapK (ids : List (List UInt8 × Int × Int)) : ∀ e ∈ mapK ids, fits tys 58 e.1 = true := by
  intro e he
  simp only [mapK, List.mem_map] at he
  obtain ⟨s, _, rfl⟩ := he
  rfl
theorem findI_mapK (i : List UInt8 × Int × Int) : ∀ (ids : List (List UInt8 × Int × Int)) (n : Nat), hasK ids i = false → findI (idV i) (mapK ids) n = none
  | [], n, _ => by simp [mapK, findI]
  | x :: ids, n, h => by
    simp only [hasK, List.any_cons, Bool.or_eq_false_iff] at h
    simp only [mapK, List.map_cons, findI, keyEq_idV, h.1, Bool.false_eq_true, if_false]
    exact findI_mapK i ids (n + 1) h.2
theorem blB_mapK (n : Nat) (ids : List (List UInt8 × Int × Int)) : blB n (.map (mapK ids)) = true := by
  simp only [mapK, blB, List.all_map, List.all_eq_true]; intro x _; rfl
theorem updE_mapK (i : List UInt8 × Int × Int) (ids : List (List UInt8 × Int × Int)) (h : hasK ids i = false) : updE (mapK ids) (idV i) (.b true) = mapK (ids ++ [i]) := by
  unfold updE
  rw [findI_mapK i ids 0 h]
  simp [mapK]

def behind (prev : Option Int) (s : Int) : Bool := match prev with
  | some p => decide (s ≤ p)
  | none => false
/-- What facts.List asks, from a place on. -/
def listGo : List Kp → Option Int → List (List UInt8 × Int × Int) → Bool
  | [], _, _ => true
  | k :: ks, prev, ids => isB k.f && !decide (k.seq < 0) && !behind prev k.seq && !hasK ids (keyF k.f) && listGo ks (some k.seq) (ids ++ [keyF k.f])
def listB (l : List Kp) : Bool := decide (l.length ≤ 300) && listGo l none []

theorem word_size {p : Int → Bool} {s : ByteArray} (h : wordB p s = true) : s.size ≤ 16 := by
  simp only [wordB, Bool.and_eq_true, decide_eq_true_eq] at h; exact h.1.1.2

mutual
theorem key_may : ∀ (t : Tm) (d : Nat) (l : Int), (mayT t d l).1 = true → ((keyB t).length : Int) + 23 * (mayT t d l).2 ≤ 23 * l
  | .mk k s n ts, d, l, h => by
    rw [mayT] at h ⊢
    have hk0 : (keyB (.mk k s n ts)).length = s.size + 7 + (keyBs ts).length := by
      simp only [keyB, List.length_cons, List.length_append, List.length_nil, Array.length_toList]
      show s.data.size + _ + 1 + 1 = s.data.size + 7 + _
      omega
    rw [hk0]
    by_cases h0 : d = 0 ∨ l - 1 < 0
    · rw [if_pos h0] at h; simp at h
    rw [if_neg h0] at h ⊢
    by_cases hk : k = 1
    · simp only [if_pos hk] at h ⊢
      simp only [Bool.and_eq_true, decide_eq_true_eq] at h
      have : ts = [] := List.eq_nil_of_length_eq_zero h.2
      subst this
      have := word_size h.1.1
      simp only [keyBs, List.length_nil]; omega
    simp only [if_neg hk] at h ⊢
    by_cases hk2 : k = 2
    · simp only [if_pos hk2] at h ⊢
      simp only [Bool.and_eq_true, decide_eq_true_eq] at h
      have : ts = [] := List.eq_nil_of_length_eq_zero h.2
      subst this
      have := h.1.2
      simp only [keyBs, List.length_nil]; omega
    simp only [if_neg hk2] at h ⊢
    by_cases hk3 : k = 3
    · simp only [if_pos hk3] at h ⊢
      split
      · rename_i hc; rw [if_pos hc] at h
        have := keys_may ts (d - 1) (l - 1) h
        simp only [Bool.and_eq_true] at hc
        have := word_size hc.1.1
        omega
      · rename_i hc; rw [if_neg hc] at h; simp at h
    · simp only [if_neg hk3] at h; simp at h
theorem keys_may : ∀ (ts : List Tm) (d : Nat) (l : Int), (mayTs ts d l).1 = true → ((keyBs ts).length : Int) + 23 * (mayTs ts d l).2 ≤ 23 * l
  | [], d, l, h => by simp [keyBs, mayTs]
  | x :: xs, d, l, h => by
    rw [mayTs] at h ⊢
    rw [keyBs, List.length_append]
    split
    · rename_i hx; rw [if_pos hx] at h
      have h1 := key_may x d l hx
      have h2 := keys_may xs d (mayT x d l).2 h
      omega
    · rename_i hx; rw [if_neg hx] at h; simp at h
end

theorem isB_key {f : Fc} (h : isB f = true) : (keyB f.t).length ≤ 140737488355328 := by
  simp only [isB, Bool.and_eq_true] at h
  have h1 := key_may f.t 5 24 h.1.1.2
  have h2 := (mayT_in f.t 5 24 (by omega)).2.1
  omega

def prevAt (l : List Kp) (i : Nat) : Option Int := if i = 0 then none else (l[i - 1]?).map (·.seq)

theorem kcells_get (l : List Kp) (i : Nat) : (l.map Kp.cells)[i]? = (l[i]?).map Kp.cells := by simp

set_option maxHeartbeats 4000000 in
theorem c13 (l : List Kp) : CV Try.prog 13 [kps l] (.b (listB l)) := by
  unfold kps
  refine CV.of_vc0 (c := _) (rs := [.tmp 2]) (n := _) sig rfl (fun _ => true) Try.func13 Try.call13 rfl Try.results13 Try.ntmps13 (by simp) (by simp [nls, nl]) (by simp [nls, nl]) ?_
  intro hw
  clear hw
  simp (maxSteps := 4000000) -implicitDefEqProofs only [↓vc_seq, ↓vc_region, ↓vc_draw, ↓vc_skip, ↓vc_label, ↓vc_ret, ↓vc_exit, ↓vc_block, ↓vc_loop, ↓vc_cond, ↓vcOps_nil, ↓vcOps_plain, ↓vcOps_plain0, ↓vcOps_guard, ↓stepK_some, ↓stepK_none, ↓opK_f, ↓opK_t, ↓op0_f, ↓op0_t, ↓guardD_some, ↓guardV_u, ↓guardV_tt, ↓guardV_tf, ↓guardV_ft, ↓guardV_ff, ↓seqK_eq, ↓drawK_eq, ↓condV_t, ↓condV_f, ↓kq_nil, ↓kq_seq_n, ↓kq_seq_r, ↓kq_seq_x, ↓kq_rnd_n, ↓kq_rnd_r, ↓kq_rnd_x, ↓kq_blk_n, ↓kq_blk_r, ↓kq_blk_hit, ↓kq_blk_miss, ↓thenQ_rnd, ↓fnPost_normal, ↓fnPost_ret,
    guardV_bt, guardV_bf, condV_b, pop, hop, ev, evs, evp, argEnv, get_hit, get_miss, constV, constC, constCs, dstOf_stub, id, List.getElem?_cons_zero, List.getElem?_cons_succ, Option.bind_some, Option.bind_none, Option.map_some, Option.map_none,
    Nat.reduceBEq, bsize_lit, Nat.reduceLT, Nat.reduceLeDiff, Nat.reduceAdd, Nat.reduceSub, Nat.reduceEqDiff, Nat.reduceMul, intBin, strBin, isSh, shV, resK, packV, InK, Int.reduceLE, Int.reduceLT, Int.reduceNeg, true_and, and_true, and_self, eq_self, ↓reduceIte, Bool.false_eq_true, if_true, if_false, true_imp_iff, false_imp_iff, imp_self, forall_const, reduceCtorEq, ne_eq, not_false_eq_true, not_true_eq_false, or_self, or_false, false_or, false_and, and_false,
    hget, hput, V.cells, List.length_cons, List.length_nil, List.drop_zero, List.drop_succ_cons, List.take_succ_cons, List.take_zero, List.take_nil, List.drop_nil, fillV, fillE, List.append_eq, List.cons_append, List.nil_append, List.append_nil, List.set_cons_zero, List.set_cons_succ, List.replicate, nls, nl, List.all_cons, List.all_nil, Bool.not_true, Bool.not_false, Bool.and_true, Bool.true_and, Bool.and_self, Bool.and_false, Bool.false_and, allOne, List.isEmpty_toArray, List.isEmpty_nil, lenV, exists_eq_left', Option.some.injEq, Nat.le_refl, Nat.zero_le, Nat.add_zero, Nat.zero_add, decide_true, decide_false, cond_true, cond_false, Int.toNat_natCast, Int.ofNat_lt, Int.ofNat_le, Int.natCast_nonneg, List.length_map, List.getElem?_map, List.getD_eq_getElem?_getD, Option.getD_some, Option.getD_none, fin_pure, List.map_cons, List.map_nil, srcV, ty3, ty4, ty5, ty9, ty22, ty31, ty33, ty35, ty37, ty50, ty56, ty58]
  refine spl (fun h0 => ?_) (fun h0 => ?_)
  · have h0 : ¬ l.length ≤ 300 := by simp at h0; omega
    simp [listB, h0, bl]
  · have h0 : l.length ≤ 300 := by simp at h0; omega
    refine ⟨{ p : Nat × List (List UInt8 × Int × Int) // p.1 ≤ l.length ∧ listGo (l.drop p.1) (prevAt l p.1) p.2 = listB l }, fun p => [(12, .i .i64 p.1.1), (11, .i .i64 l.length), (10, .dsl 7 (l.map Kp.cells)), (3, .mp 0), (0, .dsl 7 (l.map Kp.cells)), (2, .b false)], fun p => [(0, 0, .map (mapK p.1.2))], 1, fun p => l.length - p.1.1, [], ?_, ?_⟩
    · refine ⟨Nat.le_refl _, ⟨(0, []), Nat.zero_le _, by simp [listB, h0, prevAt]⟩, [], by simp [mapK], ?_, ?_⟩
      · simp [Sub, Env.get, frV_nil, bl, bls]
      · simp [blB, mapK]
    · rintro ⟨⟨i, ids⟩, hi, hn⟩ hwf
      clear hwf
      simp only at hi hn ⊢
      simp (maxSteps := 4000000) -implicitDefEqProofs only [↓vc_seq, ↓vc_region, ↓vc_draw, ↓vc_skip, ↓vc_label, ↓vc_ret, ↓vc_exit, ↓vc_block, ↓vc_loop, ↓vc_cond, ↓vcOps_nil, ↓vcOps_plain, ↓vcOps_plain0, ↓vcOps_guard, ↓stepK_some, ↓stepK_none, ↓opK_f, ↓opK_t, ↓op0_f, ↓op0_t, ↓guardD_some, ↓guardV_u, ↓guardV_tt, ↓guardV_tf, ↓guardV_ft, ↓guardV_ff, ↓seqK_eq, ↓drawK_eq, ↓condV_t, ↓condV_f, ↓kq_nil, ↓kq_seq_n, ↓kq_seq_r, ↓kq_seq_x, ↓kq_rnd_n, ↓kq_rnd_r, ↓kq_rnd_x, ↓kq_blk_n, ↓kq_blk_r, ↓kq_blk_hit, ↓kq_blk_miss, ↓thenQ_rnd, ↓fnPost_normal, ↓fnPost_ret,
    guardV_bt, guardV_bf, condV_b, pop, hop, ev, evs, evp, argEnv, get_hit, get_miss, constV, constC, constCs, dstOf_stub, id, List.getElem?_cons_zero, List.getElem?_cons_succ, Option.bind_some, Option.bind_none, Option.map_some, Option.map_none,
    Nat.reduceBEq, bsize_lit, Nat.reduceLT, Nat.reduceLeDiff, Nat.reduceAdd, Nat.reduceSub, Nat.reduceEqDiff, Nat.reduceMul, intBin, strBin, isSh, shV, resK, packV, InK, Int.reduceLE, Int.reduceLT, Int.reduceNeg, true_and, and_true, and_self, eq_self, ↓reduceIte, Bool.false_eq_true, if_true, if_false, true_imp_iff, false_imp_iff, imp_self, forall_const, reduceCtorEq, ne_eq, not_false_eq_true, not_true_eq_false, or_self, or_false, false_or, false_and, and_false,
    hget, hput, V.cells, List.length_cons, List.length_nil, List.drop_zero, List.drop_succ_cons, List.take_succ_cons, List.take_zero, List.take_nil, List.drop_nil, fillV, fillE, List.append_eq, List.cons_append, List.nil_append, List.append_nil, List.set_cons_zero, List.set_cons_succ, List.replicate, nls, nl, List.all_cons, List.all_nil, Bool.not_true, Bool.not_false, Bool.and_true, Bool.true_and, Bool.and_self, Bool.and_false, Bool.false_and, allOne, List.isEmpty_toArray, List.isEmpty_nil, lenV, exists_eq_left', Option.some.injEq, Nat.le_refl, Nat.zero_le, Nat.add_zero, Nat.zero_add, decide_true, decide_false, cond_true, cond_false, Int.toNat_natCast, Int.ofNat_lt, Int.ofNat_le, Int.natCast_nonneg, List.length_map, List.getElem?_map, List.getD_eq_getElem?_getD, Option.getD_some, Option.getD_none, fin_pure, List.map_cons, List.map_nil, srcV, ty3, ty4, ty5, ty9, ty22, ty31, ty33, ty35, ty37, ty50, ty56, ty58, Kp.cells_len, Kp.cells_take, Kp.cells_nls]
      refine spl (fun hc => ?_) (fun hc => ?_)
      · have hi2 : i < l.length := by simpa using hc
        refine ⟨hi2, ?_⟩
        have hstep : listGo (l.drop i) (prevAt l i) ids = (isB l[i].f && !decide (l[i].seq < 0) && !behind (prevAt l i) l[i].seq && !hasK ids (keyF l[i].f) && listGo (l.drop (i + 1)) (some l[i].seq) (ids ++ [keyF l[i].f])) := by
          rw [List.drop_eq_getElem_cons hi2, listGo]
        rw [hn] at hstep
        have hprev : prevAt l (i + 1) = some l[i].seq := by simp [prevAt, List.getElem?_eq_getElem hi2]
        generalize hkk : l[i] = k at hstep hprev
        simp (maxSteps := 4000000) -implicitDefEqProofs only [↓vc_seq, ↓vc_region, ↓vc_draw, ↓vc_skip, ↓vc_label, ↓vc_ret, ↓vc_exit, ↓vc_block, ↓vc_loop, ↓vc_cond, ↓vcOps_nil, ↓vcOps_plain, ↓vcOps_plain0, ↓vcOps_guard, ↓stepK_some, ↓stepK_none, ↓opK_f, ↓opK_t, ↓op0_f, ↓op0_t, ↓guardD_some, ↓guardV_u, ↓guardV_tt, ↓guardV_tf, ↓guardV_ft, ↓guardV_ff, ↓seqK_eq, ↓drawK_eq, ↓condV_t, ↓condV_f, ↓kq_nil, ↓kq_seq_n, ↓kq_seq_r, ↓kq_seq_x, ↓kq_rnd_n, ↓kq_rnd_r, ↓kq_rnd_x, ↓kq_blk_n, ↓kq_blk_r, ↓kq_blk_hit, ↓kq_blk_miss, ↓thenQ_rnd, ↓fnPost_normal, ↓fnPost_ret,
    guardV_bt, guardV_bf, condV_b, pop, hop, ev, evs, evp, argEnv, get_hit, get_miss, constV, constC, constCs, dstOf_stub, id, List.getElem?_cons_zero, List.getElem?_cons_succ, Option.bind_some, Option.bind_none, Option.map_some, Option.map_none,
    Nat.reduceBEq, bsize_lit, Nat.reduceLT, Nat.reduceLeDiff, Nat.reduceAdd, Nat.reduceSub, Nat.reduceEqDiff, Nat.reduceMul, intBin, strBin, isSh, shV, resK, packV, InK, Int.reduceLE, Int.reduceLT, Int.reduceNeg, true_and, and_true, and_self, eq_self, ↓reduceIte, Bool.false_eq_true, if_true, if_false, true_imp_iff, false_imp_iff, imp_self, forall_const, reduceCtorEq, ne_eq, not_false_eq_true, not_true_eq_false, or_self, or_false, false_or, false_and, and_false,
    hget, hput, V.cells, List.length_cons, List.length_nil, List.drop_zero, List.drop_succ_cons, List.take_succ_cons, List.take_zero, List.take_nil, List.drop_nil, fillV, fillE, List.append_eq, List.cons_append, List.nil_append, List.append_nil, List.set_cons_zero, List.set_cons_succ, List.replicate, nls, nl, List.all_cons, List.all_nil, Bool.not_true, Bool.not_false, Bool.and_true, Bool.true_and, Bool.and_self, Bool.and_false, Bool.false_and, allOne, List.isEmpty_toArray, List.isEmpty_nil, lenV, exists_eq_left', Option.some.injEq, Nat.le_refl, Nat.zero_le, Nat.add_zero, Nat.zero_add, decide_true, decide_false, cond_true, cond_false, Int.toNat_natCast, Int.ofNat_lt, Int.ofNat_le, Int.natCast_nonneg, List.length_map, List.getElem?_map, List.getD_eq_getElem?_getD, Option.getD_some, Option.getD_none, fin_pure, List.map_cons, List.map_nil, srcV, ty3, ty4, ty5, ty9, ty22, ty31, ty33, ty35, ty37, ty50, ty56, ty58, List.getElem?_eq_getElem hi2, hkk, Kp.cells_eq]
        refine CallK.pure (c14 k.f) (by rw [Fc.cells_eq]; exact Wkt.refl _) fun _ => ?_
        cases hB : isB k.f
        · simp (maxSteps := 4000000) -implicitDefEqProofs only [↓vc_seq, ↓vc_region, ↓vc_draw, ↓vc_skip, ↓vc_label, ↓vc_ret, ↓vc_exit, ↓vc_block, ↓vc_loop, ↓vc_cond, ↓vcOps_nil, ↓vcOps_plain, ↓vcOps_plain0, ↓vcOps_guard, ↓stepK_some, ↓stepK_none, ↓opK_f, ↓opK_t, ↓op0_f, ↓op0_t, ↓guardD_some, ↓guardV_u, ↓guardV_tt, ↓guardV_tf, ↓guardV_ft, ↓guardV_ff, ↓seqK_eq, ↓drawK_eq, ↓condV_t, ↓condV_f, ↓kq_nil, ↓kq_seq_n, ↓kq_seq_r, ↓kq_seq_x, ↓kq_rnd_n, ↓kq_rnd_r, ↓kq_rnd_x, ↓kq_blk_n, ↓kq_blk_r, ↓kq_blk_hit, ↓kq_blk_miss, ↓thenQ_rnd, ↓fnPost_normal, ↓fnPost_ret,
    guardV_bt, guardV_bf, condV_b, pop, hop, ev, evs, evp, argEnv, get_hit, get_miss, constV, constC, constCs, dstOf_stub, id, List.getElem?_cons_zero, List.getElem?_cons_succ, Option.bind_some, Option.bind_none, Option.map_some, Option.map_none,
    Nat.reduceBEq, bsize_lit, Nat.reduceLT, Nat.reduceLeDiff, Nat.reduceAdd, Nat.reduceSub, Nat.reduceEqDiff, Nat.reduceMul, intBin, strBin, isSh, shV, resK, packV, InK, Int.reduceLE, Int.reduceLT, Int.reduceNeg, true_and, and_true, and_self, eq_self, ↓reduceIte, Bool.false_eq_true, if_true, if_false, true_imp_iff, false_imp_iff, imp_self, forall_const, reduceCtorEq, ne_eq, not_false_eq_true, not_true_eq_false, or_self, or_false, false_or, false_and, and_false,
    hget, hput, V.cells, List.length_cons, List.length_nil, List.drop_zero, List.drop_succ_cons, List.take_succ_cons, List.take_zero, List.take_nil, List.drop_nil, fillV, fillE, List.append_eq, List.cons_append, List.nil_append, List.append_nil, List.set_cons_zero, List.set_cons_succ, List.replicate, nls, nl, List.all_cons, List.all_nil, Bool.not_true, Bool.not_false, Bool.and_true, Bool.true_and, Bool.and_self, Bool.and_false, Bool.false_and, allOne, List.isEmpty_toArray, List.isEmpty_nil, lenV, exists_eq_left', Option.some.injEq, Nat.le_refl, Nat.zero_le, Nat.add_zero, Nat.zero_add, decide_true, decide_false, cond_true, cond_false, Int.toNat_natCast, Int.ofNat_lt, Int.ofNat_le, Int.natCast_nonneg, List.length_map, List.getElem?_map, List.getD_eq_getElem?_getD, Option.getD_some, Option.getD_none, fin_pure, List.map_cons, List.map_nil, srcV, ty3, ty4, ty5, ty9, ty22, ty31, ty33, ty35, ty37, ty50, ty56, ty58]
          refine ⟨drawOk_of_fast (by kernel_rfl), Fin.nl (by rw [hstep]; simp [hB]) rfl⟩
        · have hfin : ∀ b, listB l = b → Fin (.b b) [] (.b (listB l)) [] 0 := fun b h => by rw [h]; exact Fin.nl rfl rfl
          have hpos : decide ((0:Int) < (i:Int)) = decide (0 < i) := by simp
          have hid : V.agg [.s ⟨(keyB k.f.t).toArray⟩, .i .i64 k.f.a, .i .i64 k.f.b] = idV (keyF k.f) := rfl
          have e1 : (IntKind.i64.wrap ((i:Int) + 1) : Int) = ((i + 1 : Nat) : Int) := by
            rw [wrap_in]
            · omega
            · simp only [InK]; omega
          rcases Nat.eq_zero_or_pos i with hz | hp
          · have hbh : behind (prevAt l i) k.seq = false := by simp [prevAt, hz, behind]
            have hd : decide (0 < i) = false := by simp [hz]
            simp (maxSteps := 4000000) -implicitDefEqProofs only [↓vc_seq, ↓vc_region, ↓vc_draw, ↓vc_skip, ↓vc_label, ↓vc_ret, ↓vc_exit, ↓vc_block, ↓vc_loop, ↓vc_cond, ↓vcOps_nil, ↓vcOps_plain, ↓vcOps_plain0, ↓vcOps_guard, ↓stepK_some, ↓stepK_none, ↓opK_f, ↓opK_t, ↓op0_f, ↓op0_t, ↓guardD_some, ↓guardV_u, ↓guardV_tt, ↓guardV_tf, ↓guardV_ft, ↓guardV_ff, ↓seqK_eq, ↓drawK_eq, ↓condV_t, ↓condV_f, ↓kq_nil, ↓kq_seq_n, ↓kq_seq_r, ↓kq_seq_x, ↓kq_rnd_n, ↓kq_rnd_r, ↓kq_rnd_x, ↓kq_blk_n, ↓kq_blk_r, ↓kq_blk_hit, ↓kq_blk_miss, ↓thenQ_rnd, ↓fnPost_normal, ↓fnPost_ret,
    guardV_bt, guardV_bf, condV_b, pop, hop, ev, evs, evp, argEnv, get_hit, get_miss, constV, constC, constCs, dstOf_stub, id, List.getElem?_cons_zero, List.getElem?_cons_succ, Option.bind_some, Option.bind_none, Option.map_some, Option.map_none,
    Nat.reduceBEq, bsize_lit, Nat.reduceLT, Nat.reduceLeDiff, Nat.reduceAdd, Nat.reduceSub, Nat.reduceEqDiff, Nat.reduceMul, intBin, strBin, isSh, shV, resK, packV, InK, Int.reduceLE, Int.reduceLT, Int.reduceNeg, true_and, and_true, and_self, eq_self, ↓reduceIte, Bool.false_eq_true, if_true, if_false, true_imp_iff, false_imp_iff, imp_self, forall_const, reduceCtorEq, ne_eq, not_false_eq_true, not_true_eq_false, or_self, or_false, false_or, false_and, and_false,
    hget, hput, V.cells, List.length_cons, List.length_nil, List.drop_zero, List.drop_succ_cons, List.take_succ_cons, List.take_zero, List.take_nil, List.drop_nil, fillV, fillE, List.append_eq, List.cons_append, List.nil_append, List.append_nil, List.set_cons_zero, List.set_cons_succ, List.replicate, nls, nl, List.all_cons, List.all_nil, Bool.not_true, Bool.not_false, Bool.and_true, Bool.true_and, Bool.and_self, Bool.and_false, Bool.false_and, allOne, List.isEmpty_toArray, List.isEmpty_nil, lenV, exists_eq_left', Option.some.injEq, Nat.le_refl, Nat.zero_le, Nat.add_zero, Nat.zero_add, decide_true, decide_false, cond_true, cond_false, Int.toNat_natCast, Int.ofNat_lt, Int.ofNat_le, Int.natCast_nonneg, List.length_map, List.getElem?_map, List.getD_eq_getElem?_getD, Option.getD_some, Option.getD_none, fin_pure, List.map_cons, List.map_nil, srcV, ty3, ty4, ty5, ty9, ty22, ty31, ty33, ty35, ty37, ty50, ty56, ty58, hkk, Kp.cells_eq, hpos, hd]
            refine spl (fun hs => ?_) (fun hs => ?_)
            · refine ⟨drawOk_of_fast (by kernel_rfl), Fin.nl (by rw [hstep, hs]; simp) rfl⟩
            · refine CallK.pure (c20 k.f (isB_key hB)) (by rw [Fc.cells_eq]; exact Wkt.refl _) fun _ => ?_
              simp (maxSteps := 4000000) -implicitDefEqProofs only [↓vc_seq, ↓vc_region, ↓vc_draw, ↓vc_skip, ↓vc_label, ↓vc_ret, ↓vc_exit, ↓vc_block, ↓vc_loop, ↓vc_cond, ↓vcOps_nil, ↓vcOps_plain, ↓vcOps_plain0, ↓vcOps_guard, ↓stepK_some, ↓stepK_none, ↓opK_f, ↓opK_t, ↓op0_f, ↓op0_t, ↓guardD_some, ↓guardV_u, ↓guardV_tt, ↓guardV_tf, ↓guardV_ft, ↓guardV_ff, ↓seqK_eq, ↓drawK_eq, ↓condV_t, ↓condV_f, ↓kq_nil, ↓kq_seq_n, ↓kq_seq_r, ↓kq_seq_x, ↓kq_rnd_n, ↓kq_rnd_r, ↓kq_rnd_x, ↓kq_blk_n, ↓kq_blk_r, ↓kq_blk_hit, ↓kq_blk_miss, ↓thenQ_rnd, ↓fnPost_normal, ↓fnPost_ret,
    guardV_bt, guardV_bf, condV_b, pop, hop, ev, evs, evp, argEnv, get_hit, get_miss, constV, constC, constCs, dstOf_stub, id, List.getElem?_cons_zero, List.getElem?_cons_succ, Option.bind_some, Option.bind_none, Option.map_some, Option.map_none,
    Nat.reduceBEq, bsize_lit, Nat.reduceLT, Nat.reduceLeDiff, Nat.reduceAdd, Nat.reduceSub, Nat.reduceEqDiff, Nat.reduceMul, intBin, strBin, isSh, shV, resK, packV, InK, Int.reduceLE, Int.reduceLT, Int.reduceNeg, true_and, and_true, and_self, eq_self, ↓reduceIte, Bool.false_eq_true, if_true, if_false, true_imp_iff, false_imp_iff, imp_self, forall_const, reduceCtorEq, ne_eq, not_false_eq_true, not_true_eq_false, or_self, or_false, false_or, false_and, and_false,
    hget, hput, V.cells, List.length_cons, List.length_nil, List.drop_zero, List.drop_succ_cons, List.take_succ_cons, List.take_zero, List.take_nil, List.drop_nil, fillV, fillE, List.append_eq, List.cons_append, List.nil_append, List.append_nil, List.set_cons_zero, List.set_cons_succ, List.replicate, nls, nl, List.all_cons, List.all_nil, Bool.not_true, Bool.not_false, Bool.and_true, Bool.true_and, Bool.and_self, Bool.and_false, Bool.false_and, allOne, List.isEmpty_toArray, List.isEmpty_nil, lenV, exists_eq_left', Option.some.injEq, Nat.le_refl, Nat.zero_le, Nat.add_zero, Nat.zero_add, decide_true, decide_false, cond_true, cond_false, Int.toNat_natCast, Int.ofNat_lt, Int.ofNat_le, Int.natCast_nonneg, List.length_map, List.getElem?_map, List.getD_eq_getElem?_getD, Option.getD_some, Option.getD_none, fin_pure, List.map_cons, List.map_nil, srcV, ty3, ty4, ty5, ty9, ty22, ty31, ty33, ty35, ty37, ty50, ty56, ty58]
              rw [hid, findV_mapK]
              refine ⟨rfl, fits_mapK ids, ?_⟩
              cases hH : hasK ids (keyF k.f)
              · simp (maxSteps := 4000000) -implicitDefEqProofs only [↓vc_seq, ↓vc_region, ↓vc_draw, ↓vc_skip, ↓vc_label, ↓vc_ret, ↓vc_exit, ↓vc_block, ↓vc_loop, ↓vc_cond, ↓vcOps_nil, ↓vcOps_plain, ↓vcOps_plain0, ↓vcOps_guard, ↓stepK_some, ↓stepK_none, ↓opK_f, ↓opK_t, ↓op0_f, ↓op0_t, ↓guardD_some, ↓guardV_u, ↓guardV_tt, ↓guardV_tf, ↓guardV_ft, ↓guardV_ff, ↓seqK_eq, ↓drawK_eq, ↓condV_t, ↓condV_f, ↓kq_nil, ↓kq_seq_n, ↓kq_seq_r, ↓kq_seq_x, ↓kq_rnd_n, ↓kq_rnd_r, ↓kq_rnd_x, ↓kq_blk_n, ↓kq_blk_r, ↓kq_blk_hit, ↓kq_blk_miss, ↓thenQ_rnd, ↓fnPost_normal, ↓fnPost_ret,
    guardV_bt, guardV_bf, condV_b, pop, hop, ev, evs, evp, argEnv, get_hit, get_miss, constV, constC, constCs, dstOf_stub, id, List.getElem?_cons_zero, List.getElem?_cons_succ, Option.bind_some, Option.bind_none, Option.map_some, Option.map_none,
    Nat.reduceBEq, bsize_lit, Nat.reduceLT, Nat.reduceLeDiff, Nat.reduceAdd, Nat.reduceSub, Nat.reduceEqDiff, Nat.reduceMul, intBin, strBin, isSh, shV, resK, packV, InK, Int.reduceLE, Int.reduceLT, Int.reduceNeg, true_and, and_true, and_self, eq_self, ↓reduceIte, Bool.false_eq_true, if_true, if_false, true_imp_iff, false_imp_iff, imp_self, forall_const, reduceCtorEq, ne_eq, not_false_eq_true, not_true_eq_false, or_self, or_false, false_or, false_and, and_false,
    hget, hput, V.cells, List.length_cons, List.length_nil, List.drop_zero, List.drop_succ_cons, List.take_succ_cons, List.take_zero, List.take_nil, List.drop_nil, fillV, fillE, List.append_eq, List.cons_append, List.nil_append, List.append_nil, List.set_cons_zero, List.set_cons_succ, List.replicate, nls, nl, List.all_cons, List.all_nil, Bool.not_true, Bool.not_false, Bool.and_true, Bool.true_and, Bool.and_self, Bool.and_false, Bool.false_and, allOne, List.isEmpty_toArray, List.isEmpty_nil, lenV, exists_eq_left', Option.some.injEq, Nat.le_refl, Nat.zero_le, Nat.add_zero, Nat.zero_add, decide_true, decide_false, cond_true, cond_false, Int.toNat_natCast, Int.ofNat_lt, Int.ofNat_le, Int.natCast_nonneg, List.length_map, List.getElem?_map, List.getD_eq_getElem?_getD, Option.getD_some, Option.getD_none, fin_pure, List.map_cons, List.map_nil, srcV, ty3, ty4, ty5, ty9, ty22, ty31, ty33, ty35, ty37, ty50, ty56, ty58, lookR]
                refine ⟨drawOk_of_fast (by kernel_rfl), CallK.pure (c20 k.f (isB_key hB)) (by rw [Fc.cells_eq]; exact Wkt.refl _) fun _ => ?_⟩
                simp (maxSteps := 4000000) -implicitDefEqProofs only [↓vc_seq, ↓vc_region, ↓vc_draw, ↓vc_skip, ↓vc_label, ↓vc_ret, ↓vc_exit, ↓vc_block, ↓vc_loop, ↓vc_cond, ↓vcOps_nil, ↓vcOps_plain, ↓vcOps_plain0, ↓vcOps_guard, ↓stepK_some, ↓stepK_none, ↓opK_f, ↓opK_t, ↓op0_f, ↓op0_t, ↓guardD_some, ↓guardV_u, ↓guardV_tt, ↓guardV_tf, ↓guardV_ft, ↓guardV_ff, ↓seqK_eq, ↓drawK_eq, ↓condV_t, ↓condV_f, ↓kq_nil, ↓kq_seq_n, ↓kq_seq_r, ↓kq_seq_x, ↓kq_rnd_n, ↓kq_rnd_r, ↓kq_rnd_x, ↓kq_blk_n, ↓kq_blk_r, ↓kq_blk_hit, ↓kq_blk_miss, ↓thenQ_rnd, ↓fnPost_normal, ↓fnPost_ret,
    guardV_bt, guardV_bf, condV_b, pop, hop, ev, evs, evp, argEnv, get_hit, get_miss, constV, constC, constCs, dstOf_stub, id, List.getElem?_cons_zero, List.getElem?_cons_succ, Option.bind_some, Option.bind_none, Option.map_some, Option.map_none,
    Nat.reduceBEq, bsize_lit, Nat.reduceLT, Nat.reduceLeDiff, Nat.reduceAdd, Nat.reduceSub, Nat.reduceEqDiff, Nat.reduceMul, intBin, strBin, isSh, shV, resK, packV, InK, Int.reduceLE, Int.reduceLT, Int.reduceNeg, true_and, and_true, and_self, eq_self, ↓reduceIte, Bool.false_eq_true, if_true, if_false, true_imp_iff, false_imp_iff, imp_self, forall_const, reduceCtorEq, ne_eq, not_false_eq_true, not_true_eq_false, or_self, or_false, false_or, false_and, and_false,
    hget, hput, V.cells, List.length_cons, List.length_nil, List.drop_zero, List.drop_succ_cons, List.take_succ_cons, List.take_zero, List.take_nil, List.drop_nil, fillV, fillE, List.append_eq, List.cons_append, List.nil_append, List.append_nil, List.set_cons_zero, List.set_cons_succ, List.replicate, nls, nl, List.all_cons, List.all_nil, Bool.not_true, Bool.not_false, Bool.and_true, Bool.true_and, Bool.and_self, Bool.and_false, Bool.false_and, allOne, List.isEmpty_toArray, List.isEmpty_nil, lenV, exists_eq_left', Option.some.injEq, Nat.le_refl, Nat.zero_le, Nat.add_zero, Nat.zero_add, decide_true, decide_false, cond_true, cond_false, Int.toNat_natCast, Int.ofNat_lt, Int.ofNat_le, Int.natCast_nonneg, List.length_map, List.getElem?_map, List.getD_eq_getElem?_getD, Option.getD_some, Option.getD_none, fin_pure, List.map_cons, List.map_nil, srcV, ty3, ty4, ty5, ty9, ty22, ty31, ty33, ty35, ty37, ty50, ty56, ty58]
                rw [hid, updE_mapK _ _ hH]
                refine ⟨rfl, fits_mapK ids, ?_⟩
                rw [e1]
                rw [hs, hbh, hH, hB] at hstep
                refine ⟨⟨(i + 1, ids ++ [keyF k.f]), hi2, by rw [hprev, hstep]; rfl⟩, by simp only; omega, [_], by simp; exact List.Perm.swap .., ?_, ?_⟩
                · simp [Sub, Env.get, frV_nil, frV, bl, bls]
                · simp [blB_mapK]
              · simp (maxSteps := 4000000) -implicitDefEqProofs only [↓vc_seq, ↓vc_region, ↓vc_draw, ↓vc_skip, ↓vc_label, ↓vc_ret, ↓vc_exit, ↓vc_block, ↓vc_loop, ↓vc_cond, ↓vcOps_nil, ↓vcOps_plain, ↓vcOps_plain0, ↓vcOps_guard, ↓stepK_some, ↓stepK_none, ↓opK_f, ↓opK_t, ↓op0_f, ↓op0_t, ↓guardD_some, ↓guardV_u, ↓guardV_tt, ↓guardV_tf, ↓guardV_ft, ↓guardV_ff, ↓seqK_eq, ↓drawK_eq, ↓condV_t, ↓condV_f, ↓kq_nil, ↓kq_seq_n, ↓kq_seq_r, ↓kq_seq_x, ↓kq_rnd_n, ↓kq_rnd_r, ↓kq_rnd_x, ↓kq_blk_n, ↓kq_blk_r, ↓kq_blk_hit, ↓kq_blk_miss, ↓thenQ_rnd, ↓fnPost_normal, ↓fnPost_ret,
    guardV_bt, guardV_bf, condV_b, pop, hop, ev, evs, evp, argEnv, get_hit, get_miss, constV, constC, constCs, dstOf_stub, id, List.getElem?_cons_zero, List.getElem?_cons_succ, Option.bind_some, Option.bind_none, Option.map_some, Option.map_none,
    Nat.reduceBEq, bsize_lit, Nat.reduceLT, Nat.reduceLeDiff, Nat.reduceAdd, Nat.reduceSub, Nat.reduceEqDiff, Nat.reduceMul, intBin, strBin, isSh, shV, resK, packV, InK, Int.reduceLE, Int.reduceLT, Int.reduceNeg, true_and, and_true, and_self, eq_self, ↓reduceIte, Bool.false_eq_true, if_true, if_false, true_imp_iff, false_imp_iff, imp_self, forall_const, reduceCtorEq, ne_eq, not_false_eq_true, not_true_eq_false, or_self, or_false, false_or, false_and, and_false,
    hget, hput, V.cells, List.length_cons, List.length_nil, List.drop_zero, List.drop_succ_cons, List.take_succ_cons, List.take_zero, List.take_nil, List.drop_nil, fillV, fillE, List.append_eq, List.cons_append, List.nil_append, List.append_nil, List.set_cons_zero, List.set_cons_succ, List.replicate, nls, nl, List.all_cons, List.all_nil, Bool.not_true, Bool.not_false, Bool.and_true, Bool.true_and, Bool.and_self, Bool.and_false, Bool.false_and, allOne, List.isEmpty_toArray, List.isEmpty_nil, lenV, exists_eq_left', Option.some.injEq, Nat.le_refl, Nat.zero_le, Nat.add_zero, Nat.zero_add, decide_true, decide_false, cond_true, cond_false, Int.toNat_natCast, Int.ofNat_lt, Int.ofNat_le, Int.natCast_nonneg, List.length_map, List.getElem?_map, List.getD_eq_getElem?_getD, Option.getD_some, Option.getD_none, fin_pure, List.map_cons, List.map_nil, srcV, ty3, ty4, ty5, ty9, ty22, ty31, ty33, ty35, ty37, ty50, ty56, ty58, lookR]
                refine ⟨drawOk_of_fast (by kernel_rfl), Fin.nl (by rw [hstep, hs, hbh, hH]; simp) rfl⟩
          · have hd : decide (0 < i) = true := by simp [hp]
            have e2 : (IntKind.i64.wrap ((i:Int) - 1) : Int) = ((i - 1 : Nat) : Int) := by
              rw [wrap_in]
              · omega
              · simp only [InK]; omega
            have hi3 : i - 1 < l.length := by omega
            have hprv : prevAt l i = some l[i - 1].seq := by simp [prevAt, List.getElem?_eq_getElem hi3, show i ≠ 0 by omega]
            generalize hqq : l[i - 1] = q at hprv
            have hq2 : l[i - 1]? = some q := by rw [List.getElem?_eq_getElem hi3, hqq]
            simp (maxSteps := 4000000) -implicitDefEqProofs only [↓vc_seq, ↓vc_region, ↓vc_draw, ↓vc_skip, ↓vc_label, ↓vc_ret, ↓vc_exit, ↓vc_block, ↓vc_loop, ↓vc_cond, ↓vcOps_nil, ↓vcOps_plain, ↓vcOps_plain0, ↓vcOps_guard, ↓stepK_some, ↓stepK_none, ↓opK_f, ↓opK_t, ↓op0_f, ↓op0_t, ↓guardD_some, ↓guardV_u, ↓guardV_tt, ↓guardV_tf, ↓guardV_ft, ↓guardV_ff, ↓seqK_eq, ↓drawK_eq, ↓condV_t, ↓condV_f, ↓kq_nil, ↓kq_seq_n, ↓kq_seq_r, ↓kq_seq_x, ↓kq_rnd_n, ↓kq_rnd_r, ↓kq_rnd_x, ↓kq_blk_n, ↓kq_blk_r, ↓kq_blk_hit, ↓kq_blk_miss, ↓thenQ_rnd, ↓fnPost_normal, ↓fnPost_ret,
    guardV_bt, guardV_bf, condV_b, pop, hop, ev, evs, evp, argEnv, get_hit, get_miss, constV, constC, constCs, dstOf_stub, id, List.getElem?_cons_zero, List.getElem?_cons_succ, Option.bind_some, Option.bind_none, Option.map_some, Option.map_none,
    Nat.reduceBEq, bsize_lit, Nat.reduceLT, Nat.reduceLeDiff, Nat.reduceAdd, Nat.reduceSub, Nat.reduceEqDiff, Nat.reduceMul, intBin, strBin, isSh, shV, resK, packV, InK, Int.reduceLE, Int.reduceLT, Int.reduceNeg, true_and, and_true, and_self, eq_self, ↓reduceIte, Bool.false_eq_true, if_true, if_false, true_imp_iff, false_imp_iff, imp_self, forall_const, reduceCtorEq, ne_eq, not_false_eq_true, not_true_eq_false, or_self, or_false, false_or, false_and, and_false,
    hget, hput, V.cells, List.length_cons, List.length_nil, List.drop_zero, List.drop_succ_cons, List.take_succ_cons, List.take_zero, List.take_nil, List.drop_nil, fillV, fillE, List.append_eq, List.cons_append, List.nil_append, List.append_nil, List.set_cons_zero, List.set_cons_succ, List.replicate, nls, nl, List.all_cons, List.all_nil, Bool.not_true, Bool.not_false, Bool.and_true, Bool.true_and, Bool.and_self, Bool.and_false, Bool.false_and, allOne, List.isEmpty_toArray, List.isEmpty_nil, lenV, exists_eq_left', Option.some.injEq, Nat.le_refl, Nat.zero_le, Nat.add_zero, Nat.zero_add, decide_true, decide_false, cond_true, cond_false, Int.toNat_natCast, Int.ofNat_lt, Int.ofNat_le, Int.natCast_nonneg, List.length_map, List.getElem?_map, List.getD_eq_getElem?_getD, Option.getD_some, Option.getD_none, fin_pure, List.map_cons, List.map_nil, srcV, ty3, ty4, ty5, ty9, ty22, ty31, ty33, ty35, ty37, ty50, ty56, ty58, hkk, Kp.cells_eq, hpos, hd, e2, hq2, Int.toNat_natCast]
            refine spl (fun hs => ?_) (fun hs => ?_)
            · refine ⟨drawOk_of_fast (by kernel_rfl), Fin.nl (by rw [hstep, hs]; simp) rfl⟩
            · refine ⟨hi3, spl (fun hb => ?_) (fun hb => ?_)⟩
              · refine ⟨drawOk_of_fast (by kernel_rfl), Fin.nl (by rw [hstep, hprv]; simp [behind]; simp at hb; intros; omega) rfl⟩
              · have hbh : behind (prevAt l i) k.seq = false := by rw [hprv]; exact hb
                refine CallK.pure (c20 k.f (isB_key hB)) (by rw [Fc.cells_eq]; exact Wkt.refl _) fun _ => ?_
                simp (maxSteps := 4000000) -implicitDefEqProofs only [↓vc_seq, ↓vc_region, ↓vc_draw, ↓vc_skip, ↓vc_label, ↓vc_ret, ↓vc_exit, ↓vc_block, ↓vc_loop, ↓vc_cond, ↓vcOps_nil, ↓vcOps_plain, ↓vcOps_plain0, ↓vcOps_guard, ↓stepK_some, ↓stepK_none, ↓opK_f, ↓opK_t, ↓op0_f, ↓op0_t, ↓guardD_some, ↓guardV_u, ↓guardV_tt, ↓guardV_tf, ↓guardV_ft, ↓guardV_ff, ↓seqK_eq, ↓drawK_eq, ↓condV_t, ↓condV_f, ↓kq_nil, ↓kq_seq_n, ↓kq_seq_r, ↓kq_seq_x, ↓kq_rnd_n, ↓kq_rnd_r, ↓kq_rnd_x, ↓kq_blk_n, ↓kq_blk_r, ↓kq_blk_hit, ↓kq_blk_miss, ↓thenQ_rnd, ↓fnPost_normal, ↓fnPost_ret,
    guardV_bt, guardV_bf, condV_b, pop, hop, ev, evs, evp, argEnv, get_hit, get_miss, constV, constC, constCs, dstOf_stub, id, List.getElem?_cons_zero, List.getElem?_cons_succ, Option.bind_some, Option.bind_none, Option.map_some, Option.map_none,
    Nat.reduceBEq, bsize_lit, Nat.reduceLT, Nat.reduceLeDiff, Nat.reduceAdd, Nat.reduceSub, Nat.reduceEqDiff, Nat.reduceMul, intBin, strBin, isSh, shV, resK, packV, InK, Int.reduceLE, Int.reduceLT, Int.reduceNeg, true_and, and_true, and_self, eq_self, ↓reduceIte, Bool.false_eq_true, if_true, if_false, true_imp_iff, false_imp_iff, imp_self, forall_const, reduceCtorEq, ne_eq, not_false_eq_true, not_true_eq_false, or_self, or_false, false_or, false_and, and_false,
    hget, hput, V.cells, List.length_cons, List.length_nil, List.drop_zero, List.drop_succ_cons, List.take_succ_cons, List.take_zero, List.take_nil, List.drop_nil, fillV, fillE, List.append_eq, List.cons_append, List.nil_append, List.append_nil, List.set_cons_zero, List.set_cons_succ, List.replicate, nls, nl, List.all_cons, List.all_nil, Bool.not_true, Bool.not_false, Bool.and_true, Bool.true_and, Bool.and_self, Bool.and_false, Bool.false_and, allOne, List.isEmpty_toArray, List.isEmpty_nil, lenV, exists_eq_left', Option.some.injEq, Nat.le_refl, Nat.zero_le, Nat.add_zero, Nat.zero_add, decide_true, decide_false, cond_true, cond_false, Int.toNat_natCast, Int.ofNat_lt, Int.ofNat_le, Int.natCast_nonneg, List.length_map, List.getElem?_map, List.getD_eq_getElem?_getD, Option.getD_some, Option.getD_none, fin_pure, List.map_cons, List.map_nil, srcV, ty3, ty4, ty5, ty9, ty22, ty31, ty33, ty35, ty37, ty50, ty56, ty58]
                rw [hid, findV_mapK]
                refine ⟨rfl, fits_mapK ids, ?_⟩
                cases hH : hasK ids (keyF k.f)
                · simp (maxSteps := 4000000) -implicitDefEqProofs only [↓vc_seq, ↓vc_region, ↓vc_draw, ↓vc_skip, ↓vc_label, ↓vc_ret, ↓vc_exit, ↓vc_block, ↓vc_loop, ↓vc_cond, ↓vcOps_nil, ↓vcOps_plain, ↓vcOps_plain0, ↓vcOps_guard, ↓stepK_some, ↓stepK_none, ↓opK_f, ↓opK_t, ↓op0_f, ↓op0_t, ↓guardD_some, ↓guardV_u, ↓guardV_tt, ↓guardV_tf, ↓guardV_ft, ↓guardV_ff, ↓seqK_eq, ↓drawK_eq, ↓condV_t, ↓condV_f, ↓kq_nil, ↓kq_seq_n, ↓kq_seq_r, ↓kq_seq_x, ↓kq_rnd_n, ↓kq_rnd_r, ↓kq_rnd_x, ↓kq_blk_n, ↓kq_blk_r, ↓kq_blk_hit, ↓kq_blk_miss, ↓thenQ_rnd, ↓fnPost_normal, ↓fnPost_ret,
    guardV_bt, guardV_bf, condV_b, pop, hop, ev, evs, evp, argEnv, get_hit, get_miss, constV, constC, constCs, dstOf_stub, id, List.getElem?_cons_zero, List.getElem?_cons_succ, Option.bind_some, Option.bind_none, Option.map_some, Option.map_none,
    Nat.reduceBEq, bsize_lit, Nat.reduceLT, Nat.reduceLeDiff, Nat.reduceAdd, Nat.reduceSub, Nat.reduceEqDiff, Nat.reduceMul, intBin, strBin, isSh, shV, resK, packV, InK, Int.reduceLE, Int.reduceLT, Int.reduceNeg, true_and, and_true, and_self, eq_self, ↓reduceIte, Bool.false_eq_true, if_true, if_false, true_imp_iff, false_imp_iff, imp_self, forall_const, reduceCtorEq, ne_eq, not_false_eq_true, not_true_eq_false, or_self, or_false, false_or, false_and, and_false,
    hget, hput, V.cells, List.length_cons, List.length_nil, List.drop_zero, List.drop_succ_cons, List.take_succ_cons, List.take_zero, List.take_nil, List.drop_nil, fillV, fillE, List.append_eq, List.cons_append, List.nil_append, List.append_nil, List.set_cons_zero, List.set_cons_succ, List.replicate, nls, nl, List.all_cons, List.all_nil, Bool.not_true, Bool.not_false, Bool.and_true, Bool.true_and, Bool.and_self, Bool.and_false, Bool.false_and, allOne, List.isEmpty_toArray, List.isEmpty_nil, lenV, exists_eq_left', Option.some.injEq, Nat.le_refl, Nat.zero_le, Nat.add_zero, Nat.zero_add, decide_true, decide_false, cond_true, cond_false, Int.toNat_natCast, Int.ofNat_lt, Int.ofNat_le, Int.natCast_nonneg, List.length_map, List.getElem?_map, List.getD_eq_getElem?_getD, Option.getD_some, Option.getD_none, fin_pure, List.map_cons, List.map_nil, srcV, ty3, ty4, ty5, ty9, ty22, ty31, ty33, ty35, ty37, ty50, ty56, ty58, lookR]
                  refine ⟨drawOk_of_fast (by kernel_rfl), CallK.pure (c20 k.f (isB_key hB)) (by rw [Fc.cells_eq]; exact Wkt.refl _) fun _ => ?_⟩
                  simp (maxSteps := 4000000) -implicitDefEqProofs only [↓vc_seq, ↓vc_region, ↓vc_draw, ↓vc_skip, ↓vc_label, ↓vc_ret, ↓vc_exit, ↓vc_block, ↓vc_loop, ↓vc_cond, ↓vcOps_nil, ↓vcOps_plain, ↓vcOps_plain0, ↓vcOps_guard, ↓stepK_some, ↓stepK_none, ↓opK_f, ↓opK_t, ↓op0_f, ↓op0_t, ↓guardD_some, ↓guardV_u, ↓guardV_tt, ↓guardV_tf, ↓guardV_ft, ↓guardV_ff, ↓seqK_eq, ↓drawK_eq, ↓condV_t, ↓condV_f, ↓kq_nil, ↓kq_seq_n, ↓kq_seq_r, ↓kq_seq_x, ↓kq_rnd_n, ↓kq_rnd_r, ↓kq_rnd_x, ↓kq_blk_n, ↓kq_blk_r, ↓kq_blk_hit, ↓kq_blk_miss, ↓thenQ_rnd, ↓fnPost_normal, ↓fnPost_ret,
    guardV_bt, guardV_bf, condV_b, pop, hop, ev, evs, evp, argEnv, get_hit, get_miss, constV, constC, constCs, dstOf_stub, id, List.getElem?_cons_zero, List.getElem?_cons_succ, Option.bind_some, Option.bind_none, Option.map_some, Option.map_none,
    Nat.reduceBEq, bsize_lit, Nat.reduceLT, Nat.reduceLeDiff, Nat.reduceAdd, Nat.reduceSub, Nat.reduceEqDiff, Nat.reduceMul, intBin, strBin, isSh, shV, resK, packV, InK, Int.reduceLE, Int.reduceLT, Int.reduceNeg, true_and, and_true, and_self, eq_self, ↓reduceIte, Bool.false_eq_true, if_true, if_false, true_imp_iff, false_imp_iff, imp_self, forall_const, reduceCtorEq, ne_eq, not_false_eq_true, not_true_eq_false, or_self, or_false, false_or, false_and, and_false,
    hget, hput, V.cells, List.length_cons, List.length_nil, List.drop_zero, List.drop_succ_cons, List.take_succ_cons, List.take_zero, List.take_nil, List.drop_nil, fillV, fillE, List.append_eq, List.cons_append, List.nil_append, List.append_nil, List.set_cons_zero, List.set_cons_succ, List.replicate, nls, nl, List.all_cons, List.all_nil, Bool.not_true, Bool.not_false, Bool.and_true, Bool.true_and, Bool.and_self, Bool.and_false, Bool.false_and, allOne, List.isEmpty_toArray, List.isEmpty_nil, lenV, exists_eq_left', Option.some.injEq, Nat.le_refl, Nat.zero_le, Nat.add_zero, Nat.zero_add, decide_true, decide_false, cond_true, cond_false, Int.toNat_natCast, Int.ofNat_lt, Int.ofNat_le, Int.natCast_nonneg, List.length_map, List.getElem?_map, List.getD_eq_getElem?_getD, Option.getD_some, Option.getD_none, fin_pure, List.map_cons, List.map_nil, srcV, ty3, ty4, ty5, ty9, ty22, ty31, ty33, ty35, ty37, ty50, ty56, ty58]
                  rw [hid, updE_mapK _ _ hH]
                  refine ⟨rfl, fits_mapK ids, ?_⟩
                  rw [e1]
                  rw [hs, hbh, hH, hB] at hstep
                  refine ⟨⟨(i + 1, ids ++ [keyF k.f]), hi2, by rw [hprev, hstep]; rfl⟩, by simp only; omega, [_], by simp; exact List.Perm.swap .., ?_, ?_⟩
                  · simp [Sub, Env.get, frV_nil, frV, bl, bls]
                  · simp [blB_mapK]
                · simp (maxSteps := 4000000) -implicitDefEqProofs only [↓vc_seq, ↓vc_region, ↓vc_draw, ↓vc_skip, ↓vc_label, ↓vc_ret, ↓vc_exit, ↓vc_block, ↓vc_loop, ↓vc_cond, ↓vcOps_nil, ↓vcOps_plain, ↓vcOps_plain0, ↓vcOps_guard, ↓stepK_some, ↓stepK_none, ↓opK_f, ↓opK_t, ↓op0_f, ↓op0_t, ↓guardD_some, ↓guardV_u, ↓guardV_tt, ↓guardV_tf, ↓guardV_ft, ↓guardV_ff, ↓seqK_eq, ↓drawK_eq, ↓condV_t, ↓condV_f, ↓kq_nil, ↓kq_seq_n, ↓kq_seq_r, ↓kq_seq_x, ↓kq_rnd_n, ↓kq_rnd_r, ↓kq_rnd_x, ↓kq_blk_n, ↓kq_blk_r, ↓kq_blk_hit, ↓kq_blk_miss, ↓thenQ_rnd, ↓fnPost_normal, ↓fnPost_ret,
    guardV_bt, guardV_bf, condV_b, pop, hop, ev, evs, evp, argEnv, get_hit, get_miss, constV, constC, constCs, dstOf_stub, id, List.getElem?_cons_zero, List.getElem?_cons_succ, Option.bind_some, Option.bind_none, Option.map_some, Option.map_none,
    Nat.reduceBEq, bsize_lit, Nat.reduceLT, Nat.reduceLeDiff, Nat.reduceAdd, Nat.reduceSub, Nat.reduceEqDiff, Nat.reduceMul, intBin, strBin, isSh, shV, resK, packV, InK, Int.reduceLE, Int.reduceLT, Int.reduceNeg, true_and, and_true, and_self, eq_self, ↓reduceIte, Bool.false_eq_true, if_true, if_false, true_imp_iff, false_imp_iff, imp_self, forall_const, reduceCtorEq, ne_eq, not_false_eq_true, not_true_eq_false, or_self, or_false, false_or, false_and, and_false,
    hget, hput, V.cells, List.length_cons, List.length_nil, List.drop_zero, List.drop_succ_cons, List.take_succ_cons, List.take_zero, List.take_nil, List.drop_nil, fillV, fillE, List.append_eq, List.cons_append, List.nil_append, List.append_nil, List.set_cons_zero, List.set_cons_succ, List.replicate, nls, nl, List.all_cons, List.all_nil, Bool.not_true, Bool.not_false, Bool.and_true, Bool.true_and, Bool.and_self, Bool.and_false, Bool.false_and, allOne, List.isEmpty_toArray, List.isEmpty_nil, lenV, exists_eq_left', Option.some.injEq, Nat.le_refl, Nat.zero_le, Nat.add_zero, Nat.zero_add, decide_true, decide_false, cond_true, cond_false, Int.toNat_natCast, Int.ofNat_lt, Int.ofNat_le, Int.natCast_nonneg, List.length_map, List.getElem?_map, List.getD_eq_getElem?_getD, Option.getD_some, Option.getD_none, fin_pure, List.map_cons, List.map_nil, srcV, ty3, ty4, ty5, ty9, ty22, ty31, ty33, ty35, ty37, ty50, ty56, ty58, lookR]
                  refine ⟨drawOk_of_fast (by kernel_rfl), Fin.nl (by rw [hstep, hs, hbh, hH]; simp) rfl⟩
      · have hi2 : i = l.length := by simp at hc; omega
        subst hi2
        rw [List.drop_length] at hn
        simp only [listGo] at hn
        exact Fin.nl (by rw [← hn]) rfl
end Go.L1.Try
