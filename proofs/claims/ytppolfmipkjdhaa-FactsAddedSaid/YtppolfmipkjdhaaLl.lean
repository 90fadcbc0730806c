import Derived.Test.YtppolfmipkjdhaaLk
/-! L1, part l: append, calls. -/
set_option linter.all false
namespace Go.L1
open Go.RowKit
variable [Zero Prop]

section
variable {P : Program} {tys : Nat → TI} {T : Env} {o : Oper}

/-- What is appended: read in a world. -/
structure Src (P : Program) (w : World) (size : Nat) (x : Value) (m : Nat) (news : List Value) : Prop where
  len : (Builtin.lenOf x).run P w = .ok m w
  cells : (Builtin.firstCells size m x).run P w = .ok news.toArray w
  len' : (Builtin.lenOf x).run P w.drew = .ok m w.drew
  cells' : (Builtin.firstCells size m x).run P w.drew = .ok news.toArray w.drew
  count : news.length = m * size

theorem append_room {w : World} {t t2 ty e : Nat} {d2 : TypeDesc} {i : TypeInfo} (ht : P.underlying t = some (.slice e)) (ht2 : P.underlying t2 = some d2) (hd2 : ∀ k, d2 ≠ .int k) (hi : P.info? e = some i)
    {g n cap m : Nat} {cur : Array Value} (hg : w.heap[g]? = some (.cells cur e (0, 0))) {x : Value} {news : List Value} (hx : Src P w i.size x m news) (h1 : ∀ u ∈ news, u.oneCell' = true)
    (hroom : n + m ≤ cap) (hfit : n * i.size + news.length ≤ cur.size) :
    (Builtin.append_ #[t, t2] ty #[.slice (some ⟨g, 0, none⟩) n cap, x]).run P w =
      .ok (.slice (some ⟨g, 0, none⟩) (n + m) cap) (w.setRow g (cur.toList.take (n * i.size) ++ news ++ cur.toList.drop (n * i.size + news.length)).toArray) := by
  have hst := run_storeCells_at P g (n * i.size) e news 0 cur w hg (by simpa using hfit) h1
  simp only [Nat.add_zero] at hst
  have hz : (match d2 with | .int _ => true | _ => false) = false := by cases d2 <;> first | rfl | exact absurd rfl (hd2 _)
  simp [Builtin.append_, run_underlying ht, run_underlying ht2, sizeOf, typeInfo, hi, hx.len, hroom, hx.cells, Addr.add_lit, hst, hz]

theorem append_none {w : World} {t t2 ty e : Nat} {d2 : TypeDesc} {i : TypeInfo} (ht : P.underlying t = some (.slice e)) (ht2 : P.underlying t2 = some d2) (hd2 : ∀ k, d2 ≠ .int k) (hi : P.info? e = some i)
    {b : Option Addr} {n cap : Nat} {x : Value} {news : List Value} (hx : Src P w i.size x 0 news) (hroom : n ≤ cap) :
    (Builtin.append_ #[t, t2] ty #[.slice b n cap, x]).run P w = .ok (.slice b n cap) w := by
  have hz : (match d2 with | .int _ => true | _ => false) = false := by cases d2 <;> first | rfl | exact absurd rfl (hd2 _)
  have hn : news = [] := List.eq_nil_of_length_eq_zero (by simpa using hx.count)
  subst hn
  have hc := hx.cells
  cases b <;> simp [Builtin.append_, run_underlying ht, run_underlying ht2, sizeOf, typeInfo, hi, hx.len, hroom, hc, hz, storeCells]

theorem append_grow {w : World} {t t2 ty e : Nat} {d2 : TypeDesc} {i : TypeInfo} {z : Value} (ht : P.underlying t = some (.slice e)) (ht2 : P.underlying t2 = some d2) (hd2 : ∀ k, d2 ≠ .int k) (hi : P.info? e = some i) (hz0 : i.zero = some z)
    {b : Option Addr} {n cap m : Nat} {x : Value} {olds news : List Value} (hx : Src P w i.size x m news) (ho : (Builtin.firstCells i.size n (.slice b n cap)).run P w.drew = .ok olds.toArray w.drew)
    (hg : cap < n + m) (h63 : n + m ≤ maxLen) (hfit : (n + m) * i.bytes ≤ 140737488355328) :
    (Builtin.append_ #[t, t2] ty #[.slice b n cap, x]).run P w =
      .ok (.slice (some ⟨w.heap.size, 0, none⟩) (n + m) (grownCap w (n + m) cap e)) (w.drew.alloc (.cells (olds ++ news ++ (Builtin.zeroCells z.cells (grownCap w (n + m) cap e - (n + m))).toList).toArray e)) := by
  have hz : (match d2 with | .int _ => true | _ => false) = false := by cases d2 <;> first | rfl | exact absurd rfl (hd2 _)
  have hn : ¬ (n + m ≤ cap) := by omega
  have h63' : ¬ (9223372036854775807 < ((n : Int) + (m : Int))) := by unfold maxLen at h63; omega
  have h48' : ¬ (281474976710656 < Builtin.nextslicecap (n + m) cap * i.bytes) := by have := growslice_fits hg hfit; omega
  simp [Builtin.append_, run_underlying ht, run_underlying ht2, sizeOf, typeInfo, zeroValue, hi, hz0, hx.len, hn, h63', h48', Question.forced, hx.cells', ho, newRow, grownCap, hz]
  congr 2
  apply Array.ext'
  simp [List.append_assoc]

theorem Rs.ones {c : Ctx} : ∀ {xs : List V} {us : List Value}, Rs c xs us → ∀ v ∈ us, v.oneCell' = true
  | [], us, h, v, hv => by simp only [Rs] at h; subst h; cases hv
  | x :: xs, us, h, v, hv => by
    simp only [Rs] at h
    obtain ⟨u, us', rfl, h1, _, h2⟩ := h
    rcases List.mem_cons.1 hv with rfl | hv
    · exact h1.oneCell
    · exact Rs.ones h2 v hv

theorem drew_cell (w : World) (a : Addr) : w.drew.cell? a = w.cell? a := rfl

/-- A frozen row, appended. -/
theorem src_dsl {c : Ctx} {sz : Nat} {els : List (List V)} {x : Value} (h : R c (.dsl sz els) x) : ∃ news, Src P c.w sz x els.length news ∧ Rs c (flat els) news ∧ (els = [] ∨ ∀ el ∈ els, el.length = sz) := by
  simp only [R] at h
  obtain ⟨a, cap, rfl, hle, hm, he⟩ := h
  rcases he with rfl | ⟨b, f, rfl, he⟩
  · refine ⟨[], ?_, by simp [flat, Rs], .inl rfl⟩
    cases a <;> exact ⟨by simp [Builtin.lenOf], by simp [Builtin.firstCells, loadCells, loadCellsFrom], by simp [Builtin.lenOf], by simp [Builtin.firstCells, loadCells, loadCellsFrom], by simp⟩
  · have key : ∀ {els : List (List V)} {f : Nat}, Els c.bare sz els b f → (∀ el ∈ els, el.length = sz) ∧ ∃ vs, Rs c (flat els) vs ∧ ∀ j v, vs[j]? = some v → c.w.cell? ⟨b, f + j, none⟩ = some v := by
      intro els
      induction els with
      | nil => intro f _; exact ⟨by simp, [], by simp [flat, Rs], by simp⟩
      | cons x xs ih =>
        intro f h
        simp only [Els] at h
        obtain ⟨h1, h2, h3⟩ := h
        obtain ⟨vs, g1, g2⟩ := h2.read
        obtain ⟨k1, us, k2, k3⟩ := ih h3
        have hl := g1.length
        refine ⟨fun el he => ?_, vs ++ us, (Rs.lasts (bare_lasts c) _ _ g1).append k2, fun j v hj => ?_⟩
        · rcases List.mem_cons.1 he with rfl | he
          · exact h1
          · exact k1 el he
        · rw [List.getElem?_append] at hj
          split at hj
          · exact g2 j v hj
          · have := k3 _ v hj
            rwa [show f + sz + (j - vs.length) = f + j from by omega] at this
    obtain ⟨k1, vs, k2, k3⟩ := key he
    have hl := k2.length
    rw [flat_length k1] at hl
    refine ⟨vs, ?_, k2, .inr k1⟩
    have f1 := run_firstCells_some (P := P) c.w sz els.length ⟨b, f, none⟩ els.length cap vs hl.symm (fun j v hj => by rw [add_at]; exact k3 j v hj)
    have f2 := run_firstCells_some (P := P) c.w.drew sz els.length ⟨b, f, none⟩ els.length cap vs hl.symm (fun j v hj => by rw [add_at, drew_cell]; exact k3 j v hj)
    exact ⟨by simp [Builtin.lenOf], f1, by simp [Builtin.lenOf], f2, hl.symm⟩

/-- A text's bytes, appended. -/
def byteEls (s : ByteArray) : List (List V) := s.data.toList.map fun b => [.i .u8 b.toNat]

theorem byteEls_length (s : ByteArray) : (byteEls s).length = s.size := by unfold byteEls; rw [List.length_map, Array.length_toList]; rfl

theorem src_str {c : Ctx} {s : ByteArray} {x : Value} (h : R c (.s s) x) : ∃ news, Src P c.w 1 x s.size news ∧ Rs c (flat (byteEls s)) news ∧ (∀ el ∈ byteEls s, el.length = 1) := by
  simp only [R] at h
  obtain ⟨rfl, _⟩ := h
  have hx : (s.extract 0 s.size).data = s.data := by
    have : s.extract 0 s.size = s := by simp
    rw [this]
  refine ⟨s.data.toList.map fun b => .int .u8 b.toNat, ?_, ?_, by simp [byteEls]⟩
  · have hf : ∀ w, (Builtin.firstCells 1 s.size (.string s)).run P w = .ok (s.data.toList.map fun b => Value.int .u8 b.toNat).toArray w := fun w => by
      simp only [Builtin.firstCells, hx, Sem.run_pure]
      congr 1
      apply Array.ext'
      simp
    exact ⟨by simp [Builtin.lenOf], hf _, by simp [Builtin.lenOf], hf _, by rw [List.length_map, Array.length_toList, Nat.mul_one]; rfl⟩
  · have : ∀ l : List UInt8, Rs c (flat (l.map fun b => [V.i .u8 b.toNat])) (l.map fun b => Value.int .u8 b.toNat) := by
      intro l
      induction l with
      | nil => simp [flat, Rs]
      | cons b l ih =>
        simp only [List.map_cons, flat, List.singleton_append, Rs]
        exact ⟨_, _, rfl, trivial, R_i (by simp only [InK]; have := b.toNat_lt; omega), ih⟩
    exact this _

/-- An owned row, appended (or a part of it). -/
theorem src_own {F ρ H nx w} (hs : St F ρ H nx w) {l u j n sz e : Nat} {els : List (List V)} {x : Value} (h : R (ctx F ρ H w) (.sl l u j n sz) x) (hg : hget H l u = some (.row e els)) (hj : j + n ≤ els.length) :
    ∃ news, Src P w sz x n news ∧ Rs (ctx F ρ H w) (flat ((els.drop j).take n)) news ∧ (∀ el ∈ (els.drop j).take n, el.length = sz) := by
  simp only [R] at h
  obtain ⟨L, a, cap, hL, hz, rfl, hle, hm, hc⟩ := h
  obtain ⟨L', hL', hF, hB⟩ := hs.rel _ (hget_mem hg)
  obtain rfl := Option.some.inj (hL.symm.trans hL')
  rcases hc with rfl | ⟨rfl, hcap⟩
  · have hn : n = 0 := by omega
    subst hn
    refine ⟨[], ?_, by simp [flat, Rs], by simp⟩
    cases a <;> exact ⟨by simp [Builtin.lenOf], by simp [Builtin.firstCells, loadCells, loadCellsFrom], by simp [Builtin.lenOf], by simp [Builtin.firstCells, loadCells, loadCellsFrom], by simp⟩
  · by_cases hp : 0 < L.cap
    · obtain ⟨cur, h1, h2, h3, h4, h5, h6, h7, h8, h9⟩ := hB.open_row hp
      have hl8 : ∀ el ∈ (els.drop j).take n, el.length = sz := fun el he => by
        rw [← hz]; exact h8 el (List.mem_of_mem_drop (List.mem_of_mem_take he))
      have hr : Rs (ctx F ρ H w) (flat ((els.drop j).take n)) (((cur.toList.take (els.length * L.sz)).drop (j * L.sz)).take (n * L.sz)) := by
        have := (h9.drop (j * L.sz)).take (n * L.sz)
        rwa [flat_drop j h8, flat_take n (fun el he => h8 el (List.mem_of_mem_drop he))] at this
      have hl := hr.length
      rw [flat_length hl8, List.length_take, List.length_drop, Nat.min_eq_left (by omega), hz] at hl
      refine ⟨_, ?_, hr, hl8⟩
      have hmul : (j + n) * L.sz ≤ els.length * L.sz := Nat.mul_le_mul_right _ hj
      rw [Nat.add_mul] at hmul
      have hcell : ∀ i v, (((cur.toList.take (els.length * L.sz)).drop (j * L.sz)).take (n * L.sz))[i]? = some v → w.cell? ⟨L.blk, L.base + j * L.sz + i, none⟩ = some v := fun i v hi => by
        rw [List.getElem?_take] at hi
        split at hi
        · rw [List.getElem?_drop, List.getElem?_take] at hi
          split at hi
          · have h1' : w.heap[L.blk]? = some (.cells cur e (0, 0)) := h1
            simp only [World.cell?, h1', h3, Nat.zero_add]
            simpa using hi
          · cases hi
        · cases hi
      have hcnt : (((cur.toList.take (els.length * L.sz)).drop (j * L.sz)).take (n * L.sz)).length = n * sz := by rw [← hz]; simp; have : els.length * L.sz ≤ L.cap * L.sz := Nat.mul_le_mul_right _ h5; omega
      have f1 := run_firstCells_some (P := P) w sz n ⟨L.blk, L.base + j * L.sz, none⟩ n cap _ hcnt (fun i v hi => by rw [add_at]; exact hcell i v hi)
      have f2 := run_firstCells_some (P := P) w.drew sz n ⟨L.blk, L.base + j * L.sz, none⟩ n cap _ hcnt (fun i v hi => by rw [add_at, drew_cell]; exact hcell i v hi)
      exact ⟨by simp [Builtin.lenOf], f1, by simp [Builtin.lenOf], f2, hcnt⟩
    · have h0 : els.length = 0 := by have := hB.2.2.2.1; omega
      have hn : n = 0 := by omega
      subst hn
      refine ⟨[], ?_, by simp [flat, Rs], by simp⟩
      exact ⟨by simp [Builtin.lenOf], by simp [Builtin.firstCells, loadCells, loadCellsFrom], by simp [Builtin.lenOf], by simp [Builtin.firstCells, loadCells, loadCellsFrom], by simp⟩

theorem src_nil {w : World} {sz : Nat} : Src P w sz (.slice none 0 0) 0 [] :=
  ⟨by simp [Builtin.lenOf], by simp [Builtin.firstCells], by simp [Builtin.lenOf], by simp [Builtin.firstCells], by simp⟩

theorem zeroCells_size (z : Array Value) (n : Nat) : (Builtin.zeroCells z n).size = n * z.size := by simp [Builtin.zeroCells]

/-- What an append onto a row leaves behind: of the row, the world, the slice. -/
theorem append_step (hT : Sig P tys) {t t2 ty e : Nat} (ht : (tys t).k = .slice e) (he : (tys e).k ≠ .other) (hz0 : (tys e).size ≠ 0) (ht2 : (∃ e2, (tys t2).k = .slice e2) ∨ (tys t2).k = .str)
    {F ρ H nx w} (hs : St F ρ H nx w) {n m : Nat} {els xs : List (List V)} {b : Option Addr} {cap : Nat} {x : Value} {news : List Value}
    (hx : Src P w (tys e).size x m news) (hxr : Rs (ctx F ρ H w) (flat xs) news) (hxl : ∀ el ∈ xs, el.length = (tys e).size) (hxn : xs.length = m)
    (h63 : n + m ≤ maxLen) (hby : (n + m) * (tys e).bytes ≤ 140737488355328) (hen : els.length = n) (hel : ∀ el ∈ els, el.length = (tys e).size)
    (hb : (cap = 0 ∧ n = 0) ∨ ∃ g cur, 0 < cap ∧ b = some ⟨g, 0, none⟩ ∧ w.heap[g]? = some (.cells cur e (0, 0)) ∧ cur.size = cap * (tys e).size ∧ n ≤ cap ∧ cap ≤ maxLen ∧ Rs (ctx F ρ H w) (flat els) (cur.toList.take (n * (tys e).size))) :
    ∃ b' cap' w', (Builtin.append_ #[t, t2] ty #[.slice b n cap, x]).run P w = .ok (.slice b' (n + m) cap') w' ∧
      ((w' = w ∧ cap' = 0 ∧ n + m = 0) ∨
       (∃ g cur', 0 < cap ∧ b = some ⟨g, 0, none⟩ ∧ b' = b ∧ cap' = cap ∧ n + m ≤ cap ∧ w.heap[g]? ≠ none ∧ w' = w.setRow g cur' ∧ w'.heap[g]? = some (.cells cur' e (0, 0)) ∧ cur'.size = cap * (tys e).size ∧ ∀ c, Lasts (ctx F ρ H w) c → Rs c (flat (els ++ xs)) (cur'.toList.take ((n + m) * (tys e).size))) ∨
       (∃ cur', b' = some ⟨w.heap.size, 0, none⟩ ∧ n + m ≤ cap' ∧ cap' ≤ maxLen ∧ w' = w.drew.alloc (.cells cur' e) ∧ cur'.size = cap' * (tys e).size ∧ ∀ c, Lasts (ctx F ρ H w) c → Rs c (flat (els ++ xs)) (cur'.toList.take ((n + m) * (tys e).size)))) := by
  obtain ⟨i, hi, hisz, hiby, z, hz1, hz2, hz3, hz4, hz5⟩ := (hT e he).size
  have hut := sig_slice hT ht
  obtain ⟨d2, hd2, hk2⟩ := sig_under hT (t := t2) (by rcases ht2 with ⟨e2, h⟩ | h <;> rw [h] <;> simp)
  have hni : ∀ k, d2 ≠ .int k := by
    rintro k rfl
    rcases ht2 with ⟨e2, h⟩ | h <;> rw [h] at hk2 <;> simp [kdOk] at hk2
  have hx' : Src P w i.size x m news := by rw [hisz]; exact hx
  have hnl : news.length = m * (tys e).size := hx.count
  have hzs : z.cells.size = (tys e).size := hz5
  have grow : ∀ olds, (Builtin.firstCells i.size n (.slice b n cap)).run P w.drew = .ok olds.toArray w.drew → cap < n + m → Rs (ctx F ρ H w) (flat els) olds → olds.length = n * (tys e).size →
      ∃ b' cap' w', (Builtin.append_ #[t, t2] ty #[.slice b n cap, x]).run P w = .ok (.slice b' (n + m) cap') w' ∧
       (∃ cur', b' = some ⟨w.heap.size, 0, none⟩ ∧ n + m ≤ cap' ∧ cap' ≤ maxLen ∧ w' = w.drew.alloc (.cells cur' e) ∧ cur'.size = cap' * (tys e).size ∧ ∀ c, Lasts (ctx F ρ H w) c → Rs c (flat (els ++ xs)) (cur'.toList.take ((n + m) * (tys e).size))) := by
    intro olds ho hg hor hol
    have hr := append_grow (P := P) (ty := ty) hut hd2 hni hi hz1 hx' ho hg h63 (by rw [hiby]; exact hby)
    have hge := grownCap_ge w (n + m) cap e
    refine ⟨_, _, _, hr, _, rfl, hge, grownCap_le_maxLen w (n + m) cap e h63, rfl, ?_, fun c hl => ?_⟩
    · simp only [List.size_toArray, List.length_append, Array.length_toList, zeroCells_size, hzs, hol, hnl, ← Nat.add_mul]
      congr 1
      omega
    · rw [flat_append]
      have : (olds ++ news).length = (n + m) * (tys e).size := by rw [List.length_append, hol, hnl, Nat.add_mul]
      rw [List.take_append_of_le_length (by omega), ← this, List.take_length]
      exact (Rs.lasts hl _ _ hor).append (Rs.lasts hl _ _ hxr)
  rcases hb with ⟨rfl, rfl⟩ | ⟨g, cur, hpos, rfl, hg, hcs, hnc, hcm, hor⟩
  · have hels : els = [] := List.eq_nil_of_length_eq_zero hen
    subst hels
    by_cases hm : m = 0
    · subst hm
      exact ⟨b, 0, w, append_none (P := P) hut hd2 hni hi hx' (Nat.le_refl _), .inl ⟨rfl, rfl, rfl⟩⟩
    · obtain ⟨b', cap', w', h1, h2⟩ := grow [] (by cases b <;> simp [Builtin.firstCells, loadCells, loadCellsFrom]) (by omega) (by simp [flat, Rs]) (by simp)
      exact ⟨b', cap', w', h1, .inr (.inr h2)⟩
  · have hfl := flat_length hel
    rw [hen] at hfl
    have hnc2 : n * (tys e).size ≤ cur.size := by rw [hcs]; exact Nat.mul_le_mul_right _ hnc
    by_cases hroom : n + m ≤ cap
    · have hfit : n * i.size + news.length ≤ cur.size := by rw [hisz, hnl, hcs, ← Nat.add_mul]; exact Nat.mul_le_mul_right _ hroom
      have hr := append_room (P := P) (ty := ty) hut hd2 hni hi hg hx' hxr.ones hroom hfit
      refine ⟨_, _, _, hr, .inr (.inl ⟨g, _, hpos, rfl, rfl, rfl, hroom, by rw [hg]; simp, rfl, setRow_heap w g cur _ e _ hg, ?_, fun c hl => ?_⟩)⟩
      · rw [hisz] at hfit ⊢
        simp only [List.size_toArray, List.length_append, List.length_take, List.length_drop, Array.length_toList]
        omega
      · rw [flat_append, hisz]
        have hlt : (cur.toList.take (n * (tys e).size)).length = n * (tys e).size := by simp; omega
        have : (cur.toList.take (n * (tys e).size) ++ news).length = (n + m) * (tys e).size := by rw [List.length_append, hlt, hnl, Nat.add_mul]
        rw [List.take_append_of_le_length (by omega), ← this, List.take_length]
        exact (Rs.lasts hl _ _ hor).append (Rs.lasts hl _ _ hxr)
    · have holen : (cur.toList.take (n * (tys e).size)).length = n * (tys e).size := by simp; omega
      have hf := run_firstCells_some (P := P) w.drew i.size n ⟨g, 0, none⟩ n cap (cur.toList.take (n * (tys e).size)) (by rw [hisz]; exact holen) (fun j v hj => by
        rw [add_at, drew_cell, Nat.zero_add]
        rw [List.getElem?_take] at hj
        split at hj
        · simp only [World.cell?, hg]
          simpa using hj
        · cases hj)
      obtain ⟨b', cap', w', h1, h2⟩ := grow _ hf (by omega) hor holen
      exact ⟨b', cap', w', h1, .inr (.inr h2)⟩

end
end Go.L1
