import Derived.Test.YtppolfmipkjdhaaFj
import Derived.Shelf.SlIter.Nil
import Derived.Shelf.SortM.Plain
import Derived.Shelf.SortM.SortNone
import Derived.Ground.GgzProg
import Derived.Ground.SlgmProg
/-! Seat of almagestlaw9.FactsAdded: slices.Sorted(maps.Keys(m)), by the shelf. -/
-- alias Try
-- tys ty3 ty4 ty5 ty9 ty31 ty33 ty35 ty73 ty96
set_option linter.all false
set_option maxRecDepth 100000
namespace Go.Proofs
open Go.RowKit Go.Maps Go.Sort Go.Shelf
shelf_lay_g SlLaysZ.n7 Ggz 7 at Try 57 as Try.keysA
shelf_lay_g SlLaysZ.n6 Ggz 6 at Try 56 as Try.sortedA
shelf_lay_g SlLaysM.n6 Slgm 6 at Try 69 as Try.sortA
theorem Try.sortsA (m : Nat) : AnyZ.SortsIn Try.prog Try.sortedA_ren Fence.wide m :=
  ⟨fun blk off cap ss W hH hblk hsz => callsIn_wide.2 (AnyM.slices_Sort_string Try.sortA blk off cap ss W hH hblk hsz),
   fun p cap W => callsIn_wide.2 (AnyM.slices_Sort_string_none Try.sortA p cap W)⟩
end Go.Proofs
namespace Go.L1.Try
open Go.RowKit Go.Proofs Go.Maps Go.Sort

/-- From here on nothing is told of how many answers of the tape were drawn. -/
instance loose : Zero Prop := ⟨False⟩


theorem c57 (ns : List ByteArray) : C Try.prog 57 1 [.mp 0] [(0, 0, .map (mapN ns))] (.fn 70 [.ptr 1 0 0 0]) [(1, 0, .row 96 [[.mp 0]]), (0, 0, .map (mapN ns))] 2 := by
  refine ⟨Try.call57, fun F ρ w vs hs hr => ?_⟩
  simp only [Rt, R] at hr
  obtain ⟨v, vs', rfl, ⟨L, hL, rfl⟩, rfl⟩ := hr
  have h := callsIn_wide.1 (AnyZ.keys_in Try.keysA Fence.wide 5 trivial rfl (some L.blk) w)
  refine h.mono ?_
  rintro e w' ⟨rfl, rfl⟩
  have := hs.newRow (e := 96) (sz := 1) (cap := 1) (els := [[.mp 0]]) (cur := #[.map (some L.blk)]) (by omega) (by simp) (by simp) (by unfold maxLen; omega)
    (by simp) (by simp only [flat, List.append_nil, List.length_singleton, Nat.mul_one]; simp only [List.take_succ_cons, List.take_zero, Rs, R, One]; exact ⟨_, _, rfl, trivial, ⟨L, hL, rfl⟩, rfl⟩)
  refine ⟨_, _, rfl, this.1, this.2, ?_⟩
  simp only [R]
  refine ⟨_, rfl, ?_⟩
  simp only [Rs, R, One]
  exact ⟨_, _, rfl, trivial, ⟨⟨w.heap.size, 0, 1, 1, 96⟩, by simp [ctx, nset], by simp⟩, rfl⟩

theorem Evo.grow' {F ρ H nx w w'} (hs : St F ρ H nx w) (hb : Go.RowKit.Below w.heap.size w w') : Evo ρ H nx w ρ H nx w' ∧ St F ρ H nx w' := by
  have he : Evo ρ H nx w ρ H nx w' := ⟨hb.os, hb.tape, hb.output, (fun h => h.elim), hb.size, fun b hb' _ => hb.block b hb', fun _ h => .inl h, fun _ _ _ h => h, fun _ _ _ h => .inl h, fun e he => .inl ⟨e, he, rfl⟩, Nat.le_refl _⟩
  refine ⟨he, ?_⟩
  refine ⟨fun e hm => ?_, hs.ids, hs.apart, hs.fresh, hs.vers, fun b hb' => Nat.lt_of_lt_of_le (hs.fr b hb') hb.size⟩
  obtain ⟨L, hL, hF, hB⟩ := hs.rel e hm
  exact ⟨L, hL, fun hp => ⟨(hF hp).1, Nat.lt_of_lt_of_le (hF hp).2 hb.size⟩, BlkRel.lasts (c := ctx F ρ H w) (fun hp => hb.block _ (hF hp).2) he.lasts hB⟩

theorem Ents.keys {c : Ctx} : ∀ (ns : List ByteArray) (ms : List MapEntry), Ents c (mapN ns) ms → ms.map (·.key) = ns.map Value.string ∧ ∀ s ∈ ns, s.size ≤ maxLen
  | [], ms, h => by simp only [mapN, List.map_nil, Ents] at h; subst h; simp
  | s :: ns, ms, h => by
    simp only [mapN, List.map_cons, Ents] at h
    obtain ⟨m, ms', rfl, h1, _, h2⟩ := h
    simp only [R] at h1
    obtain ⟨i1, i2⟩ := Ents.keys ns ms' h2
    refine ⟨by simp only [List.map_cons, h1.1, i1], fun x hx => ?_⟩
    rcases List.mem_cons.1 hx with rfl | hx
    · exact h1.2
    · exact i2 x hx

def sortN (ns : List ByteArray) : List ByteArray := ((ns.map fun s => s.data.toList).mergeSort leB).map fun l => ⟨l.toArray⟩

def Rn : Value → Option (DataW Unit × List MemPlace) := fun _ => some (.nil, [])

theorem owns_of {c : Ctx} {L : Loc} {ns : List ByteArray} (hnd : ns.Nodup) (hl : ns.length ≤ maxLen) (h : BlkRel c L (.map (mapN ns))) :
    ∃ D : DataW Unit, c.w.ownsMap Try.prog 9 Rn L.blk ns.length D ∧ Maps.size D = ns.length ∧ (strKeys D).Perm (ns.map fun s => s.data.toList) := by
  obtain ⟨_, ents, clock, hb, he, h1, h2⟩ := h
  obtain ⟨k1, k2⟩ := Ents.keys ns _ he
  have hlen : ents.toList.length = ns.length := by have := congrArg List.length k1; simpa using this
  have hkey : ∀ x ∈ ents.toList, ∃ s ∈ ns, x.key = .string s := fun x hx => by
    have : x.key ∈ ents.toList.map (·.key) := List.mem_map.2 ⟨x, hx, rfl⟩
    rw [k1] at this
    obtain ⟨s, hs, e⟩ := List.mem_map.1 this
    exact ⟨s, hs, e.symm⟩
  have hrd : ∀ x ∈ ents.toList, ∀ s, x.key = Value.string s → s.size ≤ maxLen → Go.WideElems.rd Try.prog 9 Rn x = some (Lit.string s.data.toList, DataW.nil) := fun x hx s hs hm => by
    unfold Go.WideElems.rd Rn
    rw [hs, Go.WideMaps.keyOf_string_mk Try.underlying9 hm]
    rfl
  have hrg : ents.toList.map (Go.WideElems.rg Try.prog 9 Rn) = ns.map fun s => (Lit.string s.data.toList, DataW.nil) := by
    have : ∀ (ms : List MapEntry) (ks : List ByteArray), ms.map (·.key) = ks.map Value.string → (∀ x ∈ ms, ∀ s, x.key = Value.string s → s.size ≤ maxLen → Go.WideElems.rd Try.prog 9 Rn x = some (Lit.string s.data.toList, DataW.nil)) → (∀ s ∈ ks, s.size ≤ maxLen) →
        ms.map (Go.WideElems.rg Try.prog 9 Rn) = ks.map fun s => (Lit.string s.data.toList, DataW.nil) := by
      intro ms
      induction ms with
      | nil => intro ks h; cases ks <;> simp at h ⊢
      | cons m ms ih =>
        intro ks h hr hz
        cases ks with
        | nil => simp at h
        | cons s ks =>
          simp only [List.map_cons, List.cons.injEq] at h ⊢
          refine ⟨?_, ih ks h.2 (fun x hx => hr x (List.mem_cons_of_mem _ hx)) fun x hx => hz x (List.mem_cons_of_mem _ hx)⟩
          unfold Go.WideElems.rg
          rw [hr m List.mem_cons_self s h.1 (hz s List.mem_cons_self)]
          rfl
    exact this _ _ k1 hrd k2
  refine ⟨_, ⟨ents, clock, hb, ⟨?_, ⟨h1, h2, ?_⟩, fun x hx => ?_⟩, ?_, rfl⟩, ?_, ?_⟩
  · rw [← Array.length_toList]; omega
  · rw [k1]
    exact nodup_map_on _ (fun a _ b _ h => by simpa using h) hnd
  · obtain ⟨s, hs, e⟩ := hkey x hx
    exact ⟨_, hrd x hx s e (k2 s hs)⟩
  · rw [← Array.length_toList]; omega
  · rw [Maps.size_eq, (Go.WideShapes.sorted_perm _).length_eq, List.length_map, hlen]
  · show List.Perm (List.map _ _) _
    rw [hrg]
    refine ((Go.WideShapes.sorted_perm _).map _).trans ?_
    rw [List.map_map]
    exact List.Perm.refl _

theorem c56 (ns : List ByteArray) (hnd : ns.Nodup) (hlen : ns.length * 16 ≤ 140737488355328) :
    C Try.prog 56 2 [.fn 70 [.ptr 1 0 0 0]] [(1, 0, .row 96 [[.mp 0]]), (0, 0, .map (mapN ns))] (.dsl 1 ((sortN ns).map fun s => [.s s])) [(1, 0, .row 96 [[.mp 0]]), (0, 0, .map (mapN ns))] 2 := by
  refine ⟨Try.call56, fun F ρ w vs hs hr => ?_⟩
  simp only [Rt, R, Rs] at hr
  obtain ⟨v, vs', rfl, ⟨us, rfl, hu⟩, rfl⟩ := hr
  obtain ⟨p, us', hu1, _, ⟨L1, hL1, rfl⟩, hu2⟩ := hu
  obtain ⟨M1, hM1, _, hB1⟩ := hs.rel (1, 0, .row 96 [[.mp 0]]) (by simp)
  obtain rfl := Option.some.inj (hL1.symm.trans hM1)
  obtain ⟨L0, hL0, _, hB0⟩ := hs.rel (0, 0, .map (mapN ns)) (by simp)
  have hmx : ns.length ≤ maxLen := by unfold maxLen; omega
  obtain ⟨D, hD1, hD2, hD3⟩ := owns_of hnd hmx hB0
  obtain ⟨_, hbase, hsz, hle, _, hsh, hO⟩ := hB1
  have hcap : 0 < L1.cap := by simp at hle; omega
  simp only [OEls, OCells, R] at hO
  obtain ⟨_, ⟨⟨mv, hc1, _, L0', hL0', rfl⟩, _⟩, _⟩ := hO
  obtain rfl := Option.some.inj (hL0.symm.trans hL0')
  have hus : us = #[.pointer (some ⟨L1.blk, 0, none⟩)] := by
    apply Array.ext'
    rw [hu1, hu2, hbase]; simp
  subst hus
  rw [hbase] at hc1
  have hblk : L1.blk < w.heap.size := World.block_lt_of_cell? w ⟨L1.blk, 0, none⟩ hc1
  have hseq : SeqGives Fence.wide 2 Try.prog 70 #[.pointer (some ⟨L1.blk, 0, none⟩)] encStr (fun ss => ss.Perm (strKeys D)) (Maps.size D) w :=
    AnyZ.keys_gives (ρ := Try.keysA_ren) { Try.keysA with } Fence.wide _ trivial rfl (by omega) L1.blk L0.blk ns.length D w hblk hc1 hD1
  have cS := AnyZ.sorted_in Try.sortedA Fence.wide 5 trivial trivial trivial trivial rfl (by omega) (Try.sortsA _) (enters_of Try.func69 (by kernel_rfl) rfl) 70 #[.pointer (some ⟨L1.blk, 0, none⟩)] trivial (enters_of Try.func70 (by kernel_rfl) rfl) _ _ (by rw [hD2]; exact hmx) (by rw [hD2]; exact hlen) _ hseq
  change CallsIn _ _ Try.prog 56 _ _ _ at cS
  refine (callsIn_wide.1 cS).mono ?_
  rintro e w' ⟨v, ss, rfl, hS, hrow, hnil, hb⟩
  obtain ⟨he, hs'⟩ := Evo.grow' hs hb
  refine ⟨v, ρ, rfl, hs', he, ?_⟩
  have hms : ss.mergeSort (fun x y => decide (x ≤ y)) = (ns.map fun s => s.data.toList).mergeSort leB := mergeSort_of_perm (hS.trans hD3)
  rw [hms] at hrow
  have hsl : ss.length = ns.length := by rw [(hS.trans hD3).length_eq, List.length_map]
  have hls : (sortN ns).length = ns.length := by unfold sortN; rw [List.length_map, List.length_mergeSort, List.length_map]
  obtain ⟨hx1, hx2⟩ := hrow
  simp only [R, List.length_map, hls]
  rcases hx2 with ⟨rfl, hz⟩ | ⟨g, cap, cur, rfl, hg, hgb, hn, hcm, hcs, htk⟩
  · have : ns.length = 0 := by omega
    refine ⟨none, 0, by rw [this], by omega, by unfold maxLen; omega, .inl ?_⟩
    have h0 : (sortN ns).length = 0 := by omega
    rw [List.eq_nil_of_length_eq_zero h0]; rfl
  · refine ⟨some ⟨g, 0, none⟩, cap, by rw [hsl], by omega, hcm, .inr ⟨g, 0, rfl, ?_⟩⟩
    have hno : ¬ (ctx F ρ [(1, 0, .row 96 [[.mp 0]]), (0, 0, .map (mapN ns))] w').own g := fun ho => by
      have := he.lasts (F := F)
      rcases ho with ho | ⟨e, hm, L, hL, hp, hbk⟩
      · have := hs.fr g ho; omega
      · obtain ⟨L', hL', hF, _⟩ := hs.rel e hm
        obtain rfl := Option.some.inj (hL.symm.trans hL')
        have := (hF hp).2; omega
    refine Els.of_block (c := (ctx F ρ [(1, 0, .row 96 [[.mp 0]]), (0, 0, .map (mapN ns))] w').bare) (us := ((ns.map fun s => s.data.toList).mergeSort leB).map encStr) hno (by simp) ?_ fun j u hj => ?_
    · have hsz : ∀ l ∈ (ns.map fun s => s.data.toList).mergeSort leB, l.length ≤ maxLen := fun l hl => by
        rw [List.mem_mergeSort] at hl
        obtain ⟨s, hs1, rfl⟩ := List.mem_map.1 hl
        obtain ⟨_, ents, clock, _, hE, _⟩ := hB0
        have := (Ents.keys ns _ hE).2 s hs1
        rw [Array.length_toList]; exact this
      unfold sortN
      rw [List.map_map]
      revert hsz
      generalize (ns.map fun s => s.data.toList).mergeSort leB = ls
      intro hsz
      induction ls with
      | nil => simp [flat, Rs]
      | cons l ls ih =>
        simp only [List.map_cons, flat, Function.comp, List.cons_append, List.nil_append, Rs, R, One]
        refine ⟨_, _, rfl, trivial, ⟨rfl, ?_⟩, ih fun x hx => hsz x (List.mem_cons_of_mem _ hx)⟩
        have := hsz l List.mem_cons_self
        simpa [ByteArray.size] using this
    · rw [← htk] at hj
      rw [Nat.zero_add]
      simp only [Ctx.bare, ctx]
      rw [List.getElem?_take] at hj
      split at hj
      · simp only [World.cell?, hgb]
        simpa using hj
      · cases hj
end Go.L1.Try
