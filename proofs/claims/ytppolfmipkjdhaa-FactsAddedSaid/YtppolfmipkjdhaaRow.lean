/- What is proved: the law almagestlaw9.FactsAdded answers true for every input that the row speaks of (each string and slice of what is read takes less than 2^47 bytes, by the form's own reach), and its argument reads afterwards as before. -/
import Derived.Test.YtppolfmipkjdhaaRows
import Derived.Test.YtppolfmipkjdhaaRd
import Derived.ProofKit
import Derived.SizedLaws
-- alias Try
namespace Go.Proofs.Ytppolfmipkjdhaa
open Go.ChangeShapes Go.WideShapes Go.ChangeAt Go.RowKit

theorem Try.own : ownKnob Try.prog.godebug = none := by kernel_rfl
theorem Try.laidOut : laidOutB Try.prog = true := by kernel_rfl

set_option maxRecDepth 100000 in
theorem factsAdded_lifted (os : Os) (started : os.Started) (H : Type) (enc : TypeId × Value → H) :
    ReturnsInHanded {} Try.checked os 3 .any (Rows.factsAddedSpec.pre6 enc Try.prog Try.f3 Rows.factsAddedRow.domain false) (Rows.factsAddedSpec.post enc Try.prog Try.f3 false true false false) := by
  refine returnsInHanded_of_change_sized (C := Try.checked) Try.own started (by kernel_rfl) Try.func3
    (ChangeSpec.witness6 (enc := enc) (C := Try.checked) false ⟨#[], #[.agg #[.slice none 0 0, .slice none 0 0, .slice none 0 0]], []⟩ 8 (by kernel_rfl) (by kernel_rfl) (by kernel_rfl) (by kernel_rfl)) ?_
  intro W base args ds gs before hval0 hW hcnd hwt _
  have hW' := hW
  obtain ⟨p, q, hA0, hV, rfl, hfz, hnd⟩ := hW
  have hA : DataW.TrodAll enc Try.prog W 0 (fun _ => true) true Try.f3.params.toList args.toList ds p := hA0
  rw [Try.params3] at hA
  obtain ⟨v0, d0, rfl, rfl, h0⟩ := trodAll_one hA
  obtain ⟨rfl, rfl⟩ := trodVars_none hV
  have hlt : ∀ x ∈ p, x.block < W.heap.size := fun x hx => hW'.lt x (List.mem_append.2 (.inl hx))
  -- what came in
  have hwt2 : ∀ x ∈ d0.weights Try.prog 26, x ≤ reachBytes := by
    have hw2 : (DataW.weightsEach Try.prog (Try.f3.params.toList ++ Rows.factsAddedSpec.plain.varTypes Try.prog) ([d0] ++ [])).all (· ≤ reachBytes) = true := hwt
    rw [Try.params3] at hw2
    intro x hx
    have := List.all_eq_true.1 hw2 x (by
      show x ∈ d0.weights Try.prog 26 ++ _
      exact List.mem_append.2 (.inl hx))
    exact of_decide_eq_true this
  have hst : L1.St (fun _ => False) (fun _ _ => none) [] 0 W := ⟨by simp, by simp, by simp, fun _ _ _ => rfl, by simp, fun _ h => h.elim⟩
  obtain ⟨fuel, h0f⟩ := h0
  obtain ⟨xs, hty, hRs⟩ := L1.trod_ty (c := L1.ctx (fun _ => False) (fun _ _ => none) [] W) (S := L1.Try.plainS) L1.Try.sig L1.Try.plainS_ok rfl (by rintro b (h | ⟨e, he, _⟩); exact h; cases he) fuel 26 _ _ _ (by decide) h0f hwt2
  obtain ⟨ak, rfl, hsz⟩ := L1.Try.ty_ak (by unfold reachBytes; omega) xs hty
  have hagg : ∃ vs, v0 = .agg vs := by
    have := hval0 0 26 v0 rfl rfl
    unfold Value.okWide at this
    have hu : Try.checked.prog.underlying 26 = _ := Try.underlying26
    rw [hu] at this
    obtain ⟨cs, hcs, _⟩ := this
    exact ⟨cs, hcs⟩
  obtain ⟨vs, rfl⟩ := hagg
  have hRs' : L1.Rs (L1.ctx (fun _ => False) (fun _ _ => none) [] W) ak.cells vs.toList := hRs
  refine ((L1.Try.c3 ak hsz 0).2 _ _ W [.agg vs] hst (by simp only [L1.Rt, L1.R]; exact ⟨_, _, rfl, ⟨_, rfl, hRs'⟩, rfl⟩)).mono ?_
  rintro e w' ⟨v', ρ', rfl, _, hev, hR⟩
  simp only [L1.R] at hR
  subst hR
  have hb : Below W.heap.size W w' := ⟨hev.os, hev.tape, hev.output, hev.size, fun b hb => hev.keep b hb (by rintro ⟨e', he', _⟩; cases he')⟩
  refine ⟨_, rfl, [d0], [], p ++ [], [], p ++ [], [], hW', ?_, ?_, rfl, hb.frame _, fun h => by cases h⟩
  · have hu : Try.checked.prog.underlying 4 = some .bool := Try.underlying4
    exact trodAll_mk1 ⟨1, by simp [DataW.trod, Value.cells, hu]⟩
  · exact ⟨p, [], Below.trod Try.laidOut (by kernel_rfl) (by decide +kernel) ⟨fuel, h0f⟩ hb hlt, rfl, rfl⟩

theorem factsAdded_holds : Rows.FactsAddedSaid :=
  OpenClaim.holds_of_wide 3 Try.f3 rfl rfl rfl rfl rfl rfl rfl ⟨rfl, rfl, rfl, rfl, rfl⟩ rfl rfl rfl rfl rfl (by kernel_rfl) Try.func3 (by kernel_rfl)
    (of_decide_eq_true (by kernel_rfl)) (by unfold Func.isWrapper; rw [if_neg (by decide +kernel)]; exact ⟨rfl, rfl⟩)
    (fun os started H enc _ => factsAdded_lifted os started H enc)
end Go.Proofs.Ytppolfmipkjdhaa
