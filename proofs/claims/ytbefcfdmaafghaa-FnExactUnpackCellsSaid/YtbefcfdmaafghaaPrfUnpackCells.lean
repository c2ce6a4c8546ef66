/- The statement of FnExactUnpackCells: for every input the law answers true and leaves its arguments as they were. -/
import Derived.Test.YtbefcfdmaafghaaLawUnpackCells
import Derived.Test.YtbefcfdmaafghaaOpens
import Derived.Test.YtbefcfdmaafghaaOnce
namespace Go.Proofs.Ytbefcfdmaafghaa
open Go.ChangeShapes Go.WideShapes Go.ChangeAt Go.RowKit

theorem Try.readableFnExactUnpackCells : ∀ t ∈ ([9] : List TypeId), Try.prog.readableRec t = true ∧ t < Try.prog.types.size := by
  intro t ht
  simp only [List.mem_cons, List.not_mem_nil, or_false] at ht
  rcases ht with rfl
  all_goals exact ⟨by kernel_rfl, of_decide_eq_true (by kernel_rfl)⟩

set_option maxRecDepth 100000 in
theorem fnExactUnpackCells_lifted (os : Os) (started : os.Started) (H : Type) (enc : TypeId × Value → H) :
    ReturnsInHanded {} Try.checked os 11 .any (Rows.fnExactUnpackCellsSpec.pre6 enc Try.prog Try.f11 Rows.fnExactUnpackCellsRow.domain false) (Rows.fnExactUnpackCellsSpec.post enc Try.prog Try.f11 false true false false) := by
  refine returnsInHanded_of_change (C := Try.checked) Try.own started (by kernel_rfl) Try.func11
    (ChangeSpec.witness6 (enc := enc) (C := Try.checked) false ⟨#[], #[.string ByteArray.empty], []⟩ 8 (by kernel_rfl) (by kernel_rfl) (by kernel_rfl) (by kernel_rfl)) ?_
  intro W base args ds gs before hval0 hW _ _
  have hval : ∀ (j : Nat) t v, Try.f11.params[j]? = some t → args[j]? = some v → Value.okWide Try.prog W .any base t v := hval0
  have hW' := hW
  obtain ⟨p, q, hA0, hV, rfl, _, _⟩ := hW
  have hA : DataW.TrodAll enc Try.prog W 0 (fun _ => true) true Try.f11.params.toList args.toList ds p := hA0
  rw [Try.params11] at hA hval
  have hAk := hA
  obtain ⟨v0, vs0, d0, ds0, p0, q0, hargs, rfl, rfl, h0, r0⟩ := trodAll_cons hA
  obtain ⟨rfl, rfl, rfl⟩ := trodAll_nil r0
  obtain rfl : args = #[v0] := by rw [← Array.toArray_toList (xs := args), hargs]
  obtain ⟨rfl, rfl⟩ := trodVars_none hV
  clear hA0 hval0 hargs
  simp only [List.append_nil] at hW' hAk
  have hlt := fun x hx => hW'.lt x hx
  obtain ⟨s0, rfl⟩ := okWide_string Try.underlying9 (hval 0 9 v0 rfl rfl)
  obtain ⟨fu0, hf0⟩ := h0
  obtain ⟨t0, e0, _, hs0⟩ := DataW.trod_string Try.underlying9 hf0
  simp [Value.cells] at e0
  rw [← e0] at hs0
  unfold maxLen at hs0
  refine (lawUnpackCells s0 W hs0).mono fun e W' ⟨he, hb⟩ => ?_
  subst he
  refine ⟨_, rfl, _, _, _, [], _, [], hW', trodAll_mk1 (shut_bool Try.underlying4 true), trodAll_below _ Try.readableFnExactUnpackCells hAk hb (fun x hx => by simpa using hlt x hx), rfl, hb.frame _, fun h => by cases h⟩

set_option maxRecDepth 100000 in
set_option maxHeartbeats 0 in
theorem fnExactUnpackCells_closed : joinedFacts Try.prog 11 Try.f11 Rows.fnExactUnpackCellsSpec Rows.fnExactUnpackCellsRow = true := by
  simp only [joinedFacts, Bool.and_eq_true]
  repeat' apply And.intro
  · as_aux_lemma => kernel_rfl
  · exact Once.laid
  · exact Once.maps
  · as_aux_lemma => kernel_rfl
  · as_aux_lemma => kernel_rfl
  · as_aux_lemma => kernel_rfl
  · exact Once.stops
  · as_aux_lemma => kernel_rfl
  · exact Once.knobs
  · as_aux_lemma => kernel_rfl
  · as_aux_lemma => kernel_rfl
  · as_aux_lemma => kernel_rfl
  · as_aux_lemma => kernel_rfl
  · as_aux_lemma => kernel_rfl
  · as_aux_lemma => kernel_rfl
  · as_aux_lemma => kernel_rfl
  · as_aux_lemma => kernel_rfl
  · as_aux_lemma => kernel_rfl
  · as_aux_lemma => kernel_rfl
  · as_aux_lemma => kernel_rfl
  · as_aux_lemma => kernel_rfl
  · as_aux_lemma => kernel_rfl
  · exact Once.keys
  · as_aux_lemma => kernel_rfl
  · exact Once.heard
  · exact Once.enter
  · exact Once.lifts
  · exact Once.make_
  · as_aux_lemma => kernel_rfl
  · as_aux_lemma => kernel_rfl
  · as_aux_lemma => kernel_rfl
  · as_aux_lemma => kernel_rfl
theorem fnExactUnpackCells_named : Try.prog.funcNamed Rows.fnExactUnpackCellsRow.func = some 11 := by kernel_rfl
theorem fnExactUnpackCells_inst : Try.f11.isInstance Try.prog Rows.fnExactUnpackCellsRow.origin Rows.fnExactUnpackCellsRow.targs := of_decide_eq_true (by kernel_rfl)
theorem fnExactUnpackCells_wrap : Try.f11.isWrapper Try.prog Rows.fnExactUnpackCellsRow.wrapper Rows.fnExactUnpackCellsRow.mainSum := by
  unfold Func.isWrapper; first | (rw [if_pos (by decide +kernel)]; kernel_rfl) | (rw [if_neg (by decide +kernel)]; exact ⟨rfl, rfl⟩)
theorem fnExactUnpackCells_holds : Rows.FnExactUnpackCellsSaid :=
  OpenClaim.holds_of_wide 11 Try.f11 rfl rfl rfl rfl rfl rfl rfl ⟨rfl, rfl, rfl, rfl, rfl⟩ rfl rfl rfl rfl rfl fnExactUnpackCells_named Try.func11 fnExactUnpackCells_closed fnExactUnpackCells_inst fnExactUnpackCells_wrap
    (fun os started H enc _ => fnExactUnpackCells_lifted os started H enc)
#print axioms fnExactUnpackCells_holds
end Go.Proofs.Ytbefcfdmaafghaa
