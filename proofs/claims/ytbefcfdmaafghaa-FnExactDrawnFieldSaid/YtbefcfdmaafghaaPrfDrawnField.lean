/- The statement of FnExactDrawnField: for every input the law answers true and leaves its arguments as they were. -/
import Derived.Test.YtbefcfdmaafghaaLawDrawnField
import Derived.Test.YtbefcfdmaafghaaOpens
import Derived.Test.YtbefcfdmaafghaaOnce
namespace Go.Proofs.Ytbefcfdmaafghaa
open Go.ChangeShapes Go.WideShapes Go.ChangeAt Go.RowKit

theorem Try.readableFnExactDrawnField : ∀ t ∈ ([2, 2, 43, 2] : List TypeId), Try.prog.readableRec t = true ∧ t < Try.prog.types.size := by
  intro t ht
  simp only [List.mem_cons, List.not_mem_nil, or_false] at ht
  rcases ht with rfl | rfl | rfl | rfl
  all_goals exact ⟨by kernel_rfl, of_decide_eq_true (by kernel_rfl)⟩

set_option maxRecDepth 100000 in
theorem fnExactDrawnField_lifted (os : Os) (started : os.Started) (H : Type) (enc : TypeId × Value → H) :
    ReturnsInHanded {} Try.checked os 8 .any (Rows.fnExactDrawnFieldSpec.pre6 enc Try.prog Try.f8 Rows.fnExactDrawnFieldRow.domain false) (Rows.fnExactDrawnFieldSpec.post enc Try.prog Try.f8 false true false false) := by
  refine returnsInHanded_of_change (C := Try.checked) Try.own started (by kernel_rfl) Try.func8
    (ChangeSpec.witness6 (enc := enc) (C := Try.checked) false ⟨#[], #[.int .i64 0, .int .i64 0, .float .f32 0, .int .i64 0], []⟩ 8 (by kernel_rfl) (by kernel_rfl) (by kernel_rfl) (by kernel_rfl)) ?_
  intro W base args ds gs before hval0 hW _ _
  have hval : ∀ (j : Nat) t v, Try.f8.params[j]? = some t → args[j]? = some v → Value.okWide Try.prog W .any base t v := hval0
  have hW' := hW
  obtain ⟨p, q, hA0, hV, rfl, _, _⟩ := hW
  have hA : DataW.TrodAll enc Try.prog W 0 (fun _ => true) true Try.f8.params.toList args.toList ds p := hA0
  rw [Try.params8] at hA hval
  have hAk := hA
  obtain ⟨v0, vs0, d0, ds0, p0, q0, hargs, rfl, rfl, h0, r0⟩ := trodAll_cons hA
  obtain ⟨v1, vs1, d1, ds1, p1, q1, rfl, rfl, rfl, h1, r1⟩ := trodAll_cons r0
  obtain ⟨v2, vs2, d2, ds2, p2, q2, rfl, rfl, rfl, h2, r2⟩ := trodAll_cons r1
  obtain ⟨v3, vs3, d3, ds3, p3, q3, rfl, rfl, rfl, h3, r3⟩ := trodAll_cons r2
  obtain ⟨rfl, rfl, rfl⟩ := trodAll_nil r3
  obtain rfl : args = #[v0, v1, v2, v3] := by rw [← Array.toArray_toList (xs := args), hargs]
  obtain ⟨rfl, rfl⟩ := trodVars_none hV
  clear hA0 hval0 hargs
  simp only [List.append_nil] at hW' hAk
  have hlt := fun x hx => hW'.lt x hx
  obtain ⟨z0, rfl, _, _, wz0⟩ := open_int Try.underlying2 (hval 0 2 v0 rfl rfl) h0
  obtain ⟨z1, rfl, _, _, wz1⟩ := open_int Try.underlying2 (hval 1 2 v1 rfl rfl) h1
  obtain ⟨x2, rfl, _, _, wx2⟩ := open_float Try.underlying43 (hval 2 43 v2 rfl rfl) h2
  obtain ⟨z3, rfl, _, _, wz3⟩ := open_int Try.underlying2 (hval 3 2 v3 rfl rfl) h3
  refine (lawDrawnField z0 z1 x2 z3 W).mono fun e W' ⟨he, hb⟩ => ?_
  subst he
  refine ⟨_, rfl, _, _, _, [], _, [], hW', trodAll_mk1 (shut_bool Try.underlying4 true), trodAll_below _ Try.readableFnExactDrawnField hAk hb (fun x hx => by simpa using hlt x hx), rfl, hb.frame _, fun h => by cases h⟩

set_option maxRecDepth 100000 in
set_option maxHeartbeats 0 in
theorem fnExactDrawnField_closed : joinedFacts Try.prog 8 Try.f8 Rows.fnExactDrawnFieldSpec Rows.fnExactDrawnFieldRow = true := by
  simp only [joinedFacts, Bool.and_eq_true]
  repeat' apply And.intro
  · as_aux_lemma => kernel_rfl
  · exact Once.laid
  · exact Once.maps
  · as_aux_lemma => kernel_rfl
  · as_aux_lemma => kernel_rfl
  · as_aux_lemma => kernel_rfl
  · exact Once.stops
  · as_aux_lemma => kernel_rfl
  · exact Once.knobs
  · as_aux_lemma => kernel_rfl
  · as_aux_lemma => kernel_rfl
  · as_aux_lemma => kernel_rfl
  · as_aux_lemma => kernel_rfl
  · as_aux_lemma => kernel_rfl
  · as_aux_lemma => kernel_rfl
  · as_aux_lemma => kernel_rfl
  · as_aux_lemma => kernel_rfl
  · as_aux_lemma => kernel_rfl
  · as_aux_lemma => kernel_rfl
  · as_aux_lemma => kernel_rfl
  · as_aux_lemma => kernel_rfl
  · as_aux_lemma => kernel_rfl
  · exact Once.keys
  · as_aux_lemma => kernel_rfl
  · exact Once.heard
  · exact Once.enter
  · exact Once.lifts
  · exact Once.make_
  · as_aux_lemma => kernel_rfl
  · as_aux_lemma => kernel_rfl
  · as_aux_lemma => kernel_rfl
  · as_aux_lemma => kernel_rfl
theorem fnExactDrawnField_named : Try.prog.funcNamed Rows.fnExactDrawnFieldRow.func = some 8 := by kernel_rfl
theorem fnExactDrawnField_inst : Try.f8.isInstance Try.prog Rows.fnExactDrawnFieldRow.origin Rows.fnExactDrawnFieldRow.targs := of_decide_eq_true (by kernel_rfl)
theorem fnExactDrawnField_wrap : Try.f8.isWrapper Try.prog Rows.fnExactDrawnFieldRow.wrapper Rows.fnExactDrawnFieldRow.mainSum := by
  unfold Func.isWrapper; first | (rw [if_pos (by decide +kernel)]; kernel_rfl) | (rw [if_neg (by decide +kernel)]; exact ⟨rfl, rfl⟩)
theorem fnExactDrawnField_holds : Rows.FnExactDrawnFieldSaid :=
  OpenClaim.holds_of_wide 8 Try.f8 rfl rfl rfl rfl rfl rfl rfl ⟨rfl, rfl, rfl, rfl, rfl⟩ rfl rfl rfl rfl rfl fnExactDrawnField_named Try.func8 fnExactDrawnField_closed fnExactDrawnField_inst fnExactDrawnField_wrap
    (fun os started H enc _ => fnExactDrawnField_lifted os started H enc)
#print axioms fnExactDrawnField_holds
end Go.Proofs.Ytbefcfdmaafghaa
