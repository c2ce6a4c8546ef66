/- The statement of FnExactMiddleOf: for every input the law answers true and leaves its arguments as they were. -/
import Derived.Test.YtbefcfdmaafghaaLawMiddleOf
import Derived.Test.YtbefcfdmaafghaaOpens
import Derived.Test.YtbefcfdmaafghaaOnce
namespace Go.Proofs.Ytbefcfdmaafghaa
open Go.ChangeShapes Go.WideShapes Go.ChangeAt Go.RowKit

theorem Try.readableFnExactMiddleOf : ∀ t ∈ ([24] : List TypeId), Try.prog.readableRec t = true ∧ t < Try.prog.types.size := by
  intro t ht
  simp only [List.mem_cons, List.not_mem_nil, or_false] at ht
  rcases ht with rfl
  all_goals exact ⟨by kernel_rfl, of_decide_eq_true (by kernel_rfl)⟩

set_option maxRecDepth 100000 in
theorem fnExactMiddleOf_lifted (os : Os) (started : os.Started) (H : Type) (enc : TypeId × Value → H) :
    ReturnsInHanded {} Try.checked os 18 .any (Rows.fnExactMiddleOfSpec.pre6 enc Try.prog Try.f18 Rows.fnExactMiddleOfRow.domain false) (Rows.fnExactMiddleOfSpec.post enc Try.prog Try.f18 false true false false) := by
  refine returnsInHanded_of_change (C := Try.checked) Try.own started (by kernel_rfl) Try.func18
    (ChangeSpec.witness6 (enc := enc) (C := Try.checked) false ⟨#[], #[.agg #[.int .i64 0, .int .i64 0, .slice none 0 0]], []⟩ 8 (by kernel_rfl) (by kernel_rfl) (by kernel_rfl) (by kernel_rfl)) ?_
  intro W base args ds gs before hval0 hW _ _
  have hval : ∀ (j : Nat) t v, Try.f18.params[j]? = some t → args[j]? = some v → Value.okWide Try.prog W .any base t v := hval0
  have hW' := hW
  obtain ⟨p, q, hA0, hV, rfl, _, _⟩ := hW
  have hA : DataW.TrodAll enc Try.prog W 0 (fun _ => true) true Try.f18.params.toList args.toList ds p := hA0
  rw [Try.params18] at hA hval
  have hAk := hA
  obtain ⟨v0, vs0, d0, ds0, p0, q0, hargs, rfl, rfl, h0, r0⟩ := trodAll_cons hA
  obtain ⟨rfl, rfl, rfl⟩ := trodAll_nil r0
  obtain rfl : args = #[v0] := by rw [← Array.toArray_toList (xs := args), hargs]
  obtain ⟨rfl, rfl⟩ := trodVars_none hV
  clear hA0 hval0 hargs
  simp only [List.append_nil] at hW' hAk
  have hlt := fun x hx => hW'.lt x hx
  obtain ⟨wd0, hg0, A0, n0, c0, bs0, rfl, bw0, bh0, hn0, hm0, hr0⟩ := open_field (hval 0 24 v0 rfl rfl) h0
  refine (lawMiddleOf wd0 hg0 A0 n0 c0 bs0 W hn0 hm0 hr0).mono fun e W' ⟨he, hb⟩ => ?_
  subst he
  refine ⟨_, rfl, _, _, _, [], _, [], hW', trodAll_mk1 (shut_bool Try.underlying4 true), trodAll_below _ Try.readableFnExactMiddleOf hAk hb (fun x hx => by simpa using hlt x hx), rfl, hb.frame _, fun h => by cases h⟩

set_option maxRecDepth 100000 in
set_option maxHeartbeats 0 in
theorem fnExactMiddleOf_closed : joinedFacts Try.prog 18 Try.f18 Rows.fnExactMiddleOfSpec Rows.fnExactMiddleOfRow = true := by
  simp only [joinedFacts, Bool.and_eq_true]
  repeat' apply And.intro
  · as_aux_lemma => kernel_rfl
  · exact Once.laid
  · exact Once.maps
  · as_aux_lemma => kernel_rfl
  · as_aux_lemma => kernel_rfl
  · as_aux_lemma => kernel_rfl
  · exact Once.stops
  · as_aux_lemma => kernel_rfl
  · exact Once.knobs
  · as_aux_lemma => kernel_rfl
  · as_aux_lemma => kernel_rfl
  · as_aux_lemma => kernel_rfl
  · as_aux_lemma => kernel_rfl
  · as_aux_lemma => kernel_rfl
  · as_aux_lemma => kernel_rfl
  · as_aux_lemma => kernel_rfl
  · as_aux_lemma => kernel_rfl
  · as_aux_lemma => kernel_rfl
  · as_aux_lemma => kernel_rfl
  · as_aux_lemma => kernel_rfl
  · as_aux_lemma => kernel_rfl
  · as_aux_lemma => kernel_rfl
  · exact Once.keys
  · as_aux_lemma => kernel_rfl
  · exact Once.heard
  · exact Once.enter
  · exact Once.lifts
  · exact Once.make_
  · as_aux_lemma => kernel_rfl
  · as_aux_lemma => kernel_rfl
  · as_aux_lemma => kernel_rfl
  · as_aux_lemma => kernel_rfl
theorem fnExactMiddleOf_named : Try.prog.funcNamed Rows.fnExactMiddleOfRow.func = some 18 := by kernel_rfl
theorem fnExactMiddleOf_inst : Try.f18.isInstance Try.prog Rows.fnExactMiddleOfRow.origin Rows.fnExactMiddleOfRow.targs := of_decide_eq_true (by kernel_rfl)
theorem fnExactMiddleOf_wrap : Try.f18.isWrapper Try.prog Rows.fnExactMiddleOfRow.wrapper Rows.fnExactMiddleOfRow.mainSum := by
  unfold Func.isWrapper; first | (rw [if_pos (by decide +kernel)]; kernel_rfl) | (rw [if_neg (by decide +kernel)]; exact ⟨rfl, rfl⟩)
theorem fnExactMiddleOf_holds : Rows.FnExactMiddleOfSaid :=
  OpenClaim.holds_of_wide 18 Try.f18 rfl rfl rfl rfl rfl rfl rfl ⟨rfl, rfl, rfl, rfl, rfl⟩ rfl rfl rfl rfl rfl fnExactMiddleOf_named Try.func18 fnExactMiddleOf_closed fnExactMiddleOf_inst fnExactMiddleOf_wrap
    (fun os started H enc _ => fnExactMiddleOf_lifted os started H enc)
#print axioms fnExactMiddleOf_holds
end Go.Proofs.Ytbefcfdmaafghaa
