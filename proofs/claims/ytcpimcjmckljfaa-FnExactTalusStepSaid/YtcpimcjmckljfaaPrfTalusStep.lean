/- The statement of FnExactTalusStep: for every input the law answers true and leaves its arguments as they were. -/
import Derived.Test.YtcpimcjmckljfaaLawTalusStep
import Derived.Test.YtcpimcjmckljfaaOpensT
import Derived.Test.YtcpimcjmckljfaaOnce
namespace Go.Proofs.Ytcpimcjmckljfaa
open Go.ChangeShapes Go.WideShapes Go.ChangeAt Go.RowKit

theorem Try.readableFnExactTalusStep : ∀ t ∈ ([39, 23, 23] : List TypeId), Try.prog.readableRec t = true ∧ t < Try.prog.types.size := by
  intro t ht
  simp only [List.mem_cons, List.not_mem_nil, or_false] at ht
  rcases ht with rfl | rfl | rfl
  all_goals exact ⟨by kernel_rfl, of_decide_eq_true (by kernel_rfl)⟩

set_option maxRecDepth 100000 in
theorem fnExactTalusStep_lifted (os : Os) (started : os.Started) (H : Type) (enc : TypeId × Value → H) :
    ReturnsInHanded {} Try.checked os 5 .any (Rows.fnExactTalusStepSpec.pre6 enc Try.prog Try.f5 Rows.fnExactTalusStepRow.domain false) (Rows.fnExactTalusStepSpec.post enc Try.prog Try.f5 false true false false) := by
  refine returnsInHanded_of_change (C := Try.checked) Try.own started (by kernel_rfl) Try.func5
    (ChangeSpec.witness6 (enc := enc) (C := Try.checked) false ⟨#[], #[.agg #[.int .i64 0, .int .i64 0, .slice none 0 0], .float .f32 0, .float .f32 0], []⟩ 8 (by kernel_rfl) (by kernel_rfl) (by kernel_rfl) (by kernel_rfl)) ?_
  intro W base args ds gs before hval0 hW _ _
  have hval : ∀ (j : Nat) t v, Try.f5.params[j]? = some t → args[j]? = some v → Value.okWide Try.prog W .any base t v := hval0
  have hW' := hW
  obtain ⟨p, q, hA0, hV, rfl, _, _⟩ := hW
  have hA : DataW.TrodAll enc Try.prog W 0 (fun _ => true) true Try.f5.params.toList args.toList ds p := hA0
  rw [Try.params5] at hA hval
  have hAk := hA
  obtain ⟨v0, vs0, d0, ds0, p0, q0, hargs, rfl, rfl, h0, r0⟩ := trodAll_cons hA
  obtain ⟨v1, vs1, d1, ds1, p1, q1, rfl, rfl, rfl, h1, r1⟩ := trodAll_cons r0
  obtain ⟨v2, vs2, d2, ds2, p2, q2, rfl, rfl, rfl, h2, r2⟩ := trodAll_cons r1
  obtain ⟨rfl, rfl, rfl⟩ := trodAll_nil r2
  obtain rfl : args = #[v0, v1, v2] := by rw [← Array.toArray_toList (xs := args), hargs]
  obtain ⟨rfl, rfl⟩ := trodVars_none hV
  clear hA0 hval0 hargs
  simp only [List.append_nil] at hW' hAk
  have hlt := fun x hx => hW'.lt x hx
  obtain ⟨wd0, hg0, A0, n0, c0, xs0, rfl, bw0, bh0, hn0, hm0, hr0⟩ := open_sheet (hval 0 39 v0 rfl rfl) h0
  obtain ⟨x1, rfl, _, _, wx1⟩ := open_float Try.underlying23 (hval 1 23 v1 rfl rfl) h1
  obtain ⟨x2, rfl, _, _, wx2⟩ := open_float Try.underlying23 (hval 2 23 v2 rfl rfl) h2
  refine (lawTalusStep wd0 hg0 A0 n0 c0 x1 x2 xs0 W hn0 hm0 hr0).mono fun e W' ⟨he, hb⟩ => ?_
  subst he
  refine ⟨_, rfl, _, _, _, [], _, [], hW', trodAll_mk1 (shut_bool Try.underlying4 true), trodAll_below _ Try.readableFnExactTalusStep hAk hb (fun x hx => by simpa using hlt x hx), rfl, hb.frame _, fun h => by cases h⟩

set_option maxRecDepth 100000 in
set_option maxHeartbeats 0 in
theorem fnExactTalusStep_closed : joinedFacts Try.prog 5 Try.f5 Rows.fnExactTalusStepSpec Rows.fnExactTalusStepRow = true := by
  simp only [joinedFacts, Bool.and_eq_true]
  repeat' apply And.intro
  · as_aux_lemma => kernel_rfl
  · exact Once.laid
  · exact Once.maps
  · as_aux_lemma => kernel_rfl
  · as_aux_lemma => kernel_rfl
  · as_aux_lemma => kernel_rfl
  · exact Once.stops
  · as_aux_lemma => kernel_rfl
  · exact Once.knobs
  · as_aux_lemma => kernel_rfl
  · as_aux_lemma => kernel_rfl
  · as_aux_lemma => kernel_rfl
  · as_aux_lemma => kernel_rfl
  · as_aux_lemma => kernel_rfl
  · as_aux_lemma => kernel_rfl
  · as_aux_lemma => kernel_rfl
  · as_aux_lemma => kernel_rfl
  · as_aux_lemma => kernel_rfl
  · as_aux_lemma => kernel_rfl
  · as_aux_lemma => kernel_rfl
  · as_aux_lemma => kernel_rfl
  · as_aux_lemma => kernel_rfl
  · exact Once.keys
  · as_aux_lemma => kernel_rfl
  · exact Once.heard
  · exact Once.enter
  · exact Once.lifts
  · exact Once.make_
  · as_aux_lemma => kernel_rfl
  · as_aux_lemma => kernel_rfl
  · as_aux_lemma => kernel_rfl
  · as_aux_lemma => kernel_rfl
theorem fnExactTalusStep_named : Try.prog.funcNamed Rows.fnExactTalusStepRow.func = some 5 := by kernel_rfl
theorem fnExactTalusStep_inst : Try.f5.isInstance Try.prog Rows.fnExactTalusStepRow.origin Rows.fnExactTalusStepRow.targs := of_decide_eq_true (by kernel_rfl)
theorem fnExactTalusStep_wrap : Try.f5.isWrapper Try.prog Rows.fnExactTalusStepRow.wrapper Rows.fnExactTalusStepRow.mainSum := by
  unfold Func.isWrapper; first | (rw [if_pos (by decide +kernel)]; kernel_rfl) | (rw [if_neg (by decide +kernel)]; exact ⟨rfl, rfl⟩)
theorem fnExactTalusStep_holds : Rows.FnExactTalusStepSaid :=
  OpenClaim.holds_of_wide 5 Try.f5 rfl rfl rfl rfl rfl rfl rfl ⟨rfl, rfl, rfl, rfl, rfl⟩ rfl rfl rfl rfl rfl fnExactTalusStep_named Try.func5 fnExactTalusStep_closed fnExactTalusStep_inst fnExactTalusStep_wrap
    (fun os started H enc _ => fnExactTalusStep_lifted os started H enc)
#print axioms fnExactTalusStep_holds
end Go.Proofs.Ytcpimcjmckljfaa
