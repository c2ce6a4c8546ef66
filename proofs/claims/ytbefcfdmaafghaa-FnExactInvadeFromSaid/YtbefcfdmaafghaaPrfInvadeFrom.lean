/- The statement of FnExactInvadeFrom: for every input the law answers true and leaves its arguments as they were. -/
import Derived.Test.YtbefcfdmaafghaaLawInvadeFrom
import Derived.Test.YtbefcfdmaafghaaOpens3
import Derived.Test.YtbefcfdmaafghaaOnce
namespace Go.Proofs.Ytbefcfdmaafghaa
open Go.ChangeShapes Go.WideShapes Go.ChangeAt Go.RowKit

theorem Try.readableFnExactInvadeFrom : ∀ t ∈ ([72, 2, 2, 2, 2] : List TypeId), Try.prog.readableRec t = true ∧ t < Try.prog.types.size := by
  intro t ht
  simp only [List.mem_cons, List.not_mem_nil, or_false] at ht
  rcases ht with rfl | rfl | rfl | rfl | rfl
  all_goals exact ⟨by kernel_rfl, of_decide_eq_true (by kernel_rfl)⟩

set_option maxRecDepth 100000 in
theorem fnExactInvadeFrom_lifted (os : Os) (started : os.Started) (H : Type) (enc : TypeId × Value → H) :
    ReturnsInHanded {} Try.checked os 14 .any (Rows.fnExactInvadeFromSpec.pre6 enc Try.prog Try.f14 Rows.fnExactInvadeFromRow.domain false) (Rows.fnExactInvadeFromSpec.post enc Try.prog Try.f14 false true false false) := by
  refine returnsInHanded_of_change (C := Try.checked) Try.own started (by kernel_rfl) Try.func14
    (ChangeSpec.witness6 (enc := enc) (C := Try.checked) false ⟨#[], #[.slice none 0 0, .int .i64 0, .int .i64 0, .int .i64 0, .int .i64 0], []⟩ 8 (by kernel_rfl) (by kernel_rfl) (by kernel_rfl) (by kernel_rfl)) ?_
  intro W base args ds gs before hval0 hW _ _
  have hval : ∀ (j : Nat) t v, Try.f14.params[j]? = some t → args[j]? = some v → Value.okWide Try.prog W .any base t v := hval0
  have hW' := hW
  obtain ⟨p, q, hA0, hV, rfl, _, _⟩ := hW
  have hA : DataW.TrodAll enc Try.prog W 0 (fun _ => true) true Try.f14.params.toList args.toList ds p := hA0
  rw [Try.params14] at hA hval
  have hAk := hA
  obtain ⟨v0, vs0, d0, ds0, p0, q0, hargs, rfl, rfl, h0, r0⟩ := trodAll_cons hA
  obtain ⟨v1, vs1, d1, ds1, p1, q1, rfl, rfl, rfl, h1, r1⟩ := trodAll_cons r0
  obtain ⟨v2, vs2, d2, ds2, p2, q2, rfl, rfl, rfl, h2, r2⟩ := trodAll_cons r1
  obtain ⟨v3, vs3, d3, ds3, p3, q3, rfl, rfl, rfl, h3, r3⟩ := trodAll_cons r2
  obtain ⟨v4, vs4, d4, ds4, p4, q4, rfl, rfl, rfl, h4, r4⟩ := trodAll_cons r3
  obtain ⟨rfl, rfl, rfl⟩ := trodAll_nil r4
  obtain rfl : args = #[v0, v1, v2, v3, v4] := by rw [← Array.toArray_toList (xs := args), hargs]
  obtain ⟨rfl, rfl⟩ := trodVars_none hV
  clear hA0 hval0 hargs
  simp only [List.append_nil] at hW' hAk
  have hlt := fun x hx => hW'.lt x hx
  obtain ⟨a0, l0, k0, rfl⟩ := okWide_slice Try.underlying72 (hval 0 72 v0 rfl rfl)
  obtain ⟨fu0, hf0⟩ := h0
  obtain ⟨A0, n0, c0, xs0, e0, hn0, hm0, hr0, hw0⟩ := open_f32S hf0
  simp [Value.cells] at e0
  obtain ⟨rfl, rfl, rfl⟩ := e0
  obtain ⟨z1, rfl, _, _, wz1⟩ := open_int Try.underlying2 (hval 1 2 v1 rfl rfl) h1
  obtain ⟨z2, rfl, _, _, wz2⟩ := open_int Try.underlying2 (hval 2 2 v2 rfl rfl) h2
  obtain ⟨z3, rfl, _, _, wz3⟩ := open_int Try.underlying2 (hval 3 2 v3 rfl rfl) h3
  obtain ⟨z4, rfl, _, _, wz4⟩ := open_int Try.underlying2 (hval 4 2 v4 rfl rfl) h4
  refine (lawInvadeFrom z1 z2 z3 z4 a0 l0 k0 xs0 W hn0 hm0 hr0).mono fun e W' ⟨he, hb⟩ => ?_
  subst he
  refine ⟨_, rfl, _, _, _, [], _, [], hW', trodAll_mk1 (shut_bool Try.underlying4 true), trodAll_below _ Try.readableFnExactInvadeFrom hAk hb (fun x hx => by simpa using hlt x hx), rfl, hb.frame _, fun h => by cases h⟩

set_option maxRecDepth 100000 in
set_option maxHeartbeats 0 in
theorem fnExactInvadeFrom_closed : joinedFacts Try.prog 14 Try.f14 Rows.fnExactInvadeFromSpec Rows.fnExactInvadeFromRow = true := by
  simp only [joinedFacts, Bool.and_eq_true]
  repeat' apply And.intro
  · as_aux_lemma => kernel_rfl
  · exact Once.laid
  · exact Once.maps
  · as_aux_lemma => kernel_rfl
  · as_aux_lemma => kernel_rfl
  · as_aux_lemma => kernel_rfl
  · exact Once.stops
  · as_aux_lemma => kernel_rfl
  · exact Once.knobs
  · as_aux_lemma => kernel_rfl
  · as_aux_lemma => kernel_rfl
  · as_aux_lemma => kernel_rfl
  · as_aux_lemma => kernel_rfl
  · as_aux_lemma => kernel_rfl
  · as_aux_lemma => kernel_rfl
  · as_aux_lemma => kernel_rfl
  · as_aux_lemma => kernel_rfl
  · as_aux_lemma => kernel_rfl
  · as_aux_lemma => kernel_rfl
  · as_aux_lemma => kernel_rfl
  · as_aux_lemma => kernel_rfl
  · as_aux_lemma => kernel_rfl
  · exact Once.keys
  · as_aux_lemma => kernel_rfl
  · exact Once.heard
  · exact Once.enter
  · exact Once.lifts
  · exact Once.make_
  · as_aux_lemma => kernel_rfl
  · as_aux_lemma => kernel_rfl
  · as_aux_lemma => kernel_rfl
  · as_aux_lemma => kernel_rfl
theorem fnExactInvadeFrom_named : Try.prog.funcNamed Rows.fnExactInvadeFromRow.func = some 14 := by kernel_rfl
theorem fnExactInvadeFrom_inst : Try.f14.isInstance Try.prog Rows.fnExactInvadeFromRow.origin Rows.fnExactInvadeFromRow.targs := of_decide_eq_true (by kernel_rfl)
theorem fnExactInvadeFrom_wrap : Try.f14.isWrapper Try.prog Rows.fnExactInvadeFromRow.wrapper Rows.fnExactInvadeFromRow.mainSum := by
  unfold Func.isWrapper; first | (rw [if_pos (by decide +kernel)]; kernel_rfl) | (rw [if_neg (by decide +kernel)]; exact ⟨rfl, rfl⟩)
theorem fnExactInvadeFrom_holds : Rows.FnExactInvadeFromSaid :=
  OpenClaim.holds_of_wide 14 Try.f14 rfl rfl rfl rfl rfl rfl rfl ⟨rfl, rfl, rfl, rfl, rfl⟩ rfl rfl rfl rfl rfl fnExactInvadeFrom_named Try.func14 fnExactInvadeFrom_closed fnExactInvadeFrom_inst fnExactInvadeFrom_wrap
    (fun os started H enc _ => fnExactInvadeFrom_lifted os started H enc)
#print axioms fnExactInvadeFrom_holds
end Go.Proofs.Ytbefcfdmaafghaa
