/- Square roots, both ways. -/
import Derived.Test.YtbefcfdmaafghaaMid
namespace Go.Proofs.Ytbefcfdmaafghaa
open Ieee Go.RowKit
theorem Try.und43 : Try.prog.underlying 43 = some (.float .f32) := by kernel_rfl
theorem Try.und88 : Try.prog.underlying 88 = some (.float .f64) := by kernel_rfl
theorem run_sqrt (x : Nat) : (∀ w, (callFunc 147 #[.float .f64 x]).run Try.prog w = .ok (.value (.float .f64 (sqC x))) w) ∨ (∃ f : World → Nat, ∀ w, (callFunc 147 #[.float .f64 x]).run Try.prog w = .ok (.value (.float .f64 (f w))) w.drew ∧ Sim .f64 (f w) (sqC x)) := by
  have key : ∀ w, (callFunc 147 #[.float .f64 x]).run Try.prog w = ((Extern.MathSqrt.sqrt #[.float .f64 x]).run Try.prog w).andThen fun v w' => .ok (.value v) w' := fun w => run_callFunc_extern (e := Extern.MathSqrt.sqrt) Try.func147 (by kernel_rfl) (by kernel_rfl) (by kernel_rfl) (by kernel_rfl) _ _
  have hent : ∀ w, (Extern.MathSqrt.sqrt #[.float .f64 x]).run Try.prog w = (match FloatKind.f64.format.sqrt x with | some r => (pure (Value.float .f64 r) : Sem Value) | none => do pure (.float .f64 (← choose (.nanBits .f64 x x)))).run Try.prog w := fun _ => rfl
  cases h : FloatKind.f64.format.sqrt x with
  | some r =>
    left
    intro w
    rw [key, hent, h]
    show _ = Result.ok (Next.value (Value.float .f64 (sqC x))) w
    unfold sqC
    rw [h]
    rfl
  | none =>
    right
    refine ⟨fun w => (Question.nanBits .f64 x x).cut (w.tape w.drawn (.nanBits .f64 x x)), fun w => ⟨?_, .inr ⟨nan_bits64 x x _, ?_⟩⟩⟩
    · rw [key, hent, h]
      simp [Question.forced]
    · unfold sqC
      rw [h]
      exact qnan_nan .f64
set_option maxHeartbeats 400000 in
theorem mathSqrt_any (x c : Nat) (w : World) (h : Sim .f64 x c) : Calls Try.prog 137 #[.float .f64 x] w fun e w' => (∃ r, e = .returned (.float .f64 r) ∧ Sim .f64 r (sqC c)) ∧ ∃ m, w' = w.drewN m := by
  have HS := Lib.hid (sqC_sim h); clear h
  rcases run_sqrt x with hr | ⟨f, hf⟩
  · go_enter Try.func137, Try.ntmps137
    go_wp2
    go_ret
    exact ⟨⟨_, rfl, HS.out⟩, 0, rfl⟩
  · have hr := fun w => (hf w).1
    have H2 := Lib.hid (fun w => (hf w).2)
    clear hf
    go_enter Try.func137, Try.ntmps137
    go_wp2
    go_ret
    exact ⟨⟨_, rfl, (H2.out _).trans HS.out⟩, 1, rfl⟩
set_option maxRecDepth 100000 in
theorem narrow_any (x c : Nat) (w : World) (hn : Nar c) (h : Sim .f64 x c) : Calls Try.prog 135 #[.float .f64 x] w fun e w' => (∃ r, e = .returned (.float .f32 r) ∧ Sim .f32 r (nar c)) ∧ ∃ m, w' = w.drewN m := by
  have HR := Lib.hid (fun W => run_nar (P := Try.prog) W 88 43 (by rw [Try.und88]; rfl) Try.und43 x (hn.sim h))
  have HS := Lib.hid (nar_sim h); clear hn h
  go_enter Try.func135, Try.ntmps135
  go_wp2_with (refine wpList_conv rfl 88 43 (.tmp 3) rfl .f64 .f32 _ _ rfl (HR.out _) ?_; intro r1 m1 h1)
  go_ret
  exact ⟨⟨_, rfl, h1.trans HS.out⟩, _, by first | rfl | exact World.drewN_drewN ..⟩
set_option maxRecDepth 100000 in
theorem rootNumber_any (x c : Nat) (w : World) (h : Sim .f32 x c) : Calls Try.prog 120 #[.float .f32 x] w fun e w' => (∃ r, e = .returned (.float .f32 r) ∧ Sim .f32 r (rootC c)) ∧ ∃ m, w' = w.drewN m := by
  have HW := Lib.hid (fun W => run_wid (P := Try.prog) W 43 88 (by rw [Try.und43]; rfl) Try.und88 x)
  have HQ := Lib.hid (fun (y : Nat) (W : World) (hy : Sim .f64 y (wid x)) => mathSqrt_any y (wid c) W (hy.trans (wid_sim h)))
  have HN := Lib.hid (fun (y : Nat) (W : World) (hy : Sim .f64 y (sqC (wid c))) => run_nar (P := Try.prog) W 88 43 (by rw [Try.und88]; rfl) Try.und43 y ((root_nar c).sim hy))
  clear h
  go_enter Try.func120, Try.ntmps120
  go_wp2_with (refine wpList_conv rfl 43 88 (.tmp 3) rfl .f32 .f64 _ _ rfl (HW.out _) ?_; intro r1 m1 h1)
  refine (HQ.out _ _ h1).mono ?_
  rintro e w' ⟨⟨r, rfl, hr⟩, m, rfl⟩
  go_wp2_with (refine wpList_conv rfl 88 43 (.tmp 5) rfl .f64 .f32 _ _ rfl (HN.out _ _ hr) ?_; intro r2 m2 h2)
  go_ret
  exact ⟨⟨_, rfl, h2.trans (nar_sim hr)⟩, _, by first | rfl | (simp only [World.drewN_drewN]; rfl)⟩
set_option maxRecDepth 100000 in
theorem l01Sqrt_any (x c : Nat) (w : World) (h : Sim .f32 x c) : Calls Try.prog 115 #[.float .f32 x] w fun e w' => (∃ r, e = .returned (.float .f32 r) ∧ Sim .f32 r (rootC c)) ∧ ∃ m, w' = w.drewN m := by
  have HW := Lib.hid (fun W => run_wid (P := Try.prog) W 43 88 (by rw [Try.und43]; rfl) Try.und88 x)
  have HQ := Lib.hid (fun (y : Nat) (W : World) (hy : Sim .f64 y (wid x)) => mathSqrt_any y (wid c) W (hy.trans (wid_sim h)))
  have HN := Lib.hid (fun (y : Nat) (W : World) (hy : Sim .f64 y (sqC (wid c))) => narrow_any y (sqC (wid c)) W (root_nar c) hy)
  clear h
  go_enter Try.func115, Try.ntmps115
  go_wp2_with (refine wpList_conv rfl 43 88 (.tmp 3) rfl .f32 .f64 _ _ rfl (HW.out _) ?_; intro r1 m1 h1)
  refine (HQ.out _ _ h1).mono ?_
  rintro e w' ⟨⟨r, rfl, hr⟩, m, rfl⟩
  go_wp2_with fail
  refine (HN.out _ _ hr).mono ?_
  rintro e w' ⟨⟨r2, rfl, hr2⟩, m2, rfl⟩
  go_wp2
  go_ret
  exact ⟨⟨_, rfl, hr2⟩, _, by first | rfl | (simp only [World.drewN_drewN]; rfl)⟩
end Go.Proofs.Ytbefcfdmaafghaa
