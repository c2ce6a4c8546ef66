/- Functions that the model stands in for: bits of a float64, square roots. Infinities and NaNs. -/
import Derived.Test.YtcpimcjmckljfaaNums
import Derived.Laws.Externs
import Derived.Test.YtcpimcjmckljfaaLogSpec
namespace Go.Proofs.Ytcpimcjmckljfaa
open Ieee Go.RowKit
theorem run_frombits (n : Int) (w : World) : (callFunc 110 #[.int .u64 n]).run Try.prog w = .ok (.value (.float .f64 n.toNat)) w := by
  rw [run_callFunc_extern (e := Extern.MathFloatBits.float64frombits) Try.func110 (by kernel_rfl) (by kernel_rfl) (by kernel_rfl) (by kernel_rfl)]
  rfl
set_option maxRecDepth 100000 in
theorem nan_any (w : World) : Calls Try.prog 95 #[] w fun e w' => e = .returned (.float .f64 9221120237041090561) ∧ w = w' := by
  have hf := run_frombits 9221120237041090561
  go_enter Try.func95, Try.ntmps95
  go_wp2
  go_ret
  exact ⟨rfl, rfl⟩
set_option maxRecDepth 100000 in
theorem ninf_any (w : World) : Calls Try.prog 94 #[.int .i64 (-1)] w fun e w' => e = .returned (.float .f64 18442240474082181120) ∧ w = w' := by
  have hf := run_frombits 18442240474082181120
  go_enter Try.func94, Try.ntmps94
  go_wp2
  go_ret
  exact ⟨rfl, rfl⟩
/-- a square root; some NaN where there is none -/
def sqC (x : Nat) : Nat := (FloatKind.f64.format.sqrt x).getD (qnan .f64)
theorem sqC_nan {x : Nat} (h : nanF .f64 x = true) : nanF .f64 (sqC x) = true := by
  obtain ⟨s, t, hd⟩ := read_nan h
  unfold sqC Format.sqrt
  rw [show FloatKind.f64.format.read x = .nan s t from hd]
  exact qnan_nan .f64
theorem sqC_sim {x y : Nat} (h : Sim .f64 x y) : Sim .f64 (sqC x) (sqC y) := by
  rcases h with rfl | ⟨h1, h2⟩
  · exact .refl _ _
  · exact .inr ⟨sqC_nan h1, sqC_nan h2⟩
theorem run_sqrt (x : Nat) : (∀ w, (callFunc 111 #[.float .f64 x]).run Try.prog w = .ok (.value (.float .f64 (sqC x))) w) ∨ (∃ f : World → Nat, ∀ w, (callFunc 111 #[.float .f64 x]).run Try.prog w = .ok (.value (.float .f64 (f w))) w.drew ∧ Sim .f64 (f w) (sqC x)) := by
  have key : ∀ w, (callFunc 111 #[.float .f64 x]).run Try.prog w = ((Extern.MathSqrt.sqrt #[.float .f64 x]).run Try.prog w).andThen fun v w' => .ok (.value v) w' := fun w => run_callFunc_extern (e := Extern.MathSqrt.sqrt) Try.func111 (by kernel_rfl) (by kernel_rfl) (by kernel_rfl) (by kernel_rfl) _ _
  have hent : ∀ w, (Extern.MathSqrt.sqrt #[.float .f64 x]).run Try.prog w = (match FloatKind.f64.format.sqrt x with | some r => (pure (Value.float .f64 r) : Sem Value) | none => do pure (.float .f64 (← choose (.nanBits .f64 x x)))).run Try.prog w := fun _ => rfl
  cases h : FloatKind.f64.format.sqrt x with
  | some r =>
    left
    intro w
    rw [key, hent, h]
    show _ = Result.ok (Next.value (Value.float .f64 (sqC x))) w
    unfold sqC
    rw [h]
    rfl
  | none =>
    right
    refine ⟨fun w => (Question.nanBits .f64 x x).cut (w.tape w.drawn (.nanBits .f64 x x)), fun w => ⟨?_, .inr ⟨nan_bits64 x x _, ?_⟩⟩⟩
    · rw [key, hent, h]
      simp [Question.forced]
    · unfold sqC
      rw [h]
      exact qnan_nan .f64
set_option maxHeartbeats 400000 in
theorem mathSqrt_any (x c : Nat) (w : World) (h : Sim .f64 x c) : Calls Try.prog 99 #[.float .f64 x] w fun e w' => (∃ r, e = .returned (.float .f64 r) ∧ Sim .f64 r (sqC c)) ∧ ∃ m, w' = w.drewN m := by
  have HS := Lib.hid (sqC_sim h); clear h
  rcases run_sqrt x with hr | ⟨f, hf⟩
  · go_enter Try.func99, Try.ntmps99
    go_wp2
    go_ret
    exact ⟨⟨_, rfl, HS.out⟩, 0, rfl⟩
  · have hr := fun w => (hf w).1
    have H2 := Lib.hid (fun w => (hf w).2)
    clear hf
    go_enter Try.func99, Try.ntmps99
    go_wp2
    go_ret
    exact ⟨⟨_, rfl, (H2.out _).trans HS.out⟩, 1, rfl⟩
theorem rootFrom_sq (n : Nat) : ∀ (todo root : Nat), root * root ≤ n → Datum.rootFrom n todo root * Datum.rootFrom n todo root ≤ n := by
  intro todo
  induction todo with
  | zero => intro root h; exact h
  | succ t ih =>
    intro root h
    unfold Datum.rootFrom
    dsimp only
    split
    · rename_i h2; exact ih _ h2
    · exact ih _ h
theorem fits_root {d : Datum} {E : Int} (g : Nat) (h : Fits d E) {r : Datum} (hr : d.root g = some r) : Fits r (E / 2 + 2) := by
  obtain ⟨s, m, i, rfl, h⟩ := h
  unfold Datum.root at hr
  dsimp only at hr
  by_cases hm : m = 0
  · rw [if_pos hm] at hr
    injection hr with hr
    exact ⟨s, m, i, hr.symm, .inl hm⟩
  · rw [if_neg hm] at hr
    cases s
    · rw [if_neg (by decide)] at hr
      injection hr with hr
      obtain ⟨more, hmore⟩ : ∃ more, more = 2 * g - m.log2 + ((i - ((2 * g - m.log2 : Nat) : Int)) % 2).toNat := ⟨_, rfl⟩
      rw [← hmore] at hr
      obtain ⟨whole, hw⟩ : ∃ whole, whole = Datum.rootFrom (m <<< more) ((m <<< more).log2 / 2 + 1) 0 := ⟨_, rfl⟩
      have hsq := rootFrom_sq (m <<< more) ((m <<< more).log2 / 2 + 1) 0 (Nat.zero_le _)
      rw [← hw] at hr hsq
      refine ⟨_, _, _, hr.symm, ?_⟩
      have hs : ∀ b : Bool, b.toNat ≤ 1 := fun b => by cases b <;> simp
      have hb := hs (whole * whole != m <<< more)
      by_cases h0 : 2 * whole + (whole * whole != m <<< more).toNat = 0
      · exact .inl h0
      · right
        have h1 := h.resolve_left hm
        have hlog : (2 * whole + (whole * whole != m <<< more).toNat).log2 < (m.log2 + more) / 2 + 2 := by
          rw [Nat.log2_lt h0]
          have hwl : whole < 2 ^ ((m.log2 + more) / 2 + 1) := by
            apply Classical.byContradiction
            intro hn
            have hn2 : 2 ^ ((m.log2 + more) / 2 + 1) ≤ whole := by omega
            have h3 : 2 ^ ((m.log2 + more) / 2 + 1) * 2 ^ ((m.log2 + more) / 2 + 1) ≤ whole * whole := Nat.mul_le_mul hn2 hn2
            rw [← Nat.pow_add] at h3
            have h4 : m <<< more < 2 ^ (m.log2 + 1 + more) := by
              rw [Nat.shiftLeft_eq, Nat.pow_add]
              exact Nat.mul_lt_mul_of_pos_right lt_pow (Nat.two_pow_pos _)
            have h5 : 2 ^ (m.log2 + 1 + more) ≤ 2 ^ ((m.log2 + more) / 2 + 1 + ((m.log2 + more) / 2 + 1)) := Nat.pow_le_pow_right (by omega) (by omega)
            omega
          rw [Nat.pow_succ]
          omega
        omega
    · rw [if_pos rfl] at hr
      cases hr
/-- the square root of a float32 -/
def rootC (x : Nat) : Nat := nar (sqC (wid x))
theorem rootC_sim {x y : Nat} (h : Sim .f32 x y) : Sim .f32 (rootC x) (rootC y) := nar_sim (sqC_sim (wid_sim h))
theorem inf_wid {x : Nat} {s : Bool} (h : FloatKind.f32.format.read x = .infinity s) : FloatKind.f64.format.read (wid x) = .infinity s := by
  have : floatToFloatBits .f32 x .f64 = some (FloatKind.f64.encode (.infinity s)) := by
    unfold floatToFloatBits
    rw [if_neg (by decide), show FloatKind.f32.decode x = .infinity s from h]
  unfold wid
  rw [this]
  exact inf_read .f64 s
theorem fits_wid {x : Nat} {E : Int} (h : Fits (FloatKind.f32.format.read x) E) (hE : E ≤ 127) : Fits (FloatKind.f64.format.read (wid x)) 129 := by
  have hn := (fits_nan h).1
  have h1 := (wid_num (x := x) hn).1
  have h2 := fits_enc .f64 (fits_mono h (show E ≤ 128 by omega)) (by decide) (by decide)
  obtain ⟨s, m, p, he, _⟩ := h
  unfold floatToFloatBits at h1
  rw [if_neg (by decide), show FloatKind.f32.decode x = .number s m p from he] at h1
  rw [he] at h2
  dsimp only at h1
  split at h1
  · cases h1
  · rw [← Option.some.inj h1]
    exact h2
theorem inf_nar {r : Nat} {s : Bool} (h : FloatKind.f64.format.read r = .infinity s) : Nar r ∧ FloatKind.f32.format.read (nar r) = .infinity s := by
  have : floatToFloatBits .f64 r .f32 = some (FloatKind.f32.encode (.infinity s)) := by
    unfold floatToFloatBits
    rw [if_neg (by decide), show FloatKind.f64.decode r = .infinity s from h]
  refine ⟨.inr ⟨_, this⟩, ?_⟩
  unfold nar
  rw [this]
  exact inf_read .f32 s
theorem root_nar (x : Nat) : Nar (sqC (wid x)) := by
  rcases read_cases .f32 x with h | ⟨s, h⟩ | h
  · exact .inl (sqC_nan (wid_nan h))
  · have hw := inf_wid h
    cases s
    · have : sqC (wid x) = FloatKind.f64.format.write (.infinity false) := by unfold sqC Format.sqrt; rw [hw]; rfl
      exact (inf_nar (s := false) (by rw [this]; exact inf_read .f64 false)).1
    · left
      have : sqC (wid x) = qnan .f64 := by unfold sqC Format.sqrt; rw [hw]; rfl
      rw [this]
      exact qnan_nan .f64
  · have hw := fits_wid h (by decide)
    cases hr : (FloatKind.f64.format.read (wid x)).root (FloatKind.f64.format.fractionBits + 2) with
    | none =>
      left
      have : sqC (wid x) = qnan .f64 := by unfold sqC Format.sqrt; rw [hr]; rfl
      rw [this]
      exact qnan_nan .f64
    | some d =>
      have hd : Fits d 66 := fits_root _ hw hr
      have : sqC (wid x) = FloatKind.f64.format.write d := by unfold sqC Format.sqrt; rw [hr]; rfl
      rw [this]
      exact (fits_nar (fits_enc .f64 hd (by decide) (by decide)) (by decide)).1
end Go.Proofs.Ytcpimcjmckljfaa
