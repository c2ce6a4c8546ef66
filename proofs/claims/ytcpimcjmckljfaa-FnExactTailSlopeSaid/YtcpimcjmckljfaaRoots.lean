/- Square roots and logarithms of float32s, both ways. -/
import Derived.Test.YtcpimcjmckljfaaExt
namespace Go.Proofs.Ytcpimcjmckljfaa
open Ieee Go.RowKit
theorem Try.und23 : Try.prog.underlying 23 = some (.float .f32) := by kernel_rfl
theorem Try.und28 : Try.prog.underlying 28 = some (.float .f64) := by kernel_rfl
set_option maxRecDepth 100000 in
theorem narrow_any (x c : Nat) (w : World) (hn : Nar c) (h : Sim .f64 x c) : Calls Try.prog 92 #[.float .f64 x] w fun e w' => (∃ r, e = .returned (.float .f32 r) ∧ Sim .f32 r (nar c)) ∧ ∃ m, w' = w.drewN m := by
  have HR := Lib.hid (fun W => run_nar (P := Try.prog) W 28 23 (by rw [Try.und28]; rfl) Try.und23 x (hn.sim h))
  have HS := Lib.hid (nar_sim h); clear hn h
  go_enter Try.func92, Try.ntmps92
  go_wp2_with (refine wpList_conv rfl 28 23 (.tmp 3) rfl .f64 .f32 _ _ rfl (HR.out _) ?_; intro r1 m1 h1)
  go_ret
  exact ⟨⟨_, rfl, h1.trans HS.out⟩, _, by first | rfl | exact World.drewN_drewN ..⟩
set_option maxRecDepth 100000 in
theorem rootNumber_any (x c : Nat) (w : World) (h : Sim .f32 x c) : Calls Try.prog 69 #[.float .f32 x] w fun e w' => (∃ r, e = .returned (.float .f32 r) ∧ Sim .f32 r (rootC c)) ∧ ∃ m, w' = w.drewN m := by
  have HW := Lib.hid (fun W => run_wid (P := Try.prog) W 23 28 (by rw [Try.und23]; rfl) Try.und28 x)
  have HQ := Lib.hid (fun (y : Nat) (W : World) (hy : Sim .f64 y (wid x)) => mathSqrt_any y (wid c) W (hy.trans (wid_sim h)))
  have HN := Lib.hid (fun (y : Nat) (W : World) (hy : Sim .f64 y (sqC (wid c))) => run_nar (P := Try.prog) W 28 23 (by rw [Try.und28]; rfl) Try.und23 y ((root_nar c).sim hy))
  clear h
  go_enter Try.func69, Try.ntmps69
  go_wp2_with (refine wpList_conv rfl 23 28 (.tmp 3) rfl .f32 .f64 _ _ rfl (HW.out _) ?_; intro r1 m1 h1)
  refine (HQ.out _ _ h1).mono ?_
  rintro e w' ⟨⟨r, rfl, hr⟩, m, rfl⟩
  go_wp2_with (refine wpList_conv rfl 28 23 (.tmp 5) rfl .f64 .f32 _ _ rfl (HN.out _ _ hr) ?_; intro r2 m2 h2)
  go_ret
  exact ⟨⟨_, rfl, h2.trans (nar_sim hr)⟩, _, by first | rfl | (simp only [World.drewN_drewN]; rfl)⟩
set_option maxRecDepth 100000 in
theorem l01Sqrt_any (x c : Nat) (w : World) (h : Sim .f32 x c) : Calls Try.prog 67 #[.float .f32 x] w fun e w' => (∃ r, e = .returned (.float .f32 r) ∧ Sim .f32 r (rootC c)) ∧ ∃ m, w' = w.drewN m := by
  have HW := Lib.hid (fun W => run_wid (P := Try.prog) W 23 28 (by rw [Try.und23]; rfl) Try.und28 x)
  have HQ := Lib.hid (fun (y : Nat) (W : World) (hy : Sim .f64 y (wid x)) => mathSqrt_any y (wid c) W (hy.trans (wid_sim h)))
  have HN := Lib.hid (fun (y : Nat) (W : World) (hy : Sim .f64 y (sqC (wid c))) => narrow_any y (sqC (wid c)) W (root_nar c) hy)
  clear h
  go_enter Try.func67, Try.ntmps67
  go_wp2_with (refine wpList_conv rfl 23 28 (.tmp 3) rfl .f32 .f64 _ _ rfl (HW.out _) ?_; intro r1 m1 h1)
  refine (HQ.out _ _ h1).mono ?_
  rintro e w' ⟨⟨r, rfl, hr⟩, m, rfl⟩
  go_wp2_with fail
  refine (HN.out _ _ hr).mono ?_
  rintro e w' ⟨⟨r2, rfl, hr2⟩, m2, rfl⟩
  go_wp2
  go_ret
  exact ⟨⟨_, rfl, hr2⟩, _, by first | rfl | (simp only [World.drewN_drewN]; rfl)⟩
theorem order_num (k : FloatKind) {x : Nat} {s : Bool} {m : Nat} {p : Int} (hr : k.format.read x = .number s m p) (h : k.format.order x 0 = some .gt) : s = false ∧ m ≠ 0 := by
  obtain ⟨q, h0⟩ : ∃ q, k.format.read 0 = .number false 0 q := by cases k <;> exact ⟨_, rfl⟩
  unfold Format.order at h
  rw [hr, h0] at h
  unfold Datum.order at h
  dsimp only at h
  injection h with h
  rw [Int.compare_eq_gt] at h
  have hz : signed false 0 (q - min p q).toNat = 0 := by unfold signed; simp
  rw [hz] at h
  unfold signed at h
  cases s
  · refine ⟨rfl, ?_⟩
    rintro rfl
    simp at h
  · rw [if_pos rfl] at h
    have := Int.natCast_nonneg (m <<< (p - min p q).toNat)
    omega
theorem pos_of {x : Nat} (hf : finB x = true) (h : FloatKind.f32.format.order x 0 = some .gt) : Pos x := by
  have hn := fin_num hf
  rcases read_cases .f32 x with h1 | ⟨s, h1⟩ | ⟨s, m, p, h1, _⟩
  · unfold nanF at hn; rw [h1] at hn; cases hn
  · exfalso
    have : floatBits .sub .f32 x x = none := by
      unfold floatBits
      show Option.map _ _ = none
      rw [h1]
      cases s <;> rfl
    rw [finB_none this] at hf
    cases hf
  · obtain ⟨rfl, hm⟩ := order_num .f32 h1 h
    exact ⟨m, p, h1, hm⟩
/-- the logarithm of a positive float32 -/
def logC (x : Nat) : Nat := nar (logW (wid x))
theorem logW_fits (b : Nat) (h : 870 * bin ≤ b ∧ b < 1152 * bin) : Fits (FloatKind.f64.format.read (logW b)) 85 := by
  unfold logW
  have hm : 0 ≤ ((b : Int) - (c075 : Int)) % (bin : Int) ∧ ((b : Int) - (c075 : Int)) % (bin : Int) < bin := ⟨Int.emod_nonneg _ (by decide), Int.emod_lt_of_pos _ (by decide)⟩
  have hd := Int.emod_add_mul_ediv ((b : Int) - (c075 : Int)) (bin : Int)
  refine logR_fits ?_ ?_ ?_ ?_
  · unfold logT; omega
  · unfold logT; unfold bin c075 c15 at *; omega
  · unfold logE; unfold bin c075 at *; omega
  · unfold logE; unfold bin c075 at *; omega
theorem logC_pos {x : Nat} (h : Pos x) : floatToFloatBits .f64 (logW (wid x)) .f32 = some (logC x) ∧ nanF .f32 (logC x) = false := by
  obtain ⟨h1, h2, _⟩ := pos_range h
  have hf := logW_fits _ ⟨h1, h2⟩
  obtain ⟨hn, h4⟩ := fits_nar hf (by decide)
  refine ⟨?_, h4⟩
  rcases hn with hn | ⟨r, hr⟩
  · rw [fits_num hf] at hn; cases hn
  · unfold logC nar
    rw [hr]; rfl
set_option maxHeartbeats 400000 in
set_option maxRecDepth 100000 in
theorem logNumber_any (x : Nat) (w : World) (hf : finB x = true) (ho : FloatKind.f32.format.order x 0 = some .gt) : Calls Try.prog 55 #[.float .f32 x] w fun e w' => e = .returned (.float .f32 (logC x)) ∧ ∃ m, w' = w.drewN m := by
  have hp := pos_of hf ho
  have hr := pos_range hp
  have hself : FloatKind.f32.format.order x x = some .eq := order_self (fin_num hf)
  have hw := fun (w : World) => run_convert_float_float (P := Try.prog) w 23 28 .f32 .f64 x _ (by rw [Try.und23]; rfl) Try.und28 hr.2.2
  have hn := fun (w : World) => run_convert_float_float (P := Try.prog) w 28 23 .f64 .f32 (logW (wid x)) _ (by rw [Try.und28]; rfl) Try.und23 (logC_pos hp).1
  have HL := Lib.hid (fun W => naturalLog_any (wid x) W ⟨hr.1, hr.2.1⟩)
  have c63 := fun W => isFinite_any x W
  rw [hf] at c63
  have HC := Lib.hid c63
  clear c63 hp hr hf
  go_enter Try.func55, Try.ntmps55
  go_wp2_with fail
  refine (HC.out _).mono ?_
  rintro e w' ⟨rfl, m, rfl⟩
  go_wp2_with fail
  refine (HL.out _).mono ?_
  rintro e w' ⟨rfl, m2, rfl⟩
  go_wp2
  go_ret
  exact ⟨rfl, _, by first | rfl | (simp only [World.drewN_drewN]; rfl)⟩
set_option maxHeartbeats 400000 in
set_option maxRecDepth 100000 in
theorem l01Log_any (x : Nat) (w : World) (hf : finB x = true) (ho : FloatKind.f32.format.order x 0 = some .gt) : Calls Try.prog 53 #[.float .f32 x] w fun e w' => e = .returned (.float .f32 (logC x)) ∧ ∃ m, w' = w.drewN m := by
  have hp := pos_of hf ho
  have hr := pos_range hp
  have hw := fun (w : World) => run_convert_float_float (P := Try.prog) w 23 28 .f32 .f64 x _ (by rw [Try.und23]; rfl) Try.und28 hr.2.2
  have hl := logC_pos hp
  have HL := Lib.hid (fun W => l01LogWide_any (wid x) W ⟨hr.1, hr.2.1⟩)
  have hnar : Nar (logW (wid x)) := .inr ⟨_, hl.1⟩
  have HN := Lib.hid (fun W => narrow_any (logW (wid x)) (logW (wid x)) W hnar (.refl _ _))
  have HS := Lib.hid (fun (r : Nat) (h : Sim .f32 r (logC x)) => h.eq hl.2)
  clear hp hr hf hl hnar
  go_enter Try.func53, Try.ntmps53
  go_wp2_with fail
  refine (HL.out _).mono ?_
  rintro e w' ⟨rfl, m, rfl⟩
  go_wp2_with fail
  refine (HN.out _).mono ?_
  rintro e w' ⟨⟨r, rfl, hr⟩, m2, rfl⟩
  have he := HS.out r hr
  subst he
  go_wp2
  go_ret
  exact ⟨rfl, _, by first | rfl | (simp only [World.drewN_drewN]; rfl)⟩
end Go.Proofs.Ytcpimcjmckljfaa
