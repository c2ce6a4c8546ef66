/- The small functions of the middle, both ways: parts, powers, sums and differences of complex numbers. -/
import Derived.Test.YtbefcfdmaafghaaMidR
namespace Go.Proofs.Ytbefcfdmaafghaa
open Ieee Go.RowKit
theorem Try.und82 : Try.prog.underlying 82 = some (.complex .f32) := by kernel_rfl
set_option maxRecDepth 100000 in
theorem parts_any (a b : Nat) (w : World) (ha : floatToFloatBits .f32 a .f64 = some (wid a)) (hb : floatToFloatBits .f32 b .f64 = some (wid b)) : Calls Try.prog 148 #[.complex .f32 a b] w fun e w' => e = .returned (.tuple #[.float .f64 (wid a), .float .f64 (wid b)]) ∧ w' = w := by
  have hwa := fun (W : World) => run_convert_float_float (P := Try.prog) W 43 88 .f32 .f64 a _ (by rw [Try.und43]; rfl) Try.und88 ha
  have hwb := fun (W : World) => run_convert_float_float (P := Try.prog) W 43 88 .f32 .f64 b _ (by rw [Try.und43]; rfl) Try.und88 hb
  clear ha hb
  go_enter Try.func148, Try.ntmps148
  go_wp2
  go_ret2
  exact ⟨rfl, rfl⟩
set_option maxRecDepth 100000 in
theorem power_any (a b : Nat) (w : World) (h : PowIs a b) : Calls Try.prog 139 #[.complex .f32 a b] w fun e w' => e = .returned (.float .f64 (powW a b)) ∧ w' = w := by
  have HC := Lib.hid (parts_any a b w h.wa h.wb)
  have hma := run_num (P := Try.prog) h.ma
  have hmb := run_num (P := Try.prog) h.mb
  have had := run_num (P := Try.prog) h.ad
  clear h
  go_enter Try.func139, Try.ntmps139
  go_wp2_with fail
  refine HC.out.mono ?_
  rintro e w' ⟨rfl, rfl⟩
  go_wp2
  go_ret
  exact ⟨rfl, rfl⟩
set_option maxRecDepth 100000 in
theorem powerOf_any (a b : Nat) (w : World) (h : PowIs a b) : Calls Try.prog 118 #[.complex .f32 a b] w fun e w' => e = .returned (.float .f32 (powF a b)) ∧ w' = w := by
  have HC := Lib.hid (power_any a b w h)
  have hna := fun (W : World) => run_convert_float_float (P := Try.prog) W 88 43 .f64 .f32 (powW a b) _ (by rw [Try.und88]; rfl) Try.und43 h.na
  clear h
  go_enter Try.func118, Try.ntmps118
  go_wp2_with fail
  refine HC.out.mono ?_
  rintro e w' ⟨rfl, rfl⟩
  go_wp2
  go_ret
  exact ⟨rfl, rfl⟩
set_option maxRecDepth 100000 in
theorem powerWide_any (a b : Nat) (w : World) (h : PowIs a b) : Calls Try.prog 136 #[.complex .f32 a b] w fun e w' => e = .returned (.float .f64 (powW a b)) ∧ w' = w := by
  have hwa := fun (W : World) => run_convert_float_float (P := Try.prog) W 43 88 .f32 .f64 a _ (by rw [Try.und43]; rfl) Try.und88 h.wa
  have hwb := fun (W : World) => run_convert_float_float (P := Try.prog) W 43 88 .f32 .f64 b _ (by rw [Try.und43]; rfl) Try.und88 h.wb
  have hma := run_num (P := Try.prog) h.ma
  have hmb := run_num (P := Try.prog) h.mb
  have had := run_num (P := Try.prog) h.ad
  clear h
  go_enter Try.func136, Try.ntmps136
  go_wp2
  go_ret
  exact ⟨rfl, rfl⟩
set_option maxRecDepth 100000 in
theorem narrowP_any (a b : Nat) (w : World) (h : PowIs a b) : Calls Try.prog 135 #[.float .f64 (powW a b)] w fun e w' => e = .returned (.float .f32 (powF a b)) ∧ w' = w := by
  have hna := fun (W : World) => run_convert_float_float (P := Try.prog) W 88 43 .f64 .f32 (powW a b) _ (by rw [Try.und88]; rfl) Try.und43 h.na
  clear h
  go_enter Try.func135, Try.ntmps135
  go_wp2
  go_ret
  exact ⟨rfl, rfl⟩
set_option maxRecDepth 100000 in
theorem l01Power_any (a b : Nat) (w : World) (h : PowIs a b) : Calls Try.prog 114 #[.complex .f32 a b] w fun e w' => e = .returned (.float .f32 (powF a b)) ∧ w' = w := by
  have HC := Lib.hid (powerWide_any a b w h)
  have HD := Lib.hid (narrowP_any a b w h)
  clear h
  go_enter Try.func114, Try.ntmps114
  go_wp2_with fail
  refine HC.out.mono ?_
  rintro e w' ⟨rfl, rfl⟩
  go_wp2_with fail
  refine HD.out.mono ?_
  rintro e w' ⟨rfl, rfl⟩
  go_wp2
  go_ret
  exact ⟨rfl, rfl⟩
set_option maxRecDepth 100000 in
theorem addC_any (a b c d r s : Nat) (w : World) (h1 : floatBits .add .f32 a c = some r) (h2 : floatBits .add .f32 b d = some s) : Calls Try.prog 138 #[.complex .f32 a b, .complex .f32 c d] w fun e w' => e = .returned (.complex .f32 r s) ∧ w' = w := by
  have g1 := run_num (P := Try.prog) h1
  have g2 := run_num (P := Try.prog) h2
  clear h1 h2
  go_enter Try.func138, Try.ntmps138
  go_wp2
  go_ret
  exact ⟨rfl, rfl⟩
set_option maxRecDepth 100000 in
theorem subC_any (a b c d r s : Nat) (w : World) (h1 : floatBits .sub .f32 a c = some r) (h2 : floatBits .sub .f32 b d = some s) : Calls Try.prog 119 #[.complex .f32 a b, .complex .f32 c d] w fun e w' => e = .returned (.complex .f32 r s) ∧ w' = w := by
  have g1 := run_num (P := Try.prog) h1
  have g2 := run_num (P := Try.prog) h2
  clear h1 h2
  go_enter Try.func119, Try.ntmps119
  go_wp2
  go_ret
  exact ⟨rfl, rfl⟩
end Go.Proofs.Ytbefcfdmaafghaa
