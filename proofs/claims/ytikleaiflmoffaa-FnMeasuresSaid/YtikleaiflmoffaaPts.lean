/- Points of eighths: differences, and how long they are. -/
import Derived.Test.YtikleaiflmoffaaRo
import Derived.Test.YtikleaiflmoffaaSr
namespace Go.Proofs.Ytikleaiflmoffaa
open Ieee Go.RowKit
theorem Try.und43 : Try.prog.underlying 43 = some (.complex .f32) := by kernel_rfl
/-- 64ths as a float64 -/
def dE (D : Nat) : Nat := fop .mul .f64 (iof (D : Int)) 4580160821035794432
/-- how long a number with D 64ths as its power is -/
def lgD (D : Nat) : Nat := nar (sqC (dE D))
def eZ (a : Int) : Nat := fx a 3
def cvP (p : Int × Int) : Value := .complex .f32 (eZ p.1) (eZ p.2)
def sq2 (a : Int) : Nat := a.natAbs * a.natAbs
def lgB (D : Nat) : Bool := (FloatKind.f64.format.sqrt (dE D)).isSome && ((floatToFloatBits .f64 (sqC (dE D)) .f32 == some (lgD D)) && (finB (lgD D) && (!nanF .f64 (sqC (dE D)) && (decide (0 ≤ vl .f32 (lgD D)) && (decide ((D : Rat) * (999999 / 1000000) ≤ 64 * (vl .f32 (lgD D) * vl .f32 (lgD D))) && decide (64 * (vl .f32 (lgD D) * vl .f32 (lgD D)) ≤ (D : Rat) * (1000001 / 1000000)))))))
structure LgOk (D : Nat) : Prop where
  nr : floatToFloatBits .f64 (sqC (dE D)) .f32 = some (lgD D)
  is : Is .f32 (lgD D)
  nn : nanF .f64 (sqC (dE D)) = false
  ge : 0 ≤ vl .f32 (lgD D)
  lo : (D : Rat) * (999999 / 1000000) ≤ 64 * (vl .f32 (lgD D) * vl .f32 (lgD D))
  hi : 64 * (vl .f32 (lgD D) * vl .f32 (lgD D)) ≤ (D : Rat) * (1000001 / 1000000)
theorem lg_of {D : Nat} (h : lgB D = true) : LgOk D := by
  unfold lgB at h
  simp only [Bool.and_eq_true, beq_iff_eq, decide_eq_true_eq, Bool.not_eq_true'] at h
  exact ⟨h.2.1, is_fin h.2.2.1, h.2.2.2.1, h.2.2.2.2.1, h.2.2.2.2.2.1, h.2.2.2.2.2.2⟩
theorem lg_all : ((List.range 2049).all lgB) = true := by decide +kernel
theorem lg_ok {D : Nat} (h : D ≤ 2048) : LgOk D := lg_of (all_lt lg_all (by omega))
def wdB (a : Int) : Bool := floatBits .mul .f64 (wid (eZ a)) (wid (eZ a)) == some (dE (sq2 a))
theorem wd_ok {a : Int} (h1 : -32 ≤ a) (h2 : a ≤ 32) : floatToFloatBits .f32 (eZ a) .f64 = some (wid (eZ a)) ∧ floatBits .mul .f64 (wid (eZ a)) (wid (eZ a)) = some (dE (sq2 a)) := by
  have h := all_lt (p := fun j => wdB ((j : Int) - 32)) (n := 65) (by decide +kernel) (j := (a + 32).toNat) (by omega)
  rw [show (((a + 32).toNat : Nat) : Int) - 32 = a by omega] at h
  unfold wdB at h
  exact ⟨(wid_v (fx_v (z := a) (k := 3) (by omega) (by omega)).1).1, eq_of_beq h⟩
theorem ad_all : ((List.range 33).all fun i => (List.range 33).all fun j => floatBits .add .f64 (dE (i * i)) (dE (j * j)) == some (dE (i * i + j * j))) = true := by decide +kernel
theorem ad_ok {a b : Int} (h1 : -32 ≤ a) (h2 : a ≤ 32) (h3 : -32 ≤ b) (h4 : b ≤ 32) : floatBits .add .f64 (dE (sq2 a)) (dE (sq2 b)) = some (dE (sq2 a + sq2 b)) := by
  have h := all_lt (all_lt ad_all (j := a.natAbs) (by omega)) (j := b.natAbs) (by omega)
  exact eq_of_beq h
set_option maxRecDepth 100000 in
theorem parts_any (a b : Nat) (w : World) (ha : floatToFloatBits .f32 a .f64 = some (wid a)) (hb : floatToFloatBits .f32 b .f64 = some (wid b)) : Calls Try.prog 35 #[.complex .f32 a b] w fun e w' => e = .returned (.tuple #[.float .f64 (wid a), .float .f64 (wid b)]) ∧ w' = w := by
  have hwa := fun (W : World) => run_convert_float_float (P := Try.prog) W 27 41 .f32 .f64 a _ (by rw [Try.und27]; rfl) Try.und41 ha
  have hwb := fun (W : World) => run_convert_float_float (P := Try.prog) W 27 41 .f32 .f64 b _ (by rw [Try.und27]; rfl) Try.und41 hb
  clear ha hb
  go_enter Try.func35, Try.ntmps35
  go_wp2
  go_ret2
  exact ⟨rfl, rfl⟩
/-- small eighths -/
structure E8 (a b : Int) : Prop where
  a1 : -32 ≤ a
  a2 : a ≤ 32
  b1 : -32 ≤ b
  b2 : b ≤ 32
set_option maxRecDepth 100000 in
theorem power_any (a b : Int) (w : World) (h : E8 a b) : Calls Try.prog 29 #[.complex .f32 (eZ a) (eZ b)] w fun e w' => e = .returned (.float .f64 (dE (sq2 a + sq2 b))) ∧ w' = w := by
  obtain ⟨wa, ma⟩ := wd_ok h.a1 h.a2
  obtain ⟨wb, mb⟩ := wd_ok h.b1 h.b2
  have ad := ad_ok h.a1 h.a2 h.b1 h.b2
  have HC := Lib.hid (parts_any (eZ a) (eZ b) w wa wb)
  obtain ⟨x, hx⟩ : ∃ x, x = wid (eZ a) := ⟨_, rfl⟩
  obtain ⟨y, hy⟩ : ∃ y, y = wid (eZ b) := ⟨_, rfl⟩
  rw [← hx] at ma HC
  rw [← hy] at mb HC
  have g1 := run_num (P := Try.prog) ma
  have g2 := run_num (P := Try.prog) mb
  have g3 := run_num (P := Try.prog) ad
  clear h wa ma wb mb ad hx hy
  go_enter Try.func29, Try.ntmps29
  go_wp2_with fail
  refine HC.out.mono ?_
  rintro e w' ⟨rfl, rfl⟩
  go_wp2
  go_ret
  exact ⟨rfl, rfl⟩
theorem sq2_le {a : Int} (h1 : -32 ≤ a) (h2 : a ≤ 32) : sq2 a ≤ 1024 := by
  unfold sq2
  have : a.natAbs ≤ 32 := by omega
  exact Nat.mul_le_mul this this
set_option maxRecDepth 100000 in
theorem longOf_any (a b : Int) (w : World) (h : E8 a b) : Calls Try.prog 16 #[.complex .f32 (eZ a) (eZ b)] w fun e w' => e = .returned (.float .f32 (lgD (sq2 a + sq2 b))) ∧ ∃ m, w' = w.drewN m := by
  have HP := Lib.hid (power_any a b w h)
  have l1 := sq2_le h.a1 h.a2
  have l2 := sq2_le h.b1 h.b2
  obtain ⟨D, hD⟩ : ∃ D, D = sq2 a + sq2 b := ⟨_, rfl⟩
  rw [← hD] at HP ⊢
  have L := lg_ok (D := D) (by omega)
  have HS := Lib.hid (fun W => mathSqrt_any (dE D) (dE D) W (.refl _ _))
  have HN := Lib.hid L.nn
  have hn := fun (W : World) => run_convert_float_float (P := Try.prog) W 41 27 .f64 .f32 (sqC (dE D)) _ (by rw [Try.und41]; rfl) Try.und27 L.nr
  clear h l1 l2 L hD
  go_enter Try.func16, Try.ntmps16
  go_wp2_with fail
  refine HP.out.mono ?_
  rintro e w' ⟨rfl, hw⟩
  rw [hw]
  clear hw w'
  go_wp2_with fail
  refine (HS.out _).mono ?_
  rintro e w' ⟨⟨r, rfl, hr⟩, hq⟩
  obtain rfl := hr.eq HN.out
  have HQ := Lib.hid hq
  clear hr hq
  go_wp2
  go_ret
  exact ⟨rfl, HQ.out⟩
set_option maxRecDepth 100000 in
theorem subC_any (a b c d r s : Nat) (w : World) (h1 : floatBits .sub .f32 a c = some r) (h2 : floatBits .sub .f32 b d = some s) : Calls Try.prog 22 #[.complex .f32 a b, .complex .f32 c d] w fun e w' => e = .returned (.complex .f32 r s) ∧ w' = w := by
  have g1 := run_num (P := Try.prog) h1
  have g2 := run_num (P := Try.prog) h2
  clear h1 h2
  go_enter Try.func22, Try.ntmps22
  go_wp2
  go_ret
  exact ⟨rfl, rfl⟩
/-- a point of small eighths -/
def Pt (p : Int × Int) : Prop := (-16 ≤ p.1 ∧ p.1 ≤ 16) ∧ (-16 ≤ p.2 ∧ p.2 ≤ 16)
theorem Pt.e8 {p q : Int × Int} (hp : Pt p) (hq : Pt q) : E8 (p.1 - q.1) (p.2 - q.2) := by
  unfold Pt at *
  exact ⟨by omega, by omega, by omega, by omega⟩
/-- the difference's power in 64ths -/
def dst (p q : Int × Int) : Nat := sq2 (p.1 - q.1) + sq2 (p.2 - q.2)
theorem sub_any (p q : Int × Int) (w : World) (hp : Pt p) (hq : Pt q) : Calls Try.prog 22 #[cvP p, cvP q] w fun e w' => e = .returned (.complex .f32 (eZ (p.1 - q.1)) (eZ (p.2 - q.2))) ∧ w' = w := by
  unfold Pt at hp hq
  exact subC_any _ _ _ _ _ _ w (fx_sub (by omega) (by omega) (by omega)) (fx_sub (by omega) (by omega) (by omega))
theorem dst_le {p q : Int × Int} (hp : Pt p) (hq : Pt q) : dst p q ≤ 2048 := by
  have h := hp.e8 hq
  have l1 := sq2_le h.a1 h.a2
  have l2 := sq2_le h.b1 h.b2
  unfold dst
  omega
theorem sq2_neg (a b : Int) : sq2 (a - b) = sq2 (b - a) := by
  unfold sq2
  rw [show (a - b).natAbs = (b - a).natAbs by omega]
theorem dst_comm (p q : Int × Int) : dst p q = dst q p := by unfold dst; rw [sq2_neg, sq2_neg p.2]
theorem dst_self (p : Int × Int) : dst p p = 0 := by unfold dst sq2; simp
/-- how far two points are -/
def farF (p q : Int × Int) : Nat := lgD (dst p q)
theorem far_self (p : Int × Int) : farF p p = 0 := by unfold farF; rw [dst_self]; decide +kernel
theorem far_comm (p q : Int × Int) : farF p q = farF q p := by unfold farF; rw [dst_comm]
theorem far_ok {p q : Int × Int} (hp : Pt p) (hq : Pt q) : LgOk (dst p q) := lg_ok (dst_le hp hq)
theorem longSub_any (p q : Int × Int) (w : World) (hp : Pt p) (hq : Pt q) : Calls Try.prog 16 #[.complex .f32 (eZ (p.1 - q.1)) (eZ (p.2 - q.2))] w fun e w' => e = .returned (.float .f32 (farF p q)) ∧ ∃ m, w' = w.drewN m :=
  longOf_any _ _ w (hp.e8 hq)
end Go.Proofs.Ytikleaiflmoffaa
