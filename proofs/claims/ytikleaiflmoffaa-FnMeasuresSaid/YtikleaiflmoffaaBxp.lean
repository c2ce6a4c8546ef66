/- The part of a box: the greatest integer that is not greater than a quotient. -/
import Derived.Test.YtikleaiflmoffaaLol
import Derived.Laws.FloatArith
namespace Go.Proofs.Ytikleaiflmoffaa
open Ieee Go.RowKit
def flB (x : Nat) : Nat := FloatKind.f64.encode ((FloatKind.f64.decode x).integral .down)
def isNumB (x : Nat) : Bool := match FloatKind.f64.decode x with | .number _ _ _ => true | _ => false
theorem run_tobits (x : Nat) (w : World) : (callFunc 46 #[.float .f64 x]).run Try.prog w = .ok (.value (.int .u64 x)) w := by
  rw [run_callFunc_extern (e := Extern.MathFloatBits.float64bits) Try.func46 (by kernel_rfl) (by kernel_rfl) (by kernel_rfl) (by kernel_rfl)]
  rfl
theorem run_floor (x : Nat) (w : World) (h : isNumB x = true) : (callFunc 42 #[.float .f64 x]).run Try.prog w = .ok (.value (.float .f64 (flB x))) w := by
  obtain ⟨s, m, p, hd⟩ : ∃ s m p, FloatKind.f64.decode x = .number s m p := by
    unfold isNumB at h
    split at h
    · exact ⟨_, _, _, by assumption⟩
    · cases h
  rw [run_callFunc_extern (e := Extern.MathFloor.toIntegral "math.archFloor" .down) Try.func42 (by kernel_rfl) (by kernel_rfl) (by kernel_rfl) (by kernel_rfl)]
  have key := (show Extern.MathFloor.toIntegral "math.archFloor" .down #[.float .f64 x] = Extern.MathFloor.toIntegral.match_1 (fun _ => Sem Value) (FloatKind.f64.decode x) _ _ from rfl)
  unfold flB
  rw [key, hd]
  rfl
/-- the sign taken off -/
def abB (x : Nat) : Nat := (bits .andNot .u64 (x : Int) 9223372036854775808).toNat
def qX (x y : Nat) : Nat := fop .quo .f32 x y
def bxB (x y : Nat) (k : Int) : Bool :=
  (floatBits .quo .f32 x y == some (qX x y)) && (finB (qX x y) && ((bits .andNot .u64 (wid (qX x y) : Int) 9223372036854775808 == (abB (wid (qX x y)) : Int)) && ((floatToFloatBits .f64 (abB (wid (qX x y))) .f32 == some (nar (abB (wid (qX x y))))) && (leF (nar (abB (wid (qX x y)))) 1232348160 && (isNumB (wid (qX x y)) && (floatToIntVal .f64 (flB (wid (qX x y))) .i64 == some k))))))
/-- x over y has the floor k -/
structure BxOk (x y : Nat) (k : Int) : Prop where
  quo : floatBits .quo .f32 x y = some (qX x y)
  fin : finB (qX x y) = true
  ab : bits .andNot .u64 (wid (qX x y) : Int) 9223372036854775808 = (abB (wid (qX x y)) : Int)
  na : floatToFloatBits .f64 (abB (wid (qX x y))) .f32 = some (nar (abB (wid (qX x y))))
  le : leF (nar (abB (wid (qX x y)))) 1232348160 = true
  num : isNumB (wid (qX x y)) = true
  fl : floatToIntVal .f64 (flB (wid (qX x y))) .i64 = some k
theorem bx_of {x y : Nat} {k : Int} (h : bxB x y k = true) : BxOk x y k := by
  unfold bxB at h
  simp only [Bool.and_eq_true, beq_iff_eq] at h
  exact ⟨h.1, h.2.1, h.2.2.1, h.2.2.2.1, h.2.2.2.2.1, h.2.2.2.2.2.1, h.2.2.2.2.2.2⟩
theorem bx_all2 : ((List.range 9).all fun s => (List.range 33).all fun a => decide (s < 1) || bxB (eZ ((a : Int) - 16)) (fx (s : Int) 2) (((a : Int) - 16) / (2 * (s : Int)))) = true := by decide +kernel
theorem bx_all3 : ((List.range 9).all fun s => (List.range 33).all fun a => decide (s < 1) || bxB (eZ ((a : Int) - 16)) (fx (s : Int) 3) (((a : Int) - 16) / (s : Int))) = true := by decide +kernel
theorem bx2 {a : Int} {s : Nat} (h1 : 1 ≤ s) (h2 : s ≤ 8) (h3 : -16 ≤ a) (h4 : a ≤ 16) : BxOk (eZ a) (fx (s : Int) 2) (a / (2 * (s : Int))) := by
  have h := all_lt (all_lt bx_all2 (j := s) (by omega)) (j := (a + 16).toNat) (by omega)
  rw [decide_eq_false (show ¬ s < 1 by omega), show (((a + 16).toNat : Nat) : Int) - 16 = a by omega, Bool.false_or] at h
  exact bx_of h
theorem bx3 {a : Int} {s : Nat} (h1 : 1 ≤ s) (h2 : s ≤ 8) (h3 : -16 ≤ a) (h4 : a ≤ 16) : BxOk (eZ a) (fx (s : Int) 3) (a / (s : Int)) := by
  have h := all_lt (all_lt bx_all3 (j := s) (by omega)) (j := (a + 16).toNat) (by omega)
  rw [decide_eq_false (show ¬ s < 1 by omega), show (((a + 16).toNat : Nat) : Int) - 16 = a by omega, Bool.false_or] at h
  exact bx_of h
theorem mathAbs_any (x y : Nat) (w : World) (h : bits .andNot .u64 (x : Int) 9223372036854775808 = (y : Int)) : Calls Try.prog 41 #[.float .f64 x] w fun e w' => e = .returned (.float .f64 y) ∧ w' = w := by
  have h1 := fun W => run_tobits x W
  have h2 : ∀ W : World, (callFunc 45 #[.int .u64 (bits .andNot .u64 (x : Int) 9223372036854775808)]).run Try.prog W = .ok (.value (.float .f64 y)) W := fun W => by
    rw [h]
    exact run_frombits (y : Int) W
  clear h
  go_enter Try.func41, Try.ntmps41
  go_wp2
  go_ret
  exact ⟨rfl, rfl⟩
theorem mathFloor_any (x : Nat) (w : World) (h : isNumB x = true) : Calls Try.prog 38 #[.float .f64 x] w fun e w' => e = .returned (.float .f64 (flB x)) ∧ w' = w := by
  have h1 := fun W => run_floor x W h
  clear h
  go_enter Try.func38, Try.ntmps38
  go_wp2
  go_ret
  exact ⟨rfl, rfl⟩
theorem size_any (x y z : Nat) (w : World) (hf : finB x = true) (h : bits .andNot .u64 (wid x : Int) 9223372036854775808 = (y : Int)) (hn : floatToFloatBits .f64 y .f32 = some z) : Calls Try.prog 37 #[.float .f32 x] w fun e w' => e = .returned (.float .f32 z) ∧ w' = w := by
  have HA := Lib.hid (mathAbs_any (wid x) y w h)
  have h1 := fun (W : World) => run_convert_float_float (P := Try.prog) W 27 41 .f32 .f64 x _ (by rw [Try.und27]; rfl) Try.und41 (wid_num (fin_num hf)).1
  have h2 := fun (W : World) => run_convert_float_float (P := Try.prog) W 41 27 .f64 .f32 y _ (by rw [Try.und41]; rfl) Try.und27 hn
  clear h hn hf
  go_enter Try.func37, Try.ntmps37
  go_wp2_with fail
  refine HA.out.mono ?_
  rintro e w' ⟨rfl, rfl⟩
  go_wp2
  go_ret
  exact ⟨rfl, rfl⟩
theorem boxPart_any (x y : Nat) (k : Int) (w : World) (H : BxOk x y k) : Calls Try.prog 31 #[.float .f32 x, .float .f32 y] w fun e w' => e = .returned (.tuple #[.int .i64 k, .bool true]) ∧ w' = w := by
  have HS := Lib.hid (size_any (qX x y) _ _ w H.fin H.ab H.na)
  have HF := Lib.hid (mathFloor_any (wid (qX x y)) w H.num)
  have g1 := run_num (P := Try.prog) H.quo
  have hle : (FloatKind.f32.format.order (nar (abB (wid (qX x y)))) 1232348160 == some .lt || FloatKind.f32.format.order (nar (abB (wid (qX x y)))) 1232348160 == some .eq) = true := H.le
  have h1 := fun (W : World) => run_convert_float_float (P := Try.prog) W 27 41 .f32 .f64 (qX x y) _ (by rw [Try.und27]; rfl) Try.und41 (wid_num (fin_num H.fin)).1
  have h2 := fun (W : World) => run_convert_float_int (P := Try.prog) (w := W) 41 2 .f64 .i64 (flB (wid (qX x y))) k (by rw [Try.und41]; rfl) Try.underlying2 H.fl
  obtain ⟨z, hz⟩ : ∃ z, z = nar (abB (wid (qX x y))) := ⟨_, rfl⟩
  rw [← hz] at HS hle
  obtain ⟨fl, hfl⟩ : ∃ z, z = flB (wid (qX x y)) := ⟨_, rfl⟩
  rw [← hfl] at HF h2
  obtain ⟨q, hq⟩ : ∃ q, q = qX x y := ⟨_, rfl⟩
  rw [← hq] at HS HF g1 h1
  clear H hz hfl hq
  go_enter Try.func31, Try.ntmps31
  go_wp2_with fail
  refine HS.out.mono ?_
  rintro e w' ⟨rfl, rfl⟩
  go_wp2_with fail
  refine HF.out.mono ?_
  rintro e w' ⟨rfl, rfl⟩
  go_wp2
  go_ret2
  exact ⟨rfl, rfl⟩
end Go.Proofs.Ytikleaiflmoffaa
