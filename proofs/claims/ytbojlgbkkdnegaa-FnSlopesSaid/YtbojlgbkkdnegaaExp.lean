/- ExpNumber, where every operation gives a number. -/
import Derived.Test.YtbojlgbkkdnegaaStairs
import Derived.Test.YtbojlgbkkdnegaaLo
namespace Go.Proofs.Ytbojlgbkkdnegaa
open Ieee Go.RowKit
def c256 : Nat := 4643211215818981376
def h200 : Nat := 1128792064
def l200 : Nat := 3276275712
/-- the sum, from n down to 1 -/
def xpA (t : Nat) : Nat → Nat → Option Nat
  | 0, p => some p
  | n + 1, p => (floatBits .mul .f64 t p).bind fun m => (floatBits .quo .f64 m (iof ((n : Int) + 1))).bind fun q => (floatBits .add .f64 c1 q).bind fun p1 => xpA t n p1
/-- squared n times -/
def xpB : Nat → Nat → Option Nat
  | 0, p => some p
  | n + 1, p => (floatBits .mul .f64 p p).bind fun p1 => xpB n p1
def gtF (x c : Nat) : Bool := FloatKind.f32.format.order x c == some .gt
def ltF (x c : Nat) : Bool := FloatKind.f32.format.order x c == some .lt
/-- the power of e, where every operation gives a number -/
def expB (x : Nat) : Option Nat :=
  if gtF x h200 || (ltF x l200 || !finB x) then none
  else (floatBits .quo .f64 (wid x) c256).bind fun t => (xpA t 12 c1).bind fun p => (xpB 8 p).bind fun r => floatToFloatBits .f64 r .f32
theorem xpA_step {t n p r : Nat} (H : xpA t (n + 1) p = some r) : ∃ m q p1, floatBits .mul .f64 t p = some m ∧ floatBits .quo .f64 m (iof ((n : Int) + 1)) = some q ∧ floatBits .add .f64 c1 q = some p1 ∧ xpA t n p1 = some r := by
  obtain ⟨m, e1, H⟩ := bind_is (show (floatBits .mul .f64 t p).bind _ = some r from H)
  obtain ⟨q, e2, H⟩ := bind_is H
  obtain ⟨p1, e3, H⟩ := bind_is H
  exact ⟨m, q, p1, e1, e2, e3, H⟩
theorem xpB_step {n p r : Nat} (H : xpB (n + 1) p = some r) : ∃ p1, floatBits .mul .f64 p p = some p1 ∧ xpB n p1 = some r :=
  bind_is (show (floatBits .mul .f64 p p).bind _ = some r from H)
theorem expB_parts {x r : Nat} (H : expB x = some r) : gtF x h200 = false ∧ ltF x l200 = false ∧ finB x = true ∧ ∃ t p y, floatBits .quo .f64 (wid x) c256 = some t ∧ xpA t 12 c1 = some p ∧ xpB 8 p = some y ∧ floatToFloatBits .f64 y .f32 = some r := by
  unfold expB at H
  split at H
  · cases H
  · rename_i h
    simp only [Bool.or_eq_true, not_or, Bool.not_eq_true, Bool.not_eq_eq_eq_not, Bool.not_true] at h
    obtain ⟨t, e1, H⟩ := bind_is H
    obtain ⟨p, e2, H⟩ := bind_is H
    obtain ⟨y, e3, H⟩ := bind_is H
    refine ⟨h.1, h.2.1, ?_, t, p, y, e1, e2, e3, H⟩
    simpa using h.2.2
theorem k_down {j : Nat} (h : j < 12) : floatBits .sub .f64 (iof ((j : Int) + 1)) c1 = some (iof (j : Int)) ∧ (FloatKind.f64.format.order (iof ((j : Int) + 1)) c1 == some .gt || FloatKind.f64.format.order (iof ((j : Int) + 1)) c1 == some .eq) = true := by
  have key : (List.range 12).all (fun j => floatBits .sub .f64 (iof ((j : Int) + 1)) c1 == some (iof (j : Int)) && (FloatKind.f64.format.order (iof ((j : Int) + 1)) c1 == some .gt || FloatKind.f64.format.order (iof ((j : Int) + 1)) c1 == some .eq)) = true := by decide +kernel
  have h := all_range key h
  rw [Bool.and_eq_true] at h
  exact ⟨by simpa using h.1, h.2⟩
theorem k_end : (FloatKind.f64.format.order (iof 0) c1 == some .gt || FloatKind.f64.format.order (iof 0) c1 == some .eq) = false := by decide +kernel
theorem iof_12 : iof 12 = 4622945017495814144 := by decide +kernel
set_option maxRecDepth 100000 in
set_option maxHeartbeats 2000000 in
theorem expNumber_any (x r : Nat) (w : World) (H : expB x = some r) : Calls Try.prog 48 #[.float .f32 x] w fun e w' => e = .returned (.float .f32 r) ∧ w = w' := by
  obtain ⟨g1, g2, g3, t, p, y, e1, e2, e3, e4⟩ := expB_parts H
  have g4 := (wid_num (fin_num g3)).1
  have hv := fun (W : World) => run_convert_float_float (P := Try.prog) W 25 35 .f32 .f64 x _ (by rw [Try.und25]; rfl) Try.und35 g4
  have hn := fun (W : World) => run_convert_float_float (P := Try.prog) W 35 25 .f64 .f32 y _ (by rw [Try.und35]; rfl) Try.und25 e4
  have q1 := run_num (P := Try.prog) e1
  unfold gtF h200 at g1
  unfold ltF l200 at g2
  unfold c256 at q1
  have HA : Hid (xpA t 12 c1 = some p) := Lib.hid e2
  have HB : Hid (xpB 8 p = some y) := Lib.hid e3
  have i12 := Lib.hid iof_12
  clear H e1 e2 e3 e4 g3 g4
  go_enter Try.func48, Try.ntmps48
  go_wp2_with fail
  go_loopg [4, 5] 12 (fun gk vp vk wr => ∃ p0 : Nat, gk ≤ 12 ∧ vk = .float .f64 (iof (gk : Int)) ∧ vp = .float .f64 p0 ∧ Hid (xpA t gk p0 = some p) ∧ wr = w)
  case atStart => exact ⟨c1, by omega, by rw [show ((12 : Nat) : Int) = 12 from rfl, i12.out], rfl, HA, rfl⟩
  case round =>
    obtain ⟨p0, hk, rfl, rfl, HP, hwr⟩ := hrel
    rw [hwr]
    clear hwr
    by_cases h0 : gk = 0
    · subst h0
      have hp : p0 = p := Option.some.inj HP.out
      subst hp
      have ke := k_end
      unfold c1 at ke
      go_wp2
      go_loop [4, 27] (fun vp i => ∃ j p1 : Nat, j ≤ 8 ∧ i = .int .i64 j ∧ vp = .float .f64 p1 ∧ Hid (xpB (8 - j) p1 = some y)) (fun _ i => 8 - (intOf i).toNat)
      case atStart => exact ⟨0, _, by omega, rfl, rfl, HB⟩
      case round =>
        obtain ⟨j, p1, hj, rfl, rfl, HY⟩ := hrel
        by_cases hlt : j < 8
        · have hY := HY.out
          rw [show 8 - j = (8 - (j + 1)) + 1 by omega] at hY
          obtain ⟨p2, a1, hY⟩ := xpB_step hY
          have q2 := run_num (P := Try.prog) a1
          have HY2 := Lib.hid hY
          clear hY a1
          go_wp2
          go_round
          case rel => exact ⟨j + 1, p2, by omega, by go_num, rfl, HY2⟩
          case measure => simp [intOf]; omega
        · obtain rfl : j = 8 := by omega
          have hy : p1 = y := Option.some.inj HY.out
          subst hy
          go_wp2
          go_ret
          exact ⟨rfl, rfl⟩
    · obtain ⟨m, rfl⟩ : ∃ m, gk = m + 1 := ⟨gk - 1, by omega⟩
      obtain ⟨v1, v2, v3, a1, a2, a3, hP⟩ := xpA_step HP.out
      obtain ⟨b1, b2⟩ := k_down (j := m) (by omega)
      have q2 := run_num (P := Try.prog) a1
      have q3 := run_num (P := Try.prog) a2
      have q4 := run_num (P := Try.prog) a3
      have q5 := run_num (P := Try.prog) b1
      have HP2 := Lib.hid hP
      have hcast : ((m + 1 : Nat) : Int) = (m : Int) + 1 := by omega
      rw [hcast]
      unfold c1 at b2 q4 q5
      clear hP a1 a2 a3 b1 hcast HP
      go_wp2
      go_roundg m
      case measure => omega
      case rel => exact ⟨v3, by omega, rfl, rfl, HP2, rfl⟩
end Go.Proofs.Ytbojlgbkkdnegaa
