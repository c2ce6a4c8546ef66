/- StairsAt and SizesOf, where every operation gives a number. -/
import Derived.Test.YtbojlgbkkdnegaaSr
namespace Go.Proofs.Ytbojlgbkkdnegaa
open Ieee Go.RowKit
def geF (x c : Nat) : Bool := FloatKind.f32.format.order x c == some .gt || FloatKind.f32.format.order x c == some .eq
def leF (x c : Nat) : Bool := FloatKind.f32.format.order x c == some .lt || FloatKind.f32.format.order x c == some .eq
def k3 : Nat := 1077936128
def k1 : Nat := 1065353216
def k2 : Nat := 1073741824
def kh : Nat := 1056964608
/-- the stairs' height, where every operation gives a number -/
def stB : Nat → Nat → Nat → Nat → Option Nat
  | 0, _, s, _ => some s
  | n + 1, x, s, h => (floatBits .mul .f32 k3 x).bind fun x1 =>
    if geF x1 k1 = true then (floatBits .add .f32 s h).bind fun s1 =>
      if leF x1 k2 = true then some s1
      else (floatBits .sub .f32 x1 k2).bind fun x2 => (floatBits .mul .f32 h kh).bind fun h1 => stB n x2 s1 h1
    else (floatBits .mul .f32 h kh).bind fun h1 => stB n x1 s h1
theorem bind_is {α β : Type} {a : Option α} {f : α → Option β} {r : β} (h : a.bind f = some r) : ∃ x, a = some x ∧ f x = some r := by
  cases a with
  | none => cases h
  | some x => exact ⟨x, rfl, h⟩
theorem st_step {n x s h r : Nat} (H : stB (n + 1) x s h = some r) : ∃ x1, floatBits .mul .f32 k3 x = some x1 ∧ ((geF x1 k1 = false ∧ ∃ h1, floatBits .mul .f32 h kh = some h1 ∧ stB n x1 s h1 = some r) ∨
    (geF x1 k1 = true ∧ ∃ s1, floatBits .add .f32 s h = some s1 ∧ ((leF x1 k2 = true ∧ s1 = r) ∨ (leF x1 k2 = false ∧ ∃ x2 h1, floatBits .sub .f32 x1 k2 = some x2 ∧ floatBits .mul .f32 h kh = some h1 ∧ stB n x2 s1 h1 = some r)))) := by
  obtain ⟨x1, e1, H⟩ := bind_is (show (floatBits .mul .f32 k3 x).bind _ = some r from H)
  refine ⟨x1, e1, ?_⟩
  cases hg : geF x1 k1
  · rw [hg, if_neg (by decide)] at H
    obtain ⟨h1, e2, H⟩ := bind_is H
    exact .inl ⟨rfl, h1, e2, H⟩
  · rw [hg, if_pos rfl] at H
    obtain ⟨s1, e2, H⟩ := bind_is H
    refine .inr ⟨rfl, s1, e2, ?_⟩
    cases hl : leF x1 k2
    · rw [hl, if_neg (by decide)] at H
      obtain ⟨x2, e3, H⟩ := bind_is H
      obtain ⟨h1, e4, H⟩ := bind_is H
      exact .inr ⟨rfl, x2, h1, e3, e4, H⟩
    · rw [hl, if_pos rfl] at H
      exact .inl ⟨rfl, Option.some.inj H⟩
set_option maxRecDepth 100000 in
theorem isShare_any (x : Nat) (w : World) (h0 : geF x 0 = true) (h1 : leF x k1 = true) : Calls Try.prog 52 #[.float .f32 x] w fun e w' => e = .returned (.bool true) ∧ w = w' := by
  unfold geF at h0
  unfold leF k1 at h1
  go_enter Try.func52, Try.ntmps52
  go_wp2
  go_ret
  exact ⟨rfl, rfl⟩
set_option maxRecDepth 100000 in
set_option maxHeartbeats 2000000 in
theorem stairsAt_any (n x r : Nat) (w : World) (hn : n ≤ 32) (h0 : geF x 0 = true) (h1 : leF x k1 = true) (H : stB n x 0 kh = some r) :
    Calls Try.prog 25 #[.float .f32 x, .int .i64 n] w fun e w' => e = .returned (.tuple #[.float .f32 r, .bool true]) ∧ w = w' := by
  have HS := Lib.hid (isShare_any x w h0 h1)
  have hin : inB n 0 32 = true := by simp [inB]; omega
  have HW := Lib.hid (within_any n 0 32 w)
  rw [hin] at HW
  have HH := Lib.hid H
  clear h0 h1 hin H
  unfold kh at HH
  go_enter Try.func25, Try.ntmps25
  go_wp2_with fail
  refine HS.out.mono ?_
  rintro e w' ⟨rfl, rfl⟩
  go_wp2_with fail
  refine HW.out.mono ?_
  rintro e w' ⟨rfl, rfl⟩
  go_wp2_with fail
  go_loop [0, 6, 7, 17] (fun vx vs vh i => ∃ j x s h : Nat, j ≤ n ∧ i = .int .i64 j ∧ vx = .float .f32 x ∧ vs = .float .f32 s ∧ vh = .float .f32 h ∧ Hid (stB (n - j) x s h = some r)) (fun _ _ _ i => n - (intOf i).toNat)
  case atStart => exact ⟨0, x, 0, _, by omega, rfl, rfl, rfl, rfl, HH⟩
  case round =>
    obtain ⟨j, x, s, h, hj, rfl, rfl, rfl, rfl, HB⟩ := hrel
    by_cases hlt : j < n
    · have hB := HB.out
      obtain ⟨m, hm⟩ : ∃ m, n - j = m + 1 := ⟨n - j - 1, by omega⟩
      rw [hm] at hB
      have hm2 : n - (j + 1) = m := by omega
      obtain ⟨x1, e1, hB⟩ := st_step hB
      have g1 := run_num (P := Try.prog) e1
      unfold k3 at g1
      rcases hB with ⟨hg, h1, e2, hB⟩ | ⟨hg, s1, e2, hB⟩
      · have g2 := run_num (P := Try.prog) e2
        unfold geF k1 at hg
        unfold kh at g2
        have HB2 := Lib.hid hB
        clear hB e1 e2 hm
        go_wp2
        go_round
        case rel => exact ⟨j + 1, x1, s, h1, by omega, by go_num, rfl, rfl, rfl, Lib.hid (by rw [hm2]; exact HB2.out)⟩
        case measure => simp [intOf]; omega
      · have g2 := run_num (P := Try.prog) e2
        unfold geF k1 at hg
        rcases hB with ⟨hl, rfl⟩ | ⟨hl, x2, h1, e3, e4, hB⟩
        · unfold leF k2 at hl
          clear e1 e2 hm
          go_wp2
          go_ret2
          exact ⟨rfl, rfl⟩
        · have g3 := run_num (P := Try.prog) e3
          have g4 := run_num (P := Try.prog) e4
          unfold leF k2 at hl
          unfold k2 at g3
          unfold kh at g4
          have HB2 := Lib.hid hB
          clear hB e1 e2 e3 e4 hm
          go_wp2
          go_round
          case rel => exact ⟨j + 1, x2, s1, h1, by omega, by go_num, rfl, rfl, rfl, Lib.hid (by rw [hm2]; exact HB2.out)⟩
          case measure => simp [intOf]; omega
    · obtain rfl : j = n := by omega
      have hB := HB.out
      rw [Nat.sub_self] at hB
      have hs : s = r := Option.some.inj hB
      subst hs
      go_wp2
      go_ret2
      exact ⟨rfl, rfl⟩
end Go.Proofs.Ytbojlgbkkdnegaa
