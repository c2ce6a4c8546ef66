/- Seeds, what is drawn from them, and shares: both ways. -/
import Derived.Test.YtbefcfdmaafghaaEmpty
namespace Go.Proofs.Ytbefcfdmaafghaa
open Go.RowKit
/-- the seed after s -/
def nxt (s : Int) : Int := (1103515245 * s + 12345) % 2147483648
theorem nxt_bd (s : Int) : 0 ≤ nxt s ∧ nxt s ≤ 2147483647 := by unfold nxt; omega
/-- what is drawn below n -/
def drw (s n : Int) : Int := nxt s / 65536 % n
theorem drw_bd {s n : Int} (h : 1 ≤ n) : 0 ≤ drw s n ∧ drw s n < n := ⟨Int.emod_nonneg _ (by omega), Int.emod_lt_of_pos _ (by omega)⟩
theorem ret_ii {a a' b b' : Int} (h : a = a') (h' : b = b') : Ending.returned (.tuple #[.int .i64 a, .int .i64 b]) = .returned (.tuple #[.int .i64 a', .int .i64 b']) := by rw [h, h']
set_option maxHeartbeats 1000000 in
theorem nextSeed_any (s : Int) (w : World) (h0 : 0 ≤ s) (h1 : s ≤ 2147483647) : Calls Try.prog 121 #[.int .i64 s] w fun e w' => e = .returned (.int .i64 (nxt s)) ∧ w = w' := by
  have a1 : 0 ≤ 1103515245 * s := by omega
  have a2 : 1103515245 * s ≤ 2369780942852710515 := by omega
  go_enter Try.func121, Try.ntmps121
  go_wp2
  go_ret
  exact ⟨ret_int rfl, rfl⟩
set_option maxHeartbeats 1000000 in
theorem drawBelow_any (s n : Int) (w : World) (h0 : 0 ≤ s) (h1 : s ≤ 2147483647) (hn : 1 ≤ n) (hn' : n ≤ 1000000) : Calls Try.prog 88 #[.int .i64 s, .int .i64 n] w fun e w' => e = .returned (.tuple #[.int .i64 (nxt s), .int .i64 (drw s n)]) ∧ ∃ m, w' = w.drewN m := by
  obtain ⟨b0, b1⟩ := nxt_bd s
  have c0 : 0 ≤ nxt s / 65536 := Int.ediv_nonneg b0 (by omega)
  have c1 : nxt s / 65536 ≤ 32767 := by omega
  have hz : ¬ n = 0 := by omega
  obtain ⟨d0, d1⟩ := drw_bd (s := s) hn
  unfold drw at d0 d1
  go_enter Try.func88, Try.ntmps88
  go_wp2_with (go_at_call 121; refine (nextSeed_any _ _ h0 h1).mono ?_; rintro e w' ⟨rfl, rfl⟩)
  go_quiet (fail)
  go_wp2
  go_ret2
  exact ⟨ret_ii rfl rfl, _, rfl⟩
set_option maxHeartbeats 1000000 in
theorem l07Draw_any (s n : Int) (w : World) (h0 : 0 ≤ s) (h1 : s ≤ 2147483647) (hn : 1 ≤ n) (hn' : n ≤ 1000000) : Calls Try.prog 85 #[.int .i64 s, .int .i64 n] w fun e w' => e = .returned (.tuple #[.int .i64 (drw s n), .int .i64 (nxt s)]) ∧ ∃ m, w' = w.drewN m := by
  have a1 : 0 ≤ 1103515245 * s := by omega
  have a2 : 1103515245 * s ≤ 2369780942852710515 := by omega
  have hz : ¬ n = 0 := by omega
  obtain ⟨b0, b1⟩ := nxt_bd s
  have c0 : 0 ≤ nxt s / 65536 := Int.ediv_nonneg b0 (by omega)
  have c1 : nxt s / 65536 ≤ 32767 := by omega
  obtain ⟨d0, d1⟩ := drw_bd (s := s) hn
  unfold drw at d0 d1
  unfold nxt at b0 b1 c0 c1 d0 d1
  go_enter Try.func85, Try.ntmps85
  go_wp2
  go_ret2
  exact ⟨ret_ii rfl rfl, 0, rfl⟩
set_option maxHeartbeats 400000 in
theorem isSeed_any (s : Int) (w : World) : Calls Try.prog 87 #[.int .i64 s] w fun e w' => e = .returned (.bool (inB s 0 2147483647)) ∧ w = w' := by
  go_enter Try.func87, Try.ntmps87
  go_wp2_with (go_at_call 105; refine (within_any _ _ _ _).mono ?_; rintro e w' ⟨rfl, rfl⟩)
  go_ret
  exact ⟨rfl, rfl⟩
set_option maxHeartbeats 400000 in
theorem l07Seed_any (s : Int) (w : World) : Calls Try.prog 84 #[.int .i64 s] w fun e w' => e = .returned (.bool (inB s 0 2147483647)) ∧ w = w' := by
  go_enter Try.func84, Try.ntmps84
  go_wp2_with (go_at_call 98; refine (l00In_any _ _ _ _).mono ?_; rintro e w' ⟨rfl, rfl⟩)
  go_ret
  exact ⟨rfl, rfl⟩
/-- a share: from 0 to 1 -/
def shareB (x : Nat) : Bool := (FloatKind.f32.format.order x 0 == some .gt || FloatKind.f32.format.order x 0 == some .eq) && (FloatKind.f32.format.order x 1065353216 == some .lt || FloatKind.f32.format.order x 1065353216 == some .eq)
set_option maxHeartbeats 1000000 in
theorem isShare_any (x : Nat) (w : World) : Calls Try.prog 86 #[.float .f32 x] w fun e w' => e = .returned (.bool (shareB x)) ∧ w = w' := by
  have hX : shareB x = ((FloatKind.f32.format.order x 0 == some .gt || FloatKind.f32.format.order x 0 == some .eq) && (FloatKind.f32.format.order x 1065353216 == some .lt || FloatKind.f32.format.order x 1065353216 == some .eq)) := rfl
  rcases h1 : (FloatKind.f32.format.order x 0 == some .gt || FloatKind.f32.format.order x 0 == some .eq)
  all_goals
    rw [h1] at hX
    have HX := Lib.hid hX
    clear hX
    go_enter Try.func86, Try.ntmps86
    go_wp2
    go_ret
    exact ⟨ret_bool (by rw [HX.out]; simp), rfl⟩
set_option maxHeartbeats 1000000 in
theorem l02Share_any (x : Nat) (w : World) : Calls Try.prog 83 #[.float .f32 x] w fun e w' => e = .returned (.bool (shareB x)) ∧ w = w' := by
  have hX : shareB x = ((FloatKind.f32.format.order x 0 == some .gt || FloatKind.f32.format.order x 0 == some .eq) && (FloatKind.f32.format.order x 1065353216 == some .lt || FloatKind.f32.format.order x 1065353216 == some .eq)) := rfl
  rcases h1 : (FloatKind.f32.format.order x 0 == some .gt || FloatKind.f32.format.order x 0 == some .eq)
  all_goals
    rw [h1] at hX
    have HX := Lib.hid hX
    clear hX
    go_enter Try.func83, Try.ntmps83
    go_wp2
    go_ret
    exact ⟨ret_bool (by rw [HX.out]; simp), rfl⟩
/-- a share times 32768 is a number -/
theorem share_mul {x : Nat} (h : shareB x = true) : ∃ r, floatBits .mul .f32 x 1191182336 = some r := by
  have hr : FloatKind.f32.format.read 1191182336 = Ieee.Datum.number false 8388608 (-8) := by decide +kernel
  show ∃ r, FloatKind.f32.format.mul x 1191182336 = some r
  unfold Ieee.Format.mul
  rw [hr]
  cases hx : FloatKind.f32.format.read x with
  | number s m i => exact ⟨_, rfl⟩
  | infinity s => exact ⟨FloatKind.f32.format.write (.infinity (s ^^ false)), rfl⟩
  | nan s t =>
    exfalso
    have h0 : FloatKind.f32.format.order x 0 = none := by
      unfold Ieee.Format.order
      rw [hx]
      rfl
    unfold shareB at h
    rw [h0] at h
    simp at h
def dcell (r : Nat) (s : Int) : Bool := FloatKind.f32.format.order (floatOfInt .f32 (drw s 32768)) r == some .lt
def dseed (s : Int) : Nat → Int
  | 0 => s
  | k + 1 => nxt (dseed s k)
def dcells (r : Nat) (s : Int) (k : Nat) : List Bool := (List.range k).map fun i => dcell r (dseed s i)
theorem dseed_bd {s : Int} (h0 : 0 ≤ s) (h1 : s ≤ 2147483647) (k : Nat) : 0 ≤ dseed s k ∧ dseed s k ≤ 2147483647 := by
  cases k with
  | zero => exact ⟨h0, h1⟩
  | succ k => exact nxt_bd _
theorem dcells_len (r : Nat) (s : Int) (k : Nat) : (dcells r s k).length = k := by simp [dcells]
theorem dcells_succ (r : Nat) (s : Int) (k : Nat) : dcells r s (k + 1) = dcells r s k ++ [dcell r (dseed s k)] := by simp [dcells, List.range_succ]
end Go.Proofs.Ytbefcfdmaafghaa
