/- Numbers that are finite, and sums and means of floats: the small functions of the float laws. -/
import Derived.Test.YtcpimcjmckljfaaFop
import Derived.Test.YtcpimcjmckljfaaFlos
namespace Go.Proofs.Ytcpimcjmckljfaa
open Ieee Go.RowKit
theorem finB_nan {x : Nat} (h : nanF .f32 x = true) : finB x = false := finB_none (fb_nan arith_sub (.inl h))
theorem finB_sim {x y : Nat} (h : Sim .f32 x y) : finB x = finB y := by
  rcases h with rfl | ⟨h1, h2⟩
  · rfl
  · rw [finB_nan h1, finB_nan h2]
theorem fin_num {x : Nat} (h : finB x = true) : nanF .f32 x = false := by
  cases hn : nanF .f32 x
  · rfl
  · rw [finB_nan hn] at h; cases h
/-- a number, if it is finite -/
def numV (x : Nat) : Nat := if finB x = true then x else 0
theorem numV_sim {x y : Nat} (h : Sim .f32 x y) : numV x = numV y := by
  unfold numV
  cases hb : finB y
  · rw [finB_sim h, hb]; rfl
  · rw [finB_sim h, hb, h.eq (fin_num hb)]
theorem num_zero : nanF .f32 0 = false := by decide
theorem numV_num (x : Nat) : nanF .f32 (numV x) = false := by
  unfold numV
  split
  · rename_i h; exact fin_num h
  · exact num_zero
set_option maxHeartbeats 400000 in
theorem ifNumber_any (x c : Nat) (w : World) (h : Sim .f32 x c) : Calls Try.prog 51 #[.float .f32 x] w fun e w' => e = .returned (.tuple #[.float .f32 (numV c), .bool (finB c)]) ∧ ∃ m, w' = w.drewN m := by
  have HN := Lib.hid (numV_sim h)
  have c63 := isFinite_any x w
  rw [finB_sim h] at c63
  cases hb : finB c
  · rw [hb] at c63
    have HV : Hid (numV c = 0) := Lib.hid (by unfold numV; rw [hb]; rfl)
    have HC := Lib.hid c63
    clear c63 hb h
    go_enter Try.func51, Try.ntmps51
    go_wp2_with fail
    refine HC.out.mono ?_
    rintro e w' ⟨rfl, m, rfl⟩
    go_wp2
    go_ret2
    exact ⟨by rw [HV.out]; rfl, m, rfl⟩
  · rw [hb] at c63
    have HV : Hid (numV c = x) := Lib.hid (by unfold numV; rw [hb, h.eq (fin_num hb)]; rfl)
    have HC := Lib.hid c63
    clear c63 hb h
    go_enter Try.func51, Try.ntmps51
    go_wp2_with fail
    refine HC.out.mono ?_
    rintro e w' ⟨rfl, m, rfl⟩
    go_wp2
    go_ret2
    exact ⟨by rw [HV.out]; rfl, m, rfl⟩
set_option maxHeartbeats 400000 in
theorem l02Number_any (x c : Nat) (w : World) (h : Sim .f32 x c) : Calls Try.prog 49 #[.float .f32 x] w fun e w' => e = .returned (.tuple #[.float .f32 (numV c), .bool (finB c)]) ∧ ∃ m, w' = w.drewN m := by
  have HN := Lib.hid (numV_sim h)
  have c63 := l01Finite_any x w
  rw [finB_sim h] at c63
  cases hb : finB c
  · rw [hb] at c63
    have HV : Hid (numV c = 0) := Lib.hid (by unfold numV; rw [hb]; rfl)
    have HC := Lib.hid c63
    clear c63 hb h
    go_enter Try.func49, Try.ntmps49
    go_wp2_with fail
    refine HC.out.mono ?_
    rintro e w' ⟨rfl, m, rfl⟩
    go_wp2
    go_ret2
    exact ⟨by rw [HV.out]; rfl, m, rfl⟩
  · rw [hb] at c63
    have HV : Hid (numV c = x) := Lib.hid (by unfold numV; rw [hb, h.eq (fin_num hb)]; rfl)
    have HC := Lib.hid c63
    clear c63 hb h
    go_enter Try.func49, Try.ntmps49
    go_wp2_with fail
    refine HC.out.mono ?_
    rintro e w' ⟨rfl, m, rfl⟩
    go_wp2
    go_ret2
    exact ⟨by rw [HV.out]; rfl, m, rfl⟩
/-- the sum from the left -/
def sumF (xs : List Nat) : Nat := xs.foldl (fop .add .f32) 0
theorem sumF_snoc (xs : List Nat) (x : Nat) : sumF (xs ++ [x]) = fop .add .f32 (sumF xs) x := by unfold sumF; rw [List.foldl_append]; rfl
theorem sumF_take {xs : List Nat} {k : Nat} (h : k < xs.length) : sumF (xs.take (k + 1)) = fop .add .f32 (sumF (xs.take k)) xs[k] := by
  rw [List.take_succ_eq_append_getElem h, sumF_snoc]
/-- two lists of floats, the same but for NaNs' bits -/
def SimL (xs ys : List Nat) : Prop := xs.length = ys.length ∧ ∀ (i x y : Nat), xs[i]? = some x → ys[i]? = some y → Sim .f32 x y
theorem SimL.snoc {xs ys : List Nat} {x y : Nat} (h : SimL xs ys) (hx : Sim .f32 x y) : SimL (xs ++ [x]) (ys ++ [y]) := by
  refine ⟨by simp [h.1], fun i a b ha hb => ?_⟩
  rw [List.getElem?_append] at ha hb
  by_cases hi : i < xs.length
  · rw [if_pos hi] at ha
    rw [if_pos (by rw [← h.1]; exact hi)] at hb
    exact h.2 i a b ha hb
  · rw [if_neg hi] at ha
    rw [if_neg (by rw [← h.1]; exact hi)] at hb
    have := (List.getElem?_eq_some_iff.1 ha).1
    have h0 : i - xs.length = 0 := by simp at this; omega
    rw [h0] at ha
    rw [← h.1, h0] at hb
    simp at ha hb
    subst ha hb
    exact hx
theorem SimL.refl (xs : List Nat) : SimL xs xs := ⟨rfl, fun i x y hx hy => by rw [hx] at hy; cases hy; exact .refl _ _⟩
theorem sumF_sim : ∀ {xs ys : List Nat}, SimL xs ys → Sim .f32 (sumF xs) (sumF ys) := by
  suffices h : ∀ (xs ys : List Nat) (a b : Nat), SimL xs ys → Sim .f32 a b → Sim .f32 (xs.foldl (fop .add .f32) a) (ys.foldl (fop .add .f32) b) from fun {xs ys} h' => h xs ys 0 0 h' (.refl _ _)
  intro xs
  induction xs with
  | nil =>
    intro ys a b h hab
    obtain rfl : ys = [] := List.eq_nil_of_length_eq_zero h.1.symm
    exact hab
  | cons x r ih =>
    intro ys a b h hab
    rcases ys with _ | ⟨y, s⟩
    · have := h.1; simp at this
    · rw [List.foldl_cons, List.foldl_cons]
      refine ih s _ _ ⟨by simpa using h.1, fun i u v hu hv => h.2 (i + 1) u v (by simpa using hu) (by simpa using hv)⟩ ?_
      exact fop_sim arith_add hab (h.2 0 x y rfl rfl)
/-- the mean -/
def meanF (xs : List Nat) : Nat := fop .quo .f32 (sumF xs) (floatOfInt .f32 (xs.length : Int))
set_option maxHeartbeats 1000000 in
theorem l06Mean_any (A : Option Addr) (n c : Nat) (xs : List Nat) (w : World) (hn : xs.length = n) (hm : n ≤ 140737488351232) (hr : Rd w w.heap.size A (xs.map (Value.float .f32))) :
    Calls Try.prog 48 #[.slice A n c] w fun e w' => (∃ r, e = .returned (.float .f32 r) ∧ Sim .f32 r (meanF xs)) ∧ ∃ m, w' = w.drewN m := by
  have Hn := Lib.hid hn; clear hn
  have Hr := Lib.hid hr; clear hr
  have hcv := fun (n : Int) (w : World) => run_convert_int_float (P := Try.prog) w 3 23 .i64 .f32 n (by rw [Try.underlying3]; rfl) Try.underlying23
  go_enter Try.func48, Try.ntmps48
  go_wp2
  go_loopw [3, 4] (fun s i wr => ∃ (k z : Nat), k ≤ n ∧ i = .int .i64 k ∧ s = .float .f32 z ∧ Sim .f32 z (sumF (xs.take k)) ∧ ∃ m, wr = w.drewN m) (fun _ i _ => n - (intOf i).toNat)
  case atStart => exact ⟨0, 0, Nat.zero_le _, rfl, rfl, .refl _ _, 0, rfl⟩
  case round =>
    obtain ⟨k, z, hk, rfl, rfl, hz, m, rfl⟩ := hrel
    have HZ := Lib.hid hz; clear hz
    by_cases hlt : k < n
    · have hka : k < xs.length := by rw [Hn.out]; exact hlt
      obtain ⟨ad, rfl, hab, hcell⟩ := Hr.out.at_ (k := k) (by rw [List.length_map]; exact hka)
      rw [List.getElem_map] at hcell
      have HS := Lib.hid (sumF_take hka)
      obtain ⟨x, hx⟩ : ∃ x, x = xs[k] := ⟨_, rfl⟩
      rw [← hx] at hcell HS
      clear hx
      go_wp2_with (refine wpList_fop rfl .add 23 _ _ 23 rfl arith_add .f32 _ _ rfl rfl ?_; intro r1 m1 h1)
      have H1 := Lib.hid (h1.trans (fop_sim arith_add HZ.out (.refl _ x)))
      clear h1
      go_wp2
      go_roundw
      case rel => exact ⟨k + 1, r1, by omega, by go_num, rfl, by rw [HS.out]; exact H1.out, _, by first | rfl | exact World.drewN_drewN ..⟩
      case measure => simp [intOf]; omega
    · obtain rfl : n = k := by omega
      have HT : Hid (meanF xs = fop .quo .f32 (sumF (xs.take n)) (floatOfInt .f32 (n : Int))) := Lib.hid (by unfold meanF; rw [List.take_of_length_le (by rw [Hn.out]; omega), Hn.out])
      go_wp2_with (refine wpList_fop rfl .quo 23 _ _ 23 rfl arith_quo .f32 _ _ rfl rfl ?_; intro r1 m1 h1)
      have H1 := Lib.hid (h1.trans (fop_sim arith_quo HZ.out (.refl _ _)))
      clear h1
      go_wp2
      go_ret
      exact ⟨⟨r1, rfl, by rw [HT.out]; exact H1.out⟩, _, by first | rfl | exact World.drewN_drewN ..⟩
end Go.Proofs.Ytcpimcjmckljfaa
