/- GapRatio. -/
import Derived.Test.YtbojlgbkkdnegaaBo
namespace Go.Proofs.Ytbojlgbkkdnegaa
open Go.RowKit
/-- a mass as a float -/
def fOf (m : Int) : Nat := floatOfInt .f32 m
def sqOf (m : Int) : Nat := fop .mul .f32 (fOf m) (fOf m)
/-- the mean of the squares over the square of the mean -/
def gapC (xs : List Int) : Nat :=
  let n := floatOfInt .f32 (xs.length : Int)
  let m := fop .quo .f32 (sumF (xs.map fOf)) n
  fop .quo .f32 (fop .quo .f32 (sumF (xs.map sqOf)) n) (fop .mul .f32 m m)
def gapR (xs : List Int) : Nat := if massB xs = true then numV (gapC xs) else 0
def gapB (xs : List Int) : Bool := massB xs && finB (gapC xs)
theorem gapR_num (xs : List Int) : nanF .f32 (gapR xs) = false := by
  unfold gapR
  split
  · exact numV_num _
  · exact num_zero
theorem massB_len {xs : List Int} (h : massB xs = true) : 1 ≤ xs.length ∧ xs.length ≤ 256 := by
  unfold massB at h
  rw [Bool.and_eq_true, decide_eq_true_eq] at h
  exact h.1
theorem mapF_take {f : Int → Nat} {xs : List Int} {k : Nat} (h : k < xs.length) : sumF ((xs.take (k + 1)).map f) = fop .add .f32 (sumF ((xs.take k).map f)) (f xs[k]) := by
  rw [List.take_succ_eq_append_getElem h, List.map_append]
  exact sumF_snoc _ _
set_option maxHeartbeats 2000000 in
theorem gapRatio_any (A : Option Addr) (n c : Nat) (xs : List Int) (w : World) (hn : xs.length = n) (hm : n ≤ 1048576) (hr : Rd w w.heap.size A (xs.map (Value.int .i64))) (_hw : ∀ a ∈ xs, -9223372036854775808 ≤ a ∧ a ≤ 9223372036854775807) :
    Calls Try.prog 21 #[.slice A n c] w fun e w' => e = .returned (.tuple #[.float .f32 (gapR xs), .bool (gapB xs)]) ∧ Below w.heap.size w w' := by
  have c50 := areMasses_any A n c xs w hn hm hr
  have hcv := fun (n : Int) (w : World) => run_convert_int_float (P := Try.prog) w 3 25 .i64 .f32 n (by rw [Try.underlying3]; rfl) Try.und25
  have hcv2 := fun (n : Int) (w : World) => run_convert_int_float (P := Try.prog) w 2 25 .i64 .f32 n (by rw [Try.underlying2]; rfl) Try.und25
  cases hb : massB xs
  · rw [hb] at c50
    have HC := Lib.hid c50
    have HR : Hid (gapR xs = 0 ∧ gapB xs = false) := Lib.hid (by unfold gapR gapB; rw [hb]; exact ⟨rfl, rfl⟩)
    clear c50 hb hr hn
    go_enter Try.func21, Try.ntmps21
    go_wp2_with fail
    refine HC.out.mono ?_
    rintro e w1 ⟨rfl, hb⟩
    have HB := Lib.hid hb; clear hb
    go_wp2
    go_ret2
    exact ⟨by rw [HR.out.1, HR.out.2]; rfl, HB.out⟩
  · obtain ⟨l1, l2⟩ := massB_len hb
    rw [hn] at l1 l2
    rw [hb] at c50
    have HC := Lib.hid c50
    have HR : Hid (gapR xs = numV (gapC xs) ∧ gapB xs = finB (gapC xs)) := Lib.hid (by unfold gapR gapB; rw [hb]; exact ⟨rfl, rfl⟩)
    have Hr := Lib.hid hr
    have Hn := Lib.hid hn
    clear c50 hb hr hn
    go_enter Try.func21, Try.ntmps21
    go_wp2_with fail
    refine HC.out.mono ?_
    rintro e w1 ⟨rfl, hb⟩
    have HB := Lib.hid hb
    have R1 := Lib.hid (Hr.out.next hb)
    clear hb
    go_wp2_with fail
    go_loopw [4, 5, 16] (fun q s i wr => ∃ (k a b : Nat), k ≤ n ∧ i = .int .i64 k ∧ q = .float .f32 a ∧ s = .float .f32 b ∧ Hid (Sim .f32 a (sumF ((xs.take k).map sqOf))) ∧ Hid (Sim .f32 b (sumF ((xs.take k).map fOf))) ∧ ∃ m, wr = w1.drewN m) (fun _ _ i _ => n - (intOf i).toNat)
    case atStart => exact ⟨0, 0, 0, Nat.zero_le _, rfl, rfl, rfl, Lib.hid (.refl _ _), Lib.hid (.refl _ _), 0, rfl⟩
    case round =>
      obtain ⟨k, a, b, hk, rfl, rfl, rfl, HA, HS, m, rfl⟩ := hrel
      by_cases hlt : k < n
      · have hka : k < xs.length := by rw [Hn.out]; exact hlt
        obtain ⟨ad, rfl, _, hck⟩ := R1.out.at_ (k := k) (by rw [List.length_map]; exact hka)
        rw [List.getElem_map] at hck
        have HQ := Lib.hid (mapF_take (f := sqOf) hka)
        have HF := Lib.hid (mapF_take (f := fOf) hka)
        obtain ⟨x, hx⟩ : ∃ x, x = xs[k] := ⟨_, rfl⟩
        rw [← hx] at hck HQ HF
        clear hx
        go_wp2_with (first
          | (refine wpList_fop rfl .mul 25 _ _ 25 rfl arith_mul .f32 _ _ rfl rfl ?_; intro r1 m1 h1)
          | (refine wpList_fop rfl .add 25 (.tmp 22) (.tmp 25) 25 rfl arith_add .f32 _ _ rfl rfl ?_; intro r2 m2 h2)
          | (refine wpList_fop rfl .add 25 (.tmp 27) (.tmp 28) 25 rfl arith_add .f32 _ _ rfl rfl ?_; intro r3 m3 h3))
        have H2 := Lib.hid (h2.trans (fop_sim arith_add HA.out h1))
        have H3 := Lib.hid (h3.trans (fop_sim arith_add HS.out (.refl _ (fOf x))))
        clear h1 h2 h3
        go_wp2
        go_roundw
        case rel => exact ⟨k + 1, r2, r3, by omega, by go_num, rfl, rfl, Lib.hid (by rw [HQ.out]; exact H2.out), Lib.hid (by rw [HF.out]; exact H3.out), _, by first | rfl | exact World.drewN_drewN ..⟩
        case measure => simp [intOf]; omega
      · obtain rfl : n = k := by omega
        have hT : xs.take n = xs := List.take_of_length_le (by rw [Hn.out]; omega)
        have HA2 : Hid (Sim .f32 a (sumF (xs.map sqOf))) := Lib.hid (by have h := HA.out; rwa [hT] at h)
        have HS2 : Hid (Sim .f32 b (sumF (xs.map fOf))) := Lib.hid (by have h := HS.out; rwa [hT] at h)
        have HG : Hid (gapC xs = fop .quo .f32 (fop .quo .f32 (sumF (xs.map sqOf)) (floatOfInt .f32 (n : Int))) (fop .mul .f32 (fop .quo .f32 (sumF (xs.map fOf)) (floatOfInt .f32 (n : Int))) (fop .quo .f32 (sumF (xs.map fOf)) (floatOfInt .f32 (n : Int))))) := Lib.hid (by unfold gapC; rw [Hn.out])
        clear hT HA HS
        go_wp2_with (first
          | (refine wpList_fop rfl .quo 25 (.tmp 34) (.tmp 35) 25 rfl arith_quo .f32 _ _ rfl rfl ?_; intro r1 m1 h1)
          | (refine wpList_fop rfl .quo 25 (.tmp 37) (.tmp 38) 25 rfl arith_quo .f32 _ _ rfl rfl ?_; intro r2 m2 h2)
          | (refine wpList_fop rfl .mul 25 _ _ 25 rfl arith_mul .f32 _ _ rfl rfl ?_; intro r3 m3 h3)
          | (refine wpList_fop rfl .quo 25 (.tmp 39) (.tmp 42) 25 rfl arith_quo .f32 _ _ rfl rfl ?_; intro r4 m4 h4))
        have s1 := h1.trans (fop_sim arith_quo HS2.out (.refl _ _))
        have s2 := h2.trans (fop_sim arith_quo HA2.out (.refl _ _))
        have s3 := h3.trans (fop_sim arith_mul s1 s1)
        have s4 := h4.trans (fop_sim arith_quo s2 s3)
        have HI := Lib.hid (fun W => ifNumber_any r4 (gapC xs) W (by rw [HG.out]; exact s4))
        clear h1 h2 h3 h4 s1 s2 s3 s4
        refine (HI.out _).mono ?_
        rintro e w' ⟨rfl, m9, rfl⟩
        go_wp2
        go_ret2
        exact ⟨by rw [HR.out.1, HR.out.2]; rfl, by repeat (first | exact HB.out | apply below_drewN)⟩
end Go.Proofs.Ytbojlgbkkdnegaa
