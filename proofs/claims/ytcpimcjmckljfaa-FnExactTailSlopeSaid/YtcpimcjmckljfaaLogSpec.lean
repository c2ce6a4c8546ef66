/- The logarithm, the reference's way; the logarithm of a float32 that is positive, both ways. -/
import Derived.Test.YtcpimcjmckljfaaLogWalk
namespace Go.Proofs.Ytcpimcjmckljfaa
open Ieee Go.RowKit
theorem order_pos_zero {b : Nat} (h1 : bin ≤ b) (h2 : b < inf64) : FloatKind.f64.format.order b 0 = some .gt := by
  have hr := read64 h1 h2
  have h0 : FloatKind.f64.format.read 0 = .number false 0 (-1074) := by decide
  unfold Format.order
  rw [hr, h0]
  unfold Datum.order
  dsimp only
  have hm : 0 < signed false (bin + b % bin) ((-1074 + ((b / bin - 1 : Nat) : Int)) - min (-1074 + ((b / bin - 1 : Nat) : Int)) (-1074)).toNat := by
    unfold signed
    rw [if_neg (by decide), Nat.shiftLeft_eq]
    have : 0 < (bin + b % bin) * 2 ^ ((-1074 + ((b / bin - 1 : Nat) : Int)) - min (-1074 + ((b / bin - 1 : Nat) : Int)) (-1074)).toNat := Nat.mul_pos (by unfold bin; omega) (Nat.two_pow_pos _)
    omega
  have hz : signed false 0 ((-1074 : Int) - min (-1074 + ((b / bin - 1 : Nat) : Int)) (-1074)).toNat = 0 := by
    unfold signed
    simp
  rw [hz, Int.compare_eq_gt.2 hm]
set_option maxHeartbeats 400000 in
theorem isInf_pos (b : Nat) (w : World) (h : 870 * bin ≤ b ∧ b < 1152 * bin) : Calls Try.prog 109 #[.float .f64 b, .int .i64 1] w fun e w' => e = .returned (.bool false) ∧ w = w' := by
  have ho : FloatKind.f64.format.order b 9218868437227405311 = some .lt := (order_lt (a := b) (c := 9218868437227405311) (by unfold bin at *; omega) (by unfold bin at *; omega) (by decide)).1
  clear h
  go_enter Try.func109, Try.ntmps109
  go_wp2
  go_ret
  exact ⟨rfl, rfl⟩
set_option maxHeartbeats 4000000 in
set_option maxRecDepth 100000 in
theorem l01LogWide_any (b : Nat) (w : World) (hb : 870 * bin ≤ b ∧ b < 1152 * bin) :
    Calls Try.prog 93 #[.float .f64 b] w fun e w' => e = .returned (.float .f64 (logW b)) ∧ ∃ m, w' = w.drewN m := by
  have hbb : bin ≤ b ∧ b < inf64 := by unfold bin inf64 at *; omega
  have hself : FloatKind.f64.format.order b b = some .eq := order_eq hbb.1 hbb.2
  have hzero : FloatKind.f64.format.order b 0 = some .gt := order_pos_zero hbb.1 hbb.2
  have HI := Lib.hid (fun W => isInf_pos b W hb)
  have HB := Lib.hid hb; clear hb hbb
  have hcv := fun (n : Int) (w : World) => run_convert_int_float (P := Try.prog) w 3 28 .i64 .f64 n (by rw [Try.underlying3]; rfl) Try.underlying28
  go_enter Try.func93, Try.ntmps93
  go_wp2_with fail
  refine (HI.out _).mono ?_
  rintro e w' ⟨rfl, rfl⟩
  clear hself hzero
  go_wp2_with fail
  go_loop [0, 3] (fun x e => ∃ (j y : Nat), x = .float .f64 y ∧ e = .int .i64 (j : Int) ∧ Hid (y + j * bin = b ∧ (j = 0 ∨ c075 ≤ y)) ∧ j ≤ 200) (fun x _ => bitsOf x)
  case atStart => exact ⟨0, b, rfl, rfl, Lib.hid ⟨by omega, .inl rfl⟩, by omega⟩
  case round =>
    obtain ⟨j, y, rfl, rfl, HY, hj200⟩ := hrel
    by_cases hge : c15 ≤ y
    · have hy2 : 2 * bin ≤ y ∧ y < inf64 := by have h1 := HY.out; have h2 := HB.out; unfold bin c15 inf64 at *; omega
      have hj : j < 200 := by have h1 := HY.out; have h2 := HB.out; unfold bin c15 at *; omega
      have hq : ∀ t w, (binOp .quo t (.float .f64 y) (.float .f64 4611686018427387904)).run Try.prog w = .ok (.float .f64 (y - bin)) w := fun t w => run_float_arith w .quo t .f64 _ _ _ (half_word hy2.1 hy2.2)
      have HY2 : Hid ((y - bin) + (j + 1) * bin = b ∧ (j + 1 = 0 ∨ c075 ≤ y - bin)) := Lib.hid (by have h1 := HY.out; unfold bin c15 c075 at *; omega)
      have HM : Hid (y - bin < y) := Lib.hid (by unfold bin at *; omega)
      have HO : Hid (FloatKind.f64.format.order y 4609434218613702656 = some .gt ∨ FloatKind.f64.format.order y 4609434218613702656 = some .eq) := Lib.hid (by
        by_cases he : y = c15
        · right; rw [he]; exact order_eq (by decide) (by decide)
        · left; exact (order_lt (a := c15) (c := y) (by decide) (by omega) hy2.2).2)
      obtain ⟨z, hz⟩ : ∃ z, z = y - bin := ⟨_, rfl⟩
      rw [← hz] at hq HY2 HM
      clear hge hy2 hz
      rcases HO.out with ho | ho
      all_goals
        go_wp2
        go_round
        case rel => exact ⟨j + 1, z, rfl, by go_num, HY2, by omega⟩
        case measure => exact HM.out
    · have hy1 : bin ≤ y ∧ y < inf64 := by have h1 := HY.out; have h2 := HB.out; unfold bin c15 c075 inf64 at *; omega
      have ho : FloatKind.f64.format.order y 4609434218613702656 = some .lt := (order_lt (a := y) (c := c15) hy1.1 (by omega) (by decide)).1
      have HG := Lib.hid hge
      clear hge hy1
      go_wp2
      go_loop [0, 3] (fun x e => ∃ (l z : Nat) (ev : Int), x = .float .f64 z ∧ e = .int .i64 ev ∧ Hid (z = y + l * bin ∧ (j = 0 ∨ l = 0) ∧ z < c15 ∧ ev = (j : Int) - (l : Int)) ∧ -200 ≤ ev ∧ ev ≤ 200) (fun x _ => c075 - bitsOf x)
      case atStart => exact ⟨0, y, (j : Int), rfl, rfl, Lib.hid ⟨by omega, .inr rfl, by have := HG.out; omega, by omega⟩, by omega, by omega⟩
      case round =>
        obtain ⟨l, z, ev, rfl, rfl, HZ, ev1, ev2⟩ := hrel
        by_cases hlt : z < c075
        · have hj0 : j = 0 := by
            have h1 := HZ.out
            have h2 := HY.out
            rcases h1.2.1 with h3 | h3
            · exact h3
            · rw [h3] at h1
              rcases h2.2 with h4 | h4
              · exact h4
              · omega
          have HJ := Lib.hid hj0
          clear hj0
          have hev : -200 < ev := by have h1 := HZ.out; have h2 := HY.out; have h3 := HB.out; have h4 := HJ.out; unfold bin c075 at *; omega
          have hz1 : bin ≤ z ∧ z + bin < inf64 := by have h1 := HZ.out; have h2 := HY.out; have h3 := HB.out; unfold bin c075 inf64 at *; omega
          have hq : ∀ t w, (binOp .mul t (.float .f64 z) (.float .f64 4611686018427387904)).run Try.prog w = .ok (.float .f64 (z + bin)) w := fun t w => run_float_arith w .mul t .f64 _ _ _ (dbl_word hz1.1 hz1.2)
          have HZ2 : Hid (z + bin = y + (l + 1) * bin ∧ (j = 0 ∨ l + 1 = 0) ∧ z + bin < c15 ∧ ev - 1 = (j : Int) - ((l + 1 : Nat) : Int)) := Lib.hid (by have h1 := HZ.out; refine ⟨?_, .inl HJ.out, ?_, ?_⟩ <;> (unfold bin c15 c075 at *; omega))
          have HM : Hid (c075 - (z + bin) < c075 - z) := Lib.hid (by unfold bin c075 at *; omega)
          have ho : FloatKind.f64.format.order z 4604930618986332160 = some .lt := (order_lt (a := z) (c := c075) hz1.1 hlt (by decide)).1
          obtain ⟨v, hv⟩ : ∃ v, v = z + bin := ⟨_, rfl⟩
          rw [← hv] at hq HZ2 HM
          clear hlt hz1 hv
          go_wp2
          go_round
          case rel => exact ⟨l + 1, v, ev - 1, rfl, rfl, HZ2, by omega, by omega⟩
          case measure => exact HM.out
        · have hz2 : z < inf64 := by have h1 := HZ.out; unfold c15 inf64 at *; omega
          have HO : Hid (FloatKind.f64.format.order z 4604930618986332160 = some .gt ∨ FloatKind.f64.format.order z 4604930618986332160 = some .eq) := Lib.hid (by
            by_cases he : z = c075
            · right; rw [he]; exact order_eq (by decide) (by decide)
            · left; exact (order_lt (a := c075) (c := z) (by decide) (by omega) hz2).2)
          have HT := Lib.hid (log_mid (b := b) (t := z) (e := ev) (by have h1 := HZ.out; rw [h1.2.2.2]; have h2 := HY.out; have h3 : ((j * bin : Nat) : Int) = (j : Int) * (bin : Int) := Int.natCast_mul _ _; have h4 : ((l * bin : Nat) : Int) = (l : Int) * (bin : Int) := Int.natCast_mul _ _; rw [Int.sub_mul, ← h3, ← h4]; omega) (by omega) HZ.out.2.2.1)
          have HE : Hid (-200 ≤ ev ∧ ev ≤ 200) := Lib.hid ⟨ev1, ev2⟩
          have HR : Hid (c075 ≤ z ∧ z < c15) := Lib.hid ⟨by omega, HZ.out.2.2.1⟩
          clear hlt hz2
          rcases HO.out with ho | ho
          all_goals
            go_wp2_with (first
              | (refine wpList_fop rfl .sub 28 (.tmp 37) _ 28 rfl arith_sub .f64 _ _ rfl rfl ?_; intro r1 m1 h1)
              | (refine wpList_fop rfl .add 28 (.tmp 39) _ 28 rfl arith_add .f64 _ _ rfl rfl ?_; intro r2 m2 h2)
              | (refine wpList_fop rfl .quo 28 (.tmp 38) (.tmp 40) 28 rfl arith_quo .f64 _ _ rfl rfl ?_; intro r3 m3 h3)
              | (refine wpList_fop rfl .mul 28 (.tmp 42) (.tmp 43) 28 rfl arith_mul .f64 _ _ rfl rfl ?_; intro r4 m4 h4))
            have HS := Lib.hid (h3.trans (fop_sim arith_quo h1 h2))
            have HU := Lib.hid (h4.trans (fop_sim arith_mul HS.out HS.out))
            clear h1 h2 h3 h4
            go_loopw [6, 7] (fun q k wr => ∃ (j v : Nat) (d : Int), j ≤ 13 ∧ k = .int .i64 d ∧ d = 25 - 2 * (j : Int) ∧ q = .float .f64 v ∧ Hid (Sim .f64 v (logQ (logU z) j)) ∧ ∃ m, wr = w.drewN m) (fun _ k _ => (intOf k + 2).toNat)
            case atStart => exact ⟨0, 0, 25, by omega, rfl, rfl, rfl, Lib.hid (.refl _ _), _, rfl⟩
            case round =>
              obtain ⟨j', v, d, hj13, rfl, hd, rfl, HV, m, rfl⟩ := hrel
              have HD := Lib.hid hd
              have hd1 : -1 ≤ d ∧ d ≤ 25 := by omega
              obtain ⟨hd1, hd2⟩ := hd1
              by_cases hlt : j' < 13
              · have hd3 : 1 ≤ d := by omega
                clear hd
                go_wp2_with (first
                    | (refine wpList_fop rfl .quo 28 _ (.tmp 50) 28 rfl arith_quo .f64 _ _ rfl rfl ?_; intro r5 m5 h5)
                    | (refine wpList_fop rfl .mul 28 (.tmp 52) (.tmp 53) 28 rfl arith_mul .f64 _ _ rfl rfl ?_; intro r6 m6 h6)
                    | (refine wpList_fop rfl .add 28 (.tmp 51) (.tmp 54) 28 rfl arith_add .f64 _ _ rfl rfl ?_; intro r7 m7 h7))
                have HV2 : Hid (Sim .f64 r7 (logQ (logU z) (j' + 1))) := Lib.hid (by
                    show Sim .f64 r7 (fop .add .f64 (fop .quo .f64 c1 (iof (25 - 2 * (j' : Int)))) (fop .mul .f64 (logU z) (logQ (logU z) j')))
                    rw [← HD.out]
                    exact h7.trans (fop_sim arith_add h5 (h6.trans (fop_sim arith_mul HU.out HV.out))))
                clear h5 h6 h7
                go_wp2
                go_roundw
                case rel => exact ⟨j' + 1, r7, d - 2, by omega, rfl, by have := HD.out; omega, rfl, HV2, _, by first | rfl | exact World.drewN_drewN ..⟩
                case measure => simp [intOf]; omega
              · have hj' : j' = 13 := by omega
                have hd3 : ¬ 1 ≤ d := by omega
                have HV13 : Hid (Sim .f64 v (logQ (logU z) 13)) := Lib.hid (by rw [← hj']; exact HV.out)
                clear hj' hd
                go_wp2_with (first
                  | (refine wpList_fop rfl .mul 28 (.tmp 56) (.tmp 57) 28 rfl arith_mul .f64 _ _ rfl rfl ?_; intro r5 m5 h5)
                  | (refine wpList_fop rfl .mul 28 _ (.tmp 58) 28 rfl arith_mul .f64 _ _ rfl rfl ?_; intro r6 m6 h6)
                  | (refine wpList_fop rfl .mul 28 (.tmp 61) _ 28 rfl arith_mul .f64 _ _ rfl rfl ?_; intro r7 m7 h7)
                  | (refine wpList_fop rfl .add 28 (.tmp 59) (.tmp 62) 28 rfl arith_add .f64 _ _ rfl rfl ?_; intro r8 m8 h8))
                have HF : Hid (r8 = logW b) := Lib.hid (by
                  have hsim : Sim .f64 r8 (logR z ev) := h8.trans (fop_sim arith_add (h6.trans (fop_sim arith_mul (.refl _ _) (h5.trans (fop_sim arith_mul HS.out HV13.out)))) h7)
                  have he := hsim.eq (fits_num (logR_fits HR.out.1 HR.out.2 HE.out.1 HE.out.2))
                  rw [he]
                  unfold logW
                  rw [HT.out.1, HT.out.2])
                clear h5 h6 h7 h8
                go_wp2
                go_ret
                exact ⟨by rw [← HF.out]; rfl, _, by first | rfl | exact World.drewN_drewN ..⟩
end Go.Proofs.Ytcpimcjmckljfaa
