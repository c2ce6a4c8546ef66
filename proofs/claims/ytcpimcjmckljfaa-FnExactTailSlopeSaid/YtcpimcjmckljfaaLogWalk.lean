/- The logarithm's walks, both ways. -/
import Derived.Test.YtcpimcjmckljfaaLogB
import Derived.Test.YtcpimcjmckljfaaNums
import Derived.Outline
import Derived.Deep.LoopGhost
namespace Go.Proofs.Ytcpimcjmckljfaa
open Go.RowKit
/-- how many halves the number is from the middle -/
def logE (b : Nat) : Int := ((b : Int) - (c075 : Int)) / (bin : Int)
/-- the number in the middle -/
def logT (b : Nat) : Nat := ((c075 : Int) + ((b : Int) - (c075 : Int)) % (bin : Int)).toNat
def logW (b : Nat) : Nat := logR (logT b) (logE b)
theorem log_mid {b t : Nat} {e : Int} (h : (t : Int) + e * (bin : Int) = b) (h1 : c075 ≤ t) (h2 : t < c15) : logT b = t ∧ logE b = e := by
  have h3 : (b : Int) - (c075 : Int) = ((t : Int) - (c075 : Int)) + (bin : Int) * e := by rw [Int.mul_comm]; omega
  have hb : (0 : Int) ≤ (t : Int) - (c075 : Int) ∧ (t : Int) - (c075 : Int) < (bin : Int) := by unfold c075 c15 bin at *; omega
  unfold logT logE
  rw [h3, Int.add_mul_emod_self_left, Int.add_mul_ediv_left _ _ (by decide), Int.emod_eq_of_lt hb.1 hb.2, Int.ediv_eq_zero_of_lt hb.1 hb.2]
  omega
def bitsOf : Value → Nat | .float _ n => n | _ => 0
theorem lit_c2 : c2 = 4611686018427387904 := rfl
set_option maxHeartbeats 4000000 in
set_option maxRecDepth 100000 in
theorem naturalLog_any (b : Nat) (w : World) (hb : 870 * bin ≤ b ∧ b < 1152 * bin) :
    Calls Try.prog 96 #[.float .f64 b] w fun e w' => e = .returned (.float .f64 (logW b)) ∧ ∃ m, w' = w.drewN m := by
  have HB := Lib.hid hb; clear hb
  go_enter Try.func96, Try.ntmps96
  go_wp2
  go_loop [0, 3] (fun x e => ∃ (j y : Nat), x = .float .f64 y ∧ e = .float .f64 (iof (j : Int)) ∧ Hid (y + j * bin = b ∧ (j = 0 ∨ c075 ≤ y))) (fun x _ => bitsOf x)
  case atStart => exact ⟨0, b, rfl, by rw [show ((0 : Nat) : Int) = 0 from rfl, iof_zero], Lib.hid ⟨by omega, .inl rfl⟩⟩
  case round =>
    obtain ⟨j, y, rfl, rfl, HY⟩ := hrel
    by_cases hge : c15 ≤ y
    · have hy2 : 2 * bin ≤ y ∧ y < inf64 := by have h1 := HY.out; have h2 := HB.out; unfold bin c15 inf64 at *; omega
      have hj : j < 200 := by have h1 := HY.out; have h2 := HB.out; unfold bin c15 at *; omega
      have hq : ∀ t w, (binOp .quo t (.float .f64 y) (.float .f64 4611686018427387904)).run Try.prog w = .ok (.float .f64 (y - bin)) w := fun t w => run_float_arith w .quo t .f64 _ _ _ (half_word hy2.1 hy2.2)
      have ha : ∀ t w, (binOp .add t (.float .f64 (iof (j : Int))) (.float .f64 4607182418800017408)).run Try.prog w = .ok (.float .f64 (iof ((j : Int) + 1))) w := fun t w => run_float_arith w .add t .f64 _ _ _ (iof_up hj)
      have HY2 : Hid ((y - bin) + (j + 1) * bin = b ∧ (j + 1 = 0 ∨ c075 ≤ y - bin)) := Lib.hid (by have h1 := HY.out; unfold bin c15 c075 at *; omega)
      have HM : Hid (y - bin < y) := Lib.hid (by unfold bin at *; omega)
      have HO : Hid (FloatKind.f64.format.order y 4609434218613702656 = some .gt ∨ FloatKind.f64.format.order y 4609434218613702656 = some .eq) := Lib.hid (by
        by_cases he : y = c15
        · right; rw [he]; exact order_eq (by decide) (by decide)
        · left; exact (order_lt (a := c15) (c := y) (by decide) (by omega) hy2.2).2)
      obtain ⟨z, hz⟩ : ∃ z, z = y - bin := ⟨_, rfl⟩
      rw [← hz] at hq HY2 HM
      clear hge hy2 hz
      rcases HO.out with ho | ho
      all_goals
        go_wp2
        go_round
        case rel => exact ⟨j + 1, z, rfl, by rw [show ((j + 1 : Nat) : Int) = (j : Int) + 1 from by omega], HY2⟩
        case measure => exact HM.out
    · have hy1 : bin ≤ y ∧ y < inf64 := by have h1 := HY.out; have h2 := HB.out; unfold bin c15 c075 inf64 at *; omega
      have ho : FloatKind.f64.format.order y 4609434218613702656 = some .lt := (order_lt (a := y) (c := c15) hy1.1 (by omega) (by decide)).1
      have HG := Lib.hid hge
      clear hge hy1
      go_wp2
      go_loop [0, 3] (fun x e => ∃ (l z : Nat) (ev : Int), x = .float .f64 z ∧ e = .float .f64 (iof ev) ∧ Hid (z = y + l * bin ∧ (j = 0 ∨ l = 0) ∧ z < c15 ∧ ev = (j : Int) - (l : Int))) (fun x _ => c075 - bitsOf x)
      case atStart => exact ⟨0, y, (j : Int), rfl, rfl, Lib.hid ⟨by omega, .inr rfl, by have := HG.out; omega, by omega⟩⟩
      case round =>
        obtain ⟨l, z, ev, rfl, rfl, HZ⟩ := hrel
        by_cases hlt : z < c075
        · have hj0 : j = 0 := by
            have h1 := HZ.out
            have h2 := HY.out
            rcases h1.2.1 with h3 | h3
            · exact h3
            · rw [h3] at h1
              rcases h2.2 with h4 | h4
              · exact h4
              · omega
          have HJ := Lib.hid hj0
          clear hj0
          have hl : l < 200 := by have h1 := HZ.out; have h2 := HY.out; have h3 := HB.out; have h4 := HJ.out; unfold bin c075 at *; omega
          have hz1 : bin ≤ z ∧ z + bin < inf64 := by have h1 := HZ.out; have h2 := HY.out; have h3 := HB.out; unfold bin c075 inf64 at *; omega
          have hq : ∀ t w, (binOp .mul t (.float .f64 z) (.float .f64 4611686018427387904)).run Try.prog w = .ok (.float .f64 (z + bin)) w := fun t w => run_float_arith w .mul t .f64 _ _ _ (dbl_word hz1.1 hz1.2)
          have hsub := iof_down hl
          rw [show -(l : Int) = ev from by have h1 := HZ.out; have h4 := HJ.out; omega] at hsub
          obtain ⟨e2, he2⟩ : ∃ e2, e2 = ev - 1 := ⟨_, rfl⟩
          rw [← he2] at hsub
          have ha : ∀ t w, (binOp .sub t (.float .f64 (iof ev)) (.float .f64 4607182418800017408)).run Try.prog w = .ok (.float .f64 (iof e2)) w := fun t w => run_float_arith w .sub t .f64 _ _ _ hsub
          have HZ2 : Hid (z + bin = y + (l + 1) * bin ∧ (j = 0 ∨ l + 1 = 0) ∧ z + bin < c15 ∧ e2 = (j : Int) - ((l + 1 : Nat) : Int)) := Lib.hid (by have h1 := HZ.out; refine ⟨?_, .inl HJ.out, ?_, ?_⟩ <;> (unfold bin c15 c075 at *; omega))
          have HM : Hid (c075 - (z + bin) < c075 - z) := Lib.hid (by unfold bin c075 at *; omega)
          have ho : FloatKind.f64.format.order z 4604930618986332160 = some .lt := (order_lt (a := z) (c := c075) hz1.1 hlt (by decide)).1
          obtain ⟨v, hv⟩ : ∃ v, v = z + bin := ⟨_, rfl⟩
          rw [← hv] at hq HZ2 HM
          clear hlt hl hz1 hsub hv he2
          go_wp2
          go_round
          case rel => exact ⟨l + 1, v, e2, rfl, rfl, HZ2⟩
          case measure => exact HM.out
        · have hz2 : z < inf64 := by have h1 := HZ.out; unfold c15 inf64 at *; omega
          have HO : Hid (FloatKind.f64.format.order z 4604930618986332160 = some .gt ∨ FloatKind.f64.format.order z 4604930618986332160 = some .eq) := Lib.hid (by
            by_cases he : z = c075
            · right; rw [he]; exact order_eq (by decide) (by decide)
            · left; exact (order_lt (a := c075) (c := z) (by decide) (by omega) hz2).2)
          have HT := Lib.hid (log_mid (b := b) (t := z) (e := ev) (by have h1 := HZ.out; rw [h1.2.2.2]; have h2 := HY.out; have h3 : ((j * bin : Nat) : Int) = (j : Int) * (bin : Int) := Int.natCast_mul _ _; have h4 : ((l * bin : Nat) : Int) = (l : Int) * (bin : Int) := Int.natCast_mul _ _; rw [Int.sub_mul, ← h3, ← h4]; omega) (by omega) HZ.out.2.2.1)
          have HE : Hid (-200 ≤ ev ∧ ev ≤ 200) := Lib.hid (by have h1 := HZ.out; have h2 := HY.out; have h3 := HB.out; have hzz : c075 ≤ z := (by omega); unfold bin c15 c075 at *; omega)
          have HR : Hid (c075 ≤ z ∧ z < c15) := Lib.hid ⟨by omega, HZ.out.2.2.1⟩
          clear hlt hz2
          have d25 : iof (25 - 2 * ((0 : Nat) : Int)) = 4627730092099895296 := iof_25
          rcases HO.out with ho | ho
          all_goals
            go_wp2_with (first
              | (refine wpList_fop rfl .sub 28 (.tmp 20) _ 28 rfl arith_sub .f64 _ _ rfl rfl ?_; intro r1 m1 h1)
              | (refine wpList_fop rfl .add 28 (.tmp 22) _ 28 rfl arith_add .f64 _ _ rfl rfl ?_; intro r2 m2 h2)
              | (refine wpList_fop rfl .quo 28 (.tmp 21) (.tmp 23) 28 rfl arith_quo .f64 _ _ rfl rfl ?_; intro r3 m3 h3)
              | (refine wpList_fop rfl .mul 28 (.tmp 25) (.tmp 26) 28 rfl arith_mul .f64 _ _ rfl rfl ?_; intro r4 m4 h4))
            have HS := Lib.hid (h3.trans (fop_sim arith_quo h1 h2))
            have HU := Lib.hid (h4.trans (fop_sim arith_mul HS.out HS.out))
            clear h1 h2 h3 h4
            go_loopg [6, 7] 13 (fun gk q k wr => ∃ (j v : Nat) (d : Int), gk + j = 13 ∧ k = .float .f64 (iof d) ∧ q = .float .f64 v ∧ Hid (d = 25 - 2 * (j : Int)) ∧ Hid (Sim .f64 v (logQ (logU z) j)) ∧ ∃ m, wr = w.drewN m)
            case atStart => exact ⟨0, 0, 25, rfl, by rw [iof_25], rfl, Lib.hid rfl, Lib.hid (.refl _ _), _, rfl⟩
            case round =>
              obtain ⟨j', v, d, hgj, rfl, rfl, HD, HV, m, rfl⟩ := hrel
              by_cases hlt : j' < 13
              · have hdd := div_down hlt
                rw [← HD.out] at hdd
                obtain ⟨d2, hd2⟩ : ∃ d2, d2 = 25 - 2 * ((j' : Int) + 1) := ⟨_, rfl⟩
                rw [← hd2] at hdd
                have hs : ∀ t w, (binOp .sub t (.float .f64 (iof d)) (.float .f64 4611686018427387904)).run Try.prog w = .ok (.float .f64 (iof d2)) w := fun t w => run_float_arith w .sub t .f64 _ _ _ hdd.1
                have hgo := hdd.2
                rw [Bool.or_eq_true, beq_iff_eq, beq_iff_eq] at hgo
                have HD2 : Hid (d2 = 25 - 2 * ((j' + 1 : Nat) : Int)) := Lib.hid (by rw [hd2]; omega)
                have HO3 := Lib.hid hgo
                clear hdd hgo hd2
                rcases HO3.out with ho3 | ho3
                all_goals
                  replace ho3 : FloatKind.f64.format.order (iof d) 4607182418800017408 = _ := ho3
                  go_wp2_with (first
                    | (refine wpList_fop rfl .quo 28 _ (.tmp 32) 28 rfl arith_quo .f64 _ _ rfl rfl ?_; intro r5 m5 h5)
                    | (refine wpList_fop rfl .mul 28 (.tmp 34) (.tmp 35) 28 rfl arith_mul .f64 _ _ rfl rfl ?_; intro r6 m6 h6)
                    | (refine wpList_fop rfl .add 28 (.tmp 33) (.tmp 36) 28 rfl arith_add .f64 _ _ rfl rfl ?_; intro r7 m7 h7))
                  have HV2 : Hid (Sim .f64 r7 (logQ (logU z) (j' + 1))) := Lib.hid (by
                    show Sim .f64 r7 (fop .add .f64 (fop .quo .f64 c1 (iof (25 - 2 * (j' : Int)))) (fop .mul .f64 (logU z) (logQ (logU z) j')))
                    rw [← HD.out]
                    exact h7.trans (fop_sim arith_add h5 (h6.trans (fop_sim arith_mul HU.out HV.out))))
                  clear h5 h6 h7
                  go_wp2
                  go_roundg (gk - 1)
                  case measure => omega
                  case rel => exact ⟨j' + 1, r7, d2, by omega, rfl, rfl, HD2, HV2, _, by first | rfl | exact World.drewN_drewN ..⟩
              · have hj13 : j' = 13 := by omega
                have hdi : d = 25 - 2 * 13 := by rw [HD.out, hj13]; rfl
                have ho3 : FloatKind.f64.format.order (iof d) 4607182418800017408 = some .lt := by rw [hdi]; exact div_end
                have HV13 : Hid (Sim .f64 v (logQ (logU z) 13)) := Lib.hid (by rw [← hj13]; exact HV.out)
                clear hj13 hdi
                go_wp2_with (first
                  | (refine wpList_fop rfl .mul 28 (.tmp 38) (.tmp 39) 28 rfl arith_mul .f64 _ _ rfl rfl ?_; intro r5 m5 h5)
                  | (refine wpList_fop rfl .mul 28 _ (.tmp 40) 28 rfl arith_mul .f64 _ _ rfl rfl ?_; intro r6 m6 h6)
                  | (refine wpList_fop rfl .mul 28 (.tmp 42) _ 28 rfl arith_mul .f64 _ _ rfl rfl ?_; intro r7 m7 h7)
                  | (refine wpList_fop rfl .add 28 (.tmp 41) (.tmp 43) 28 rfl arith_add .f64 _ _ rfl rfl ?_; intro r8 m8 h8))
                have HF : Hid (r8 = logW b) := Lib.hid (by
                  have hsim : Sim .f64 r8 (logR z ev) := h8.trans (fop_sim arith_add (h6.trans (fop_sim arith_mul (.refl _ _) (h5.trans (fop_sim arith_mul HS.out HV13.out)))) h7)
                  have he := hsim.eq (fits_num (logR_fits HR.out.1 HR.out.2 HE.out.1 HE.out.2))
                  rw [he]
                  unfold logW
                  rw [HT.out.1, HT.out.2])
                clear h5 h6 h7 h8
                go_wp2
                go_ret
                exact ⟨by rw [← HF.out]; rfl, _, by first | rfl | exact World.drewN_drewN ..⟩
end Go.Proofs.Ytcpimcjmckljfaa
