/- MiddleOf, the reference's way. -/
import Derived.Test.YtbefcfdmaafghaaMidJ
namespace Go.Proofs.Ytbefcfdmaafghaa
open Ieee Go.RowKit
set_option maxHeartbeats 4000000 in
set_option maxRecDepth 100000 in
theorem l07Place_any (wd hg : Int) (b k : Nat) (v : Value) (w : World) (h1 : 1 ≤ wd) (h2 : wd ≤ 16) (hk : k ≤ 256) (hx : FBox w b wd hg v) :
    Calls Try.prog 113 #[.pointer (some ⟨b, 0, none⟩), .int .i64 k] w fun e w' => e = .returned (.complex .f32 (plc wd k).1 (plc wd k).2) ∧ ∃ m, w' = w.drewN m := by
  have hwd : ¬ wd = 0 := by omega
  have hcv := fun (z : Int) (W : World) => run_convert_int_float (P := Try.prog) W 2 43 .i64 .f32 z (by rw [Try.underlying2]; rfl) Try.und43
  have HE : Hid (Value.complex .f32 (floatOfInt .f32 ((k : Int) % wd)) (floatOfInt .f32 (wrap64 ((k : Int) / wd))) = .complex .f32 (plc wd k).1 (plc wd k).2) := Lib.hid (by
    have e2 : 0 ≤ (k : Int) / wd := Int.ediv_nonneg (by omega) (by omega)
    have e3 : (k : Int) / wd ≤ (k : Int) := Int.ediv_le_self _ (by omega)
    have e4 : wrap64 ((k : Int) / wd) = (k : Int) / wd := by unfold wrap64; omega
    rw [e4]; rfl)
  obtain ⟨k0, k1, k2⟩ := hx
  go_enter Try.func113, Try.ntmps113
  go_wp2_with fail
  go_region
  all_goals
    go_wp2
    go_ret
    exact ⟨congrArg Ending.returned HE.out, 1, rfl⟩
theorem csum_is {op : BinOp} {a b c d r s : Nat} (h1 : floatBits op .f32 a c = some r) (h2 : floatBits op .f32 b d = some s) : cSumBits op .f32 a b c d = some (r, s) := by
  unfold cSumBits
  rw [h1, h2]
  rfl
theorem fbox_drewN {w : World} {b : Nat} {wd hg : Int} {v : Value} (h : FBox w b wd hg v) (m : Nat) : FBox (w.drewN m) b wd hg v := h
theorem rd_drewC {w : World} {B : Nat} {A : Option Addr} {xs : List Value} (h : Rd w B A xs) (m : Nat) : Rd (w.drewN m) B A xs := h
set_option maxHeartbeats 8000000 in
set_option maxRecDepth 100000 in
theorem specMiddleOf_any (wd hg : Int) (A : Option Addr) (n c : Nat) (bs : List Bool) (w : World) (hn : bs.length = n) (hc : n ≤ 140737488351232) (hr : Rd w w.heap.size A (bs.map Value.bool)) :
    Calls Try.prog 71 #[.agg #[.int .i64 wd, .int .i64 hg, .slice A n c]] w fun e w' => MidSays wd hg bs e ∧ Below w.heap.size w w' := by
  subst hn
  have Hr := Lib.hid hr; clear hr
  have hcl := cnt_le bs
  by_cases hv : vF wd hg bs.length = true
  · obtain ⟨⟨⟨h1, h2⟩, h3, h4⟩, h5⟩ := vF_iff.1 hv
    obtain ⟨q1, q2⟩ := prod_bd h1 h2 h3 h4
    have h256 : bs.length ≤ 256 := by omega
    have HKK := Lib.hid (fun k (hk : k ≤ bs.length) => fulP_ok h1 h2 h3 h4 h5.symm hk)
    have HL := Lib.hid (fulP_all (wd := wd) (bs := bs))
    have HV := Lib.hid hv
    have HX : Hid (cntR wd hg bs = (cnt bs : Int)) := Lib.hid (by simp [cntR, hv])
    clear h5 q1 q2
    go_enter Try.func71, Try.ntmps71
    go_wp2_with fail
    refine (specCountCells_any wd hg A _ c bs _ rfl hc (Hr.out.next (below_new w _))).mono ?_
    rintro e w1 ⟨rfl, hb1⟩
    have B1 := Lib.hid (bthen (below_new w _) hb1)
    have R1 := Lib.hid ((Hr.out.next (below_new w _)).next hb1)
    have K1 := Lib.hid ((FBox.new w 27 wd hg (.slice A bs.length c)).below hb1 (by simp))
    clear hb1 hv
    rw [HX.out, HV.out]
    by_cases h0 : 0 < cnt bs
    · have hmid : Hid (midB wd hg bs = true) := Lib.hid (by unfold midB; rw [HV.out]; simp; omega)
      have hcv := fun (z : Int) (W : World) => run_convert_int_float (P := Try.prog) W 2 43 .i64 .f32 z (by rw [Try.underlying2]; rfl) Try.und43
      obtain ⟨P, hP⟩ : ∃ P, P = fulP wd bs bs.length := ⟨_, rfl⟩
      have HP := Lib.hid hP
      have HK : Hid (OkP P) := Lib.hid (by rw [hP]; exact HKK.out _ (Nat.le_refl _))
      rw [← hP] at HL
      clear hP
      have hP0 : 0 < P.length := by rw [HL.out]; exact h0
      have g1 := run_num (P := Try.prog) (HK.out.quoRe hP0).1
      have g2 := run_num (P := Try.prog) (HK.out.quoIm hP0).1
      have g3 := run_num (P := Try.prog) (HK.out.quoTot hP0)
      have F1 := Lib.hid (HK.out.quoRe hP0).2
      have F2 := Lib.hid (HK.out.quoIm hP0).2
      have HRT := Lib.hid (fun (W : World) => l01Sqrt_any (varF P) (varF P) W (.refl _ _))
      unfold f32i at g1 g2 g3
      rw [HL.out] at g1 g2 g3
      have G1 := Lib.hid g1
      have G2 := Lib.hid g2
      have G3 := Lib.hid g3
      clear g1 g2 g3 hP0
      have hn0 : (((cnt bs : Nat) : Int) == 0) = false := by rw [beq_eq_false_iff_ne]; omega
      obtain ⟨k0, k1, k2⟩ := K1.out
      go_wp2_with fail
      clear k0 k1 k2
      go_loopw [7, 26] (fun s i wr => ∃ k : Nat, k ≤ bs.length ∧ i = .int .i64 k ∧ s = .complex .f32 (sRe (fulP wd bs k)) (sIm (fulP wd bs k)) ∧ ∃ m, wr = w1.drewN m) (fun _ i _ => bs.length - (intOf i).toNat)
      case atStart => exact ⟨0, Nat.zero_le _, rfl, rfl, 0, rfl⟩
      case round =>
        obtain ⟨k, hk, rfl, rfl, m, rfl⟩ := hrel
        obtain ⟨k0, k1, k2⟩ := fbox_drewN K1.out m
        by_cases hlt : k < bs.length
        · obtain ⟨ad, rfl, _, hcell⟩ := (rd_drewC R1.out m).at_ (k := k) (by simpa using hlt)
          rw [List.getElem_map] at hcell
          cases hbk : bs[k]
          · rw [hbk] at hcell
            have HS := Lib.hid (fulP_no (wd := wd) hlt hbk)
            clear hbk
            go_wp2
            go_roundw
            case rel => exact ⟨k + 1, by omega, by go_num, by rw [HS.out], m, rfl⟩
            case measure => simp [intOf]; omega
          · rw [hbk] at hcell
            have hs := fulP_yes (wd := wd) hlt hbk
            have HS := Lib.hid hs
            have hok2 := HKK.out (k + 1) (by omega)
            rw [hs] at hok2
            have gc := fun (t : TypeId) (W : World) => run_complex_sum (P := Try.prog) W .add (.inl rfl) t .f32 _ _ _ _ _ _ (csum_is hok2.addRe hok2.addIm)
            have HPL := Lib.hid (fun (W : World) (h : W = w1.drewN m) => l07Place_any wd hg w.heap.size k _ W h1 h2 (by omega) (by subst h; exact fbox_drewN K1.out m))
            clear hbk hs hok2
            go_wp2_with fail
            refine (HPL.out _ rfl).mono ?_
            rintro e w4 ⟨rfl, m4, rfl⟩
            go_wp2
            go_roundw
            case rel => exact ⟨k + 1, by omega, by go_num, by rw [HS.out], m + m4, by first | rfl | exact World.drewN_drewN ..⟩
            case measure => simp [intOf]; omega
        · have hke : k = bs.length := by omega
          subst hke
          rw [← HP.out]
          have g1 := G1.out
          have g2 := G2.out
          go_wp2_with fail
          clear k0 k1 k2
          go_loopw [10, 53] (fun s i wr => ∃ k : Nat, k ≤ bs.length ∧ i = .int .i64 k ∧ s = .float .f32 (tot (mRe P) (mIm P) (fulP wd bs k)) ∧ ∃ m, wr = w1.drewN m) (fun _ i _ => bs.length - (intOf i).toNat)
          case atStart => exact ⟨0, Nat.zero_le _, rfl, rfl, m, rfl⟩
          case round =>
            obtain ⟨k, hk, rfl, rfl, m2, rfl⟩ := hrel
            obtain ⟨k0, k1, k2⟩ := fbox_drewN K1.out m2
            by_cases hlt : k < bs.length
            · obtain ⟨ad, rfl, _, hcell⟩ := (rd_drewC R1.out m2).at_ (k := k) (by simpa using hlt)
              rw [List.getElem_map] at hcell
              cases hbk : bs[k]
              · rw [hbk] at hcell
                have HS := Lib.hid (fulP_no (wd := wd) hlt hbk)
                clear hbk
                go_wp2
                go_roundw
                case rel => exact ⟨k + 1, by omega, by go_num, by rw [HS.out], m2, rfl⟩
                case measure => simp [intOf]; omega
              · rw [hbk] at hcell
                have hs := fulP_yes (wd := wd) hlt hbk
                have HS := Lib.hid hs
                have hok2 := HKK.out (k + 1) (by omega)
                rw [hs] at hok2
                have hbd := hok2.1 (plc wd k) (by simp)
                have hfar := far_is F1.out F2.out hbd.1 hbd.2
                have gc := fun (t : TypeId) (W : World) => run_complex_sum (P := Try.prog) W .sub (.inr rfl) t .f32 _ _ _ _ _ _ (csum_is hfar.sa hfar.sb)
                have HW := Lib.hid (fun (W : World) => l01Power_any _ _ W hfar.pw)
                have ga := run_num (P := Try.prog) (OkP.addTot F1.out F2.out hok2)
                unfold farF at ga
                have HPL := Lib.hid (fun (W : World) (h : W = w1.drewN m2) => l07Place_any wd hg w.heap.size k _ W h1 h2 (by omega) (by subst h; exact fbox_drewN K1.out m2))
                clear hbk hs hok2 hbd hfar
                go_wp2_with fail
                refine (HPL.out _ rfl).mono ?_
                rintro e w4 ⟨rfl, m4, rfl⟩
                go_wp2_with fail
                refine (HW.out _).mono ?_
                rintro e w5 ⟨rfl, rfl⟩
                go_wp2
                go_roundw
                case rel => exact ⟨k + 1, by omega, by go_num, by rw [HS.out], m2 + m4, by first | rfl | exact World.drewN_drewN ..⟩
                case measure => simp [intOf]; omega
            · have hke : k = bs.length := by omega
              subst hke
              rw [← HP.out]
              have g3 := G3.out
              go_wp2_with fail
              refine (HRT.out _).mono ?_
              rintro e w4 ⟨⟨r, rfl, hs⟩, m4, rfl⟩
              have HSM := Lib.hid hs; clear hs
              go_wp2
              go_ret3
              refine ⟨mid_yes hmid.out ⟨r, ?_, ?_⟩, below_drewN B1.out (m2 + m4)⟩
              · unfold midRe midIm
                rw [← HP.out]
                rfl
              · unfold midVar
                rw [← HP.out]
                exact HSM.out
    · have hmid : Hid (midB wd hg bs = false) := Lib.hid (by unfold midB; simp; omega)
      have hz : cnt bs = 0 := by omega
      rw [hz]
      clear hz h0
      go_wp2
      go_ret3
      exact ⟨mid_no hmid.out rfl, B1.out⟩
  · have hv0 : vF wd hg bs.length = false := by simpa using hv
    have hmid : Hid (midB wd hg bs = false) := Lib.hid (by unfold midB; rw [hv0]; rfl)
    have HX : Hid (cntR wd hg bs = 0) := Lib.hid (by simp [cntR, hv0])
    clear hv
    go_enter Try.func71, Try.ntmps71
    go_wp2_with fail
    refine (specCountCells_any wd hg A _ c bs _ rfl hc (Hr.out.next (below_new w _))).mono ?_
    rintro e w1 ⟨rfl, hb1⟩
    have B1 := Lib.hid (bthen (below_new w _) hb1); clear hb1
    rw [HX.out]
    go_wp2
    go_ret3
    exact ⟨mid_no hmid.out rfl, B1.out⟩
end Go.Proofs.Ytbefcfdmaafghaa
