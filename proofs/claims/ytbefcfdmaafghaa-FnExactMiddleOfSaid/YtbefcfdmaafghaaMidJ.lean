/- MiddleOf, the program's way: the walk. -/
import Derived.Test.YtbefcfdmaafghaaMidI
import Derived.OwnWalk
namespace Go.Proofs.Ytbefcfdmaafghaa
open Ieee Go.RowKit
theorem mid_no {wd hg : Int} {bs : List Bool} {e : Ending} (h : midB wd hg bs = false) (he : e = .returned (.tuple #[.complex .f32 0 0, .float .f32 0, .bool false])) : MidSays wd hg bs e := by
  unfold MidSays
  rw [h, if_neg (by decide)]
  exact he
theorem mid_yes {wd hg : Int} {bs : List Bool} {e : Ending} (h : midB wd hg bs = true) (he : ∃ r, e = .returned (.tuple #[.complex .f32 (midRe wd bs) (midIm wd bs), .float .f32 r, .bool true]) ∧ Sim .f32 r (rootC (midVar wd bs))) : MidSays wd hg bs e := by
  unfold MidSays
  rw [h, if_pos rfl]
  exact he
set_option maxHeartbeats 4000000 in
set_option maxRecDepth 100000 in
theorem middleOf_any (wd hg : Int) (A : Option Addr) (n c : Nat) (bs : List Bool) (w : World) (hn : bs.length = n) (hc : n ≤ 140737488351232) (hr : Rd w w.heap.size A (bs.map Value.bool)) :
    Calls Try.prog 72 #[.agg #[.int .i64 wd, .int .i64 hg, .slice A n c]] w fun e w' => MidSays wd hg bs e ∧ Below w.heap.size w w' := by
  subst hn
  have Hr := Lib.hid hr; clear hr
  by_cases hv : vF wd hg bs.length = true
  · obtain ⟨⟨⟨h1, h2⟩, h3, h4⟩, h5⟩ := vF_iff.1 hv
    have H5 := Lib.hid h5; clear h5
    have HK := Lib.hid (fulP_ok h1 h2 h3 h4 H5.out.symm (Nat.le_refl bs.length))
    have HL := Lib.hid (fulP_all (wd := wd) (bs := bs))
    have HV := Lib.hid hv
    go_enter Try.func72, Try.ntmps72
    go_wp2_with fail
    refine (validField_any wd hg A _ c _ hc).mono ?_
    rintro e w1 ⟨rfl, hb1⟩
    have B1 := Lib.hid (bthen (below_new w _) hb1)
    have R1 := Lib.hid ((Hr.out.next (below_new w _)).next hb1)
    obtain ⟨k0, k1, k2⟩ := (FBox.new w 27 wd hg (.slice A bs.length c)).below hb1 (by simp)
    clear hb1
    go_wp2_with fail
    refine (places_any wd hg A _ c bs w1 rfl h1 h2 h3 h4 H5.out.symm R1.out).mono ?_
    rintro e w2 ⟨⟨v, rfl, ho⟩, hb2⟩
    obtain ⟨A2, c2, rfl, hr2⟩ := shapeC ho
    have R2 := Lib.hid hr2
    have B2 := Lib.hid (bthen B1.out hb2)
    clear ho hr2 hb2 k0 k1 k2 R1 B1 hv
    obtain ⟨P, hP⟩ : ∃ P, P = fulP wd bs bs.length := ⟨_, rfl⟩
    rw [← hP] at R2 HK HL
    have HP := Lib.hid hP
    rw [← hP]
    clear hP
    have h256 := HK.out.2
    by_cases h0 : 0 < P.length
    · have hmid : Hid (midB wd hg bs = true) := Lib.hid (by unfold midB; rw [HV.out]; have := HL.out; simp; omega)
      have hcv := fun (z : Int) (W : World) => run_convert_int_float (P := Try.prog) W 3 43 .i64 .f32 z (by rw [Try.underlying3]; rfl) Try.und43
      have g1 := run_num (P := Try.prog) (HK.out.quoTot h0)
      unfold f32i at g1
      have F1 := Lib.hid (HK.out.quoRe h0).2
      have F2 := Lib.hid (HK.out.quoIm h0).2
      have HM := Lib.hid (fun (W : World) (h : W = w2) => mean_any A2 _ c2 P W rfl h0 HK.out (by rw [h]; exact R2.out))
      have HRT := Lib.hid (fun (W : World) => rootNumber_any (varF P) (varF P) W (.refl _ _))
      go_wp2_with fail
      refine (HM.out _ rfl).mono ?_
      rintro e w3 ⟨rfl, rfl⟩
      go_wp2_with fail
      go_loop [7, 22] (fun s i => ∃ k : Nat, k ≤ P.length ∧ i = .int .i64 k ∧ s = .float .f32 (tot (mRe P) (mIm P) (P.take k))) (fun _ i => P.length - (intOf i).toNat)
      case atStart => exact ⟨0, Nat.zero_le _, rfl, rfl⟩
      case round =>
        obtain ⟨k, hk, rfl, rfl⟩ := hrel
        by_cases hlt : k < P.length
        · obtain ⟨ad, rfl, _, hcell⟩ := R2.out.at_ (k := k) (by simpa using hlt)
          rw [List.getElem_map] at hcell
          have HT := Lib.hid (take_succP hlt)
          have hok2 := HK.out.take (k + 1)
          rw [HT.out] at hok2
          have hbd := HK.out.1 _ (List.getElem_mem hlt)
          obtain ⟨p, hp⟩ : ∃ p, p = P[k] := ⟨_, rfl⟩
          rw [← hp] at hcell HT hok2 hbd
          unfold cv at hcell
          have hfar := far_is F1.out F2.out hbd.1 hbd.2
          have HS := Lib.hid (fun (W : World) => subC_any _ _ _ _ _ _ W hfar.sa hfar.sb)
          have HW := Lib.hid (fun (W : World) => powerOf_any _ _ W hfar.pw)
          have ga := run_num (P := Try.prog) (OkP.addTot F1.out F2.out hok2)
          unfold farF at ga
          clear hok2 hp hbd hfar g1
          go_wp2_with fail
          refine (HS.out _).mono ?_
          rintro e w4 ⟨rfl, rfl⟩
          go_wp2_with fail
          refine (HW.out _).mono ?_
          rintro e w5 ⟨rfl, rfl⟩
          go_wp2
          go_round
          case rel => exact ⟨k + 1, by omega, by go_num, by rw [HT.out]⟩
          case measure => simp [intOf]; omega
        · have hke : k = P.length := by omega
          subst hke
          rw [List.take_of_length_le (Nat.le_refl _)]
          go_wp2_with fail
          refine (HRT.out _).mono ?_
          rintro e w4 ⟨⟨r, rfl, hs⟩, m, rfl⟩
          have HSM := Lib.hid hs; clear hs
          go_wp2
          go_ret3
          refine ⟨mid_yes hmid.out ⟨r, ?_, ?_⟩, below_drewN B2.out m⟩
          · unfold midRe midIm
            rw [← HP.out]
            rfl
          · unfold midVar
            rw [← HP.out]
            exact HSM.out
    · have hmid : Hid (midB wd hg bs = false) := Lib.hid (by unfold midB; have := HL.out; simp; omega)
      have hz : P.length = 0 := by omega
      rw [hz]
      clear hz h0
      go_wp2
      go_ret3
      exact ⟨mid_no hmid.out rfl, B2.out⟩
  · have hv0 : vF wd hg bs.length = false := by simpa using hv
    have hmid : Hid (midB wd hg bs = false) := Lib.hid (by unfold midB; rw [hv0]; rfl)
    clear hv
    go_enter Try.func72, Try.ntmps72
    go_wp2_with fail
    refine (validField_any wd hg A _ c _ hc).mono ?_
    rintro e w1 ⟨rfl, hb1⟩
    have B1 := Lib.hid (bthen (below_new w _) hb1); clear hb1
    go_wp2
    go_ret3
    exact ⟨mid_no hmid.out rfl, B1.out⟩
end Go.Proofs.Ytbefcfdmaafghaa
