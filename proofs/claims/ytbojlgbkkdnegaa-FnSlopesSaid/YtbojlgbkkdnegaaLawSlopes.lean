/- The law FnSlopes answers true, whatever the bytes. -/
import Derived.Test.YtbojlgbkkdnegaaTabs
import Derived.Test.YtbojlgbkkdnegaaSlc
import Derived.Test.YtbojlgbkkdnegaaGapsI
import Derived.BigQuiet
import Derived.Deep.DeepCutAuto
namespace Go.Proofs.Ytbojlgbkkdnegaa
open Ieee Go.RowKit
theorem ego' (l : List Nat) (i : Nat) (h : i < l.length) : l[i] = l.getD i 0 := by simp [List.getD, List.getElem?_eq_getElem h]
theorem getD_in {l : List Nat} {i : Nat} (h : i < l.length) : l.getD i 0 ∈ l := by rw [← ego' l i h]; exact List.getElem_mem h
theorem set_at {g j B : Nat} {l : List Nat} {W : World} {a : Addr} (R : Rd W B (some a) (l.map (Value.float .f32))) (hl : l.length = g + 1) (hj : j < g + 1) (H : SetOk l) : W.cell? (a.add j) = some (.float .f32 (l.getD j 0)) ∧ PtOk (l.getD j 0) := by
  obtain ⟨ad, had, _, hc⟩ := R.at_ (k := j) (by rw [List.length_map]; omega)
  cases had
  rw [List.getElem_map, ego'] at hc
  exact ⟨hc, H.pt _ (getD_in (by omega))⟩
theorem gap_at {g j B : Nat} {l : List Nat} {W : World} {A : Option Addr} (R : Rd W B A ((gapsN l).map (Value.float .f32))) (hl : l.length = g + 1) (hj : j < g) (H : SetOk l) : ∃ ad x, A = some ad ∧ W.cell? (ad.add j) = some (.float .f32 x) ∧ (FloatKind.f32.format.order x 0 == some .lt || FloatKind.f32.format.order x 0 == some .eq) = false := by
  obtain ⟨ad, had, _, hc⟩ := R.at_ (k := j) (by rw [List.length_map, gapsN_len]; omega)
  rw [List.getElem_map] at hc
  have hge : (gapsN l)[j]'(by rw [gapsN_len]; omega) = fop .sub .f32 (l.getD (j + 1) 0) (l.getD j 0) := by simp [gapsN]
  rw [hge] at hc
  exact ⟨ad, _, had, hc, H.pos j (by omega)⟩
theorem numV_of {x : Nat} (h : finB x = true) : numV x = x := by unfold numV; rw [h, if_pos rfl]
theorem gapR_of {xs : List Int} (h : massB xs = true) (h2 : finB (gapC xs) = true) : gapR xs = gapC xs ∧ gapB xs = true := by
  unfold gapR gapB
  rw [h, if_pos rfl, h2, numV_of h2]
  exact ⟨rfl, rfl⟩
set_option maxHeartbeats 40000000 in
set_option maxRecDepth 100000 in
theorem lawSlopes (A B : Option Addr) (n c m d : Nat) (bs ms : List Int) (w : World) (hb : ByteL bs) (hmb : ByteL ms) (hn : bs.length = n) (hm : ms.length = m) (hn2 : n ≤ 9223372036854775807) (hm2 : m ≤ 9223372036854775807)
    (hr : Rd w w.heap.size A (bs.map (Value.int .u8))) (hr2 : Rd w w.heap.size B (ms.map (Value.int .u8))) :
    Calls Try.prog 4 #[.slice A n c, .slice B m d] w fun e w' => e = .returned (.bool true) ∧ Below w.heap.size w w' := by
  have HL := Lib.hid (fun W => r8Long_any A B n c m d W hn2 hm2)
  by_cases hlong : (decide (48 < n) || decide (48 < m)) = true
  · rw [hlong] at HL
    clear hr hr2
    go_enter Try.func4, Try.ntmps4
    go_wp2_with fail
    refine (HL.out _).mono ?_
    rintro e w' ⟨rfl, rfl⟩
    go_wp2
    go_ret
    exact ⟨rfl, Below.refl _ _⟩
  · have hlong' : (decide (48 < n) || decide (48 < m)) = false := by simpa using hlong
    rw [hlong'] at HL
    have hn48 : n ≤ 48 := by simp at hlong; omega
    have hm48 : m ≤ 48 := by simp at hlong; omega
    have Hr := Lib.hid hr
    have Hr2 := Lib.hid hr2
    have HB := Lib.hid hb
    have HMB := Lib.hid hmb
    obtain ⟨i0, hi, hz0, hz1, hz2⟩ := info_parts Try.info25
    have hcv := fun (z : Int) (W : World) => run_convert_int_float (P := Try.prog) W 2 25 .i64 .f32 z (by rw [Try.underlying2]; rfl) Try.und25
    clear hr hr2 hb hmb hlong hlong'
    go_enter Try.func4, Try.ntmps4
    go_wp2_with fail
    refine (HL.out _).mono ?_
    rintro e w' ⟨rfl, hw⟩
    rw [hw]
    clear hw w' HL
    go_wp2_with fail
    refine (r8At_any B m d ms 0 17 w HMB.out hm hm48 (by omega) (by omega) (by omega) Hr2.out).mono ?_
    rintro e w' ⟨⟨z0, rfl, z01, z02⟩, hw⟩
    rw [hw]
    clear hw w'
    have gk := run_num (P := Try.prog) (qF_is (z := z0 - 8) (by omega) (by omega))
    go_wp2_with fail
    refine (r8At_any B m d ms 1 17 w HMB.out hm hm48 (by omega) (by omega) (by omega) Hr2.out).mono ?_
    rintro e w' ⟨⟨z1, rfl, z11, z12⟩, hw⟩
    rw [hw]
    clear hw w' gk
    have gk := run_num (P := Try.prog) (qF_is (z := z1 - 8) (by omega) (by omega))
    go_wp2_with fail
    refine (r8At_any B m d ms 2 8 w HMB.out hm hm48 (by omega) (by omega) (by omega) Hr2.out).mono ?_
    rintro e w' ⟨⟨z2, rfl, z21, z22⟩, hw⟩
    rw [hw]
    clear hw w' gk
    obtain ⟨N, hN⟩ : ∃ N : Nat, 2 + z2 = (N : Int) := ⟨(2 + z2).toNat, by omega⟩
    have N2 : 2 ≤ N := by omega
    have N9 : N ≤ 9 := by omega
    have HSm : Hid (Sm (z0 - 8) (z1 - 8)) := Lib.hid ⟨by omega, by omega, by omega, by omega⟩
    obtain ⟨s, hs⟩ : ∃ s, s = z0 - 8 := ⟨_, rfl⟩
    obtain ⟨b, hb⟩ : ∃ b, b = z1 - 8 := ⟨_, rfl⟩
    rw [← hs, ← hb] at HSm
    have HYF := Lib.hid (fun (k : Nat) (hk : k ≤ 8) => y_fx (k := k) HSm.out hk)
    have HX : Hid (((w.alloc (.cells #[] 25)).alloc (.cells #[] 25)).ownsRow w.heap.size 25 1 (.slice (some ⟨w.heap.size, 0, none⟩) 0 0) 0 []) := Lib.hid ((own_nilF w 25 w.heap.size (Nat.le_refl _)).alloc _)
    have HY : Hid (((w.alloc (.cells #[] 25)).alloc (.cells #[] 25)).ownsRow w.heap.size 25 1 (.slice (some ⟨w.heap.size + 1, 0, none⟩) 0 0) 0 []) := Lib.hid (by
      have h := own_nilF (w.alloc (.cells #[] 25)) 25 w.heap.size (by simp)
      simpa using h)
    have HT0 : Hid (Two (.slice (some ⟨w.heap.size, 0, none⟩) 0 0) (.slice (some ⟨w.heap.size + 1, 0, none⟩) 0 0)) := Lib.hid ⟨_, _, rfl, rfl, by simp⟩
    go_wp2_with fail
    rw [← hs, ← hb]
    have HS8 : Hid (s = z0 - 8 ∧ b = z1 - 8 ∧ 2 + z2 = (N : Int)) := Lib.hid ⟨hs, hb, hN⟩
    clear hs hb hN z01 z02 z11 z12 z21 z22
    obtain ⟨qs, hqs⟩ : ∃ q, q = qF s := ⟨_, rfl⟩
    obtain ⟨qb, hqb⟩ : ∃ q, q = qF b := ⟨_, rfl⟩
    rw [← hqs, ← hqb]
    have HQS := Lib.hid hqs
    have HQB := Lib.hid hqb
    clear hqs hqb
    go_loopw [8, 9, 10] (fun vl vr i wr => ∃ (j : Nat) (l1 l2 : List Nat), j ≤ N ∧ i = .int .i64 j ∧ Hid (l1.length = j) ∧ Hid (l2.length = j) ∧ Hid (l1 = lnX j) ∧ Hid (l2 = lnY s b j) ∧ wr.ownsRow w.heap.size 25 1 vl l1.length (l1.map (Value.float .f32)) ∧ wr.ownsRow w.heap.size 25 1 vr l2.length (l2.map (Value.float .f32)) ∧ Two vl vr ∧ Below w.heap.size w wr) (fun _ _ i _ => N - (intOf i).toNat)
    case atStart => exact ⟨0, [], [], by omega, rfl, Lib.hid rfl, Lib.hid rfl, Lib.hid rfl, Lib.hid rfl, HX.out, HY.out, HT0.out, (below_new w _).trans ((below_new _ _).mono (by simp))⟩
    case round =>
      obtain ⟨j, l1, l2, hj, rfl, HJ1, HJ2, HE1, HE2, hv1, hv2, ht, hbj⟩ := hrel
      have H1 := Lib.hid hv1
      have H2 := Lib.hid hv2
      have HT := Lib.hid ht
      have HBJ := Lib.hid hbj
      have hwj := hbj.size
      clear hv1 hv2 ht hbj
      obtain ⟨Al, cl, rfl, hrl⟩ := shapeOf H1.out
      obtain ⟨Ar, cr, rfl, hrr⟩ := shapeOf H2.out
      clear hrl hrr
      have hj1 : l1.length ≤ 64 := by rw [HJ1.out]; omega
      have hj2 : l2.length ≤ 64 := by rw [HJ2.out]; omega
      by_cases hjl : j < N
      · as_aux_lemma =>
        obtain ⟨f1, f2, _⟩ := HYF.out j (by omega)
        rw [← HQS.out] at f1 f2
        rw [← HQB.out] at f2
        have HS1 : Hid (lnX (j + 1) = lnX j ++ [floatOfInt .f32 (j : Int)]) := Lib.hid (lnX_snoc j)
        have HS2 : Hid (lnY s b (j + 1) = lnY s b j ++ [lnV s b j]) := Lib.hid (lnY_snoc s b j)
        obtain ⟨x, hx⟩ : ∃ x, x = floatOfInt .f32 (j : Int) := ⟨_, rfl⟩
        obtain ⟨p, hp⟩ : ∃ p, p = fop .mul .f32 qs (floatOfInt .f32 (j : Int)) := ⟨_, rfl⟩
        obtain ⟨y, hy⟩ : ∃ y, y = lnV s b j := ⟨_, rfl⟩
        rw [← hp] at f1 f2
        rw [← hy] at f2 HS2
        rw [← hx] at f1 HS1
        have g1 := run_num (P := Try.prog) f1
        have g2 := run_num (P := Try.prog) f2
        have hjN : (j : Int) < (N : Int) := by omega
        have hcj := fun W => hcv (j : Int) W
        rw [← hx] at hcj
        clear hx hp hy f1 f2 hcv
        go_wp2_with (at_builtin; go_must (refine wpList_append_own_at _ rfl (.tmp 69) (.tmp 72) 26 rfl w.heap.size 25 i0 (.float .f32 0) 1 4 Try.underlying26 hi hz0 hz1 hz2 rfl (by decide) _ _ _ rfl (H1.out.alloc _) ⟨wr.heap.size, 0, none⟩ 1 1 [.float .f32 x] rfl rfl (newOne wr _ 25) (oneF _ _) ?_ ?_ ?_ ?_))
        · unfold maxLen; omega
        · omega
        · simp; omega
        intro v5 w5 hown5 hgrow5 _ hat5
        have HV5 := Lib.hid (own_appF hown5)
        have HB5 := Lib.hid ((HBJ.out.alloc hwj (.cells #[.float .f32 x] 25)).grown hgrow5 (by simp; omega) (fun q hq => (H1.out.lt q hq).1))
        have HR5 := Lib.hid ((H2.out.alloc (.cells #[.float .f32 x] 25)).kept hgrow5 HT.out.kept)
        have HT5 := Lib.hid (HT.out.grow hat5 (fun q hq => by have := (H2.out.lt q hq).2; simp; omega))
        have hw5 := HB5.out.size
        clear hown5 hgrow5 hat5
        go_wp2_with (at_builtin; go_must (refine wpList_append_own_at _ rfl (.tmp 74) (.tmp 81) 26 rfl w.heap.size 25 i0 (.float .f32 0) 1 4 Try.underlying26 hi hz0 hz1 hz2 rfl (by decide) _ _ _ rfl (HR5.out.alloc _) ⟨w5.heap.size, 0, none⟩ 1 1 [.float .f32 y] rfl rfl (newOne w5 _ 25) (oneF _ _) ?_ ?_ ?_ ?_))
        · unfold maxLen; omega
        · omega
        · simp; omega
        intro v6 w6 hown6 hgrow6 _ hat6
        have HV6 := Lib.hid (own_appF hown6)
        have HB6 := Lib.hid ((HB5.out.alloc hw5 (.cells #[.float .f32 y] 25)).grown hgrow6 (by simp; omega) (fun q hq => (HR5.out.lt q hq).1))
        have HL6 := Lib.hid ((HV5.out.alloc (.cells #[.float .f32 y] 25)).kept hgrow6 HT5.out.symm.kept)
        have HT6 := Lib.hid ((HT5.out.symm.grow hat6 (fun q hq => by have := (HV5.out.lt q hq).2; simp; omega)).symm)
        have K1 : Hid ((l1 ++ [x]).length = j + 1) := Lib.hid (by rw [List.length_append, HJ1.out]; rfl)
        have K2 : Hid ((l2 ++ [y]).length = j + 1) := Lib.hid (by rw [List.length_append, HJ2.out]; rfl)
        clear hown6 hgrow6 hat6 HV5 HB5 HR5 HT5
        go_wp2_with fail
        go_roundw
        case rel => exact ⟨j + 1, l1 ++ [x], l2 ++ [y], by omega, by go_num, K1, K2, Lib.hid (by rw [HS1.out, HE1.out]), Lib.hid (by rw [HS2.out, HE2.out]), HL6.out, HV6.out, HT6.out, HB6.out⟩
        case measure => simp [intOf]; omega
      · as_aux_lemma =>
        obtain rfl : j = N := by omega
        obtain ⟨w1, hw1⟩ : ∃ w1, w1 = wr := ⟨_, rfl⟩
        rw [← hw1] at H1 H2 HBJ ⊢
        rw [HJ1.out, HE1.out] at H1
        rw [HJ2.out, HE2.out] at H2
        rw [HJ1.out, HJ2.out]
        have R1 := Lib.hid (Rd.own H1.out)
        have R2 := Lib.hid (Rd.own H2.out)
        obtain ⟨L1, L2, L3⟩ := line_law HSm.out N2 N9
        have L4 := line_ok HSm.out N2 N9
        obtain ⟨L5, L6⟩ := line_doubt HSm.out N2 N9
        have HSL := Lib.hid (slopeOf_any Al Ar j j cl cr (lnX j) (lnY s b j) w1 (lnX_len j) (lnY_len s b j) (by omega) (by omega) R1.out R2.out)
        unfold GivesS at HSL
        rw [L2, L3, L4] at HSL
        have HDB := Lib.hid (fun W (r1 : Rd W W.heap.size Al ((lnX j).map (Value.float .f32))) (r2 : Rd W W.heap.size Ar ((lnY s b j).map (Value.float .f32))) => slopeDoubt_any Al j cl (lnX j) Ar j cr (lnY s b j) W (lnX_len j) (by omega) r1 (lnY_len s b j) (by omega) r2)
        rw [L5, L6] at HDB
        have HB1 := HBJ
        clear L1 L2 L3 L4 L5 L6 hw1 hwj HJ1 HJ2 HE1 HE2 H1 H2 HBJ HT hj1 hj2 hj hjl HX HY HT0 HYF
        go_wp2_with fail
        refine HSL.out.mono ?_
        rintro e w2 ⟨⟨s', b', rfl, hsb⟩, hb2⟩
        obtain ⟨rfl, rfl⟩ := hsb (by first | rfl | trivial)
        rw [← HQS.out, ← HQB.out]
        have B2 := Lib.hid (bthen HB1.out hb2)
        have R12 := Lib.hid (R1.out.next hb2)
        have R22 := Lib.hid (R2.out.next hb2)
        clear hb2 HB1 R1 R2 HSL
        go_wp2_with fail
        refine (HDB.out w2 R12.out R22.out).mono ?_
        rintro e w3 ⟨rfl, hb3⟩
        have B3 := Lib.hid (bthen B2.out hb3)
        clear hb3 B2 R12 R22 HDB
        have GS := qF_near HSm.out.s1 HSm.out.s2
        have GB := qF_near HSm.out.b1 HSm.out.b2
        have wS := (wid_num (qF_is_fin HSm.out.s1 HSm.out.s2).num).1
        have wB := (wid_num (qF_is_fin HSm.out.b1 HSm.out.b2).num).1
        rw [← HQS.out] at GS wS
        rw [← HQB.out] at GB wB
        have hvS := fun (W : World) => run_convert_float_float (P := Try.prog) W 25 35 .f32 .f64 qs _ (by rw [Try.und25]; rfl) Try.und35 wS
        have hvB := fun (W : World) => run_convert_float_float (P := Try.prog) W 25 35 .f32 .f64 qb _ (by rw [Try.und25]; rfl) Try.und35 wB
        have hv0 := fun (W : World) => run_convert_float_float (P := Try.prog) W 25 35 .f32 .f64 0 0 (by rw [Try.und25]; rfl) Try.und35 (by decide +kernel)
        have o0 : (FloatKind.f64.format.order 0 4562254508917369340 == some .gt) = false := by decide +kernel
        have HGS := Lib.hid (fun W => r8Gap_any (wid qs) (wid qs) W GS.ia GS.ib GS.h1 GS.h2)
        have HGB := Lib.hid (fun W => r8Gap_any (wid qb) (wid qb) W GB.ia GB.ib GB.h1 GB.h2)
        have oS := GS.gt
        have oB := GB.gt
        unfold cMl at oS oB
        have HSZ := Lib.hid (fun W => sizesOf_any j W (by omega) (by omega))
        clear GS GB wS wB
        go_wp2_with fail
        refine (HGS.out _).mono ?_
        rintro e wz ⟨rfl, hwz⟩
        rw [hwz]
        clear hwz wz HGS
        go_wp2_with fail
        refine (HGB.out _).mono ?_
        rintro e wz ⟨rfl, hwz⟩
        rw [hwz]
        clear hwz wz HGB
        go_wp2_with fail
        refine (HSZ.out _).mono ?_
        rintro e w4 ⟨⟨A4, c4, rfl, ho4⟩, hb4⟩
        have B4 := Lib.hid (bthen B3.out hb4)
        obtain ⟨A4', c4', hA4, hr4⟩ := shapeOf ho4
        cases hA4
        have R4 := Lib.hid hr4
        have HLO := Lib.hid (logsOf_any A4 j c4 (szL j) w4 (szL_len j) (by omega) R4.out)
        rw [(logs_szL N9).1, (logs_szL N9).2] at HLO
        clear ho4 hb4 hr4 B3 HSZ hvS hvB hv0 oS oB o0
        go_wp2_with fail
        refine HLO.out.mono ?_
        rintro e w5 ⟨⟨A5, c5, rfl, ho5⟩, hb5⟩
        rw [List.length_map, List.length_range] at ho5 ⊢
        have B5 := Lib.hid (bthen B4.out hb5)
        have R45 := Lib.hid (R4.out.next hb5)
        obtain ⟨A5', c5', hA5, hr5⟩ := shapeOf ho5
        cases hA5
        have R5 := Lib.hid hr5
        clear ho5 hb5 hr5 B4 R4 HLO
        obtain ⟨a4, rfl, _, hc4⟩ := R45.out.at_ (k := 0) (by rw [List.length_map, szL_len]; omega)
        rw [List.getElem_map, szL_get, show szF 0 = 1082130432 from rfl] at hc4
        have hc4' : w5.cell? a4 = some (.float .f32 1082130432) := by simpa [Addr.add] using hc4
        have o4 : (FloatKind.f32.format.order 1082130432 1082130432 != some .eq) = false := by decide +kernel
        have hj0 : (0 : Int) < (j : Int) := by omega
        clear hc4
        go_wp2_with fail
        clear hc4' o4 hj0 R45
        go_loopw [20] (fun i wr => ∃ k i1 : Nat, Hid (i1 = k + 1) ∧ i1 ≤ j ∧ i = .int .i64 i1 ∧ ∃ m, wr = w5.drewN m) (fun i _ => j - (intOf i).toNat)
        case atStart => exact ⟨0, 1, Lib.hid rfl, by omega, rfl, 0, rfl⟩
        case round =>
          obtain ⟨k, i1, HI, hi1, rfl, hwr⟩ := hrel
          have R5 := Lib.hid (rd_drw R5.out hwr)
          have HWR := Lib.hid hwr
          clear hwr
          have hij := HI.out
          by_cases hlt : i1 < j
          · as_aux_lemma =>
            obtain ⟨ad, rfl, _, hc1⟩ := R5.out.at_ (k := i1) (by simpa using hlt)
            obtain ⟨ad', had', _, hc2⟩ := R5.out.at_ (k := k) (by simp; omega)
            obtain rfl : ad' = ad := (Option.some.inj had').symm
            rw [List.getElem_map, List.getElem_map, List.getElem_range] at hc1 hc2
            have e1 : lgZ i1 = lgZ (k + 1) := by rw [hij]
            rw [e1] at hc1
            have Z0 := lz_ok (k := k) (by omega)
            have Z1 := lz_ok (k := k + 1) (by omega)
            have w0 := (wid_num (fin_num Z0.fin)).1
            have w1 := (wid_num (fin_num Z1.fin)).1
            have hv0 := fun (W : World) => run_convert_float_float (P := Try.prog) W 25 35 .f32 .f64 (lgZ k) _ (by rw [Try.und25]; rfl) Try.und35 w0
            have hv1 := fun (W : World) => run_convert_float_float (P := Try.prog) W 25 35 .f32 .f64 (lgZ (k + 1)) _ (by rw [Try.und25]; rfl) Try.und35 w1
            have gs := run_num (P := Try.prog) Z0.sub
            have og := Z0.gap.gt
            obtain ⟨x, hx⟩ : ∃ x, x = fop .sub .f64 (wid (lgZ k)) (wid (lgZ (k + 1))) := ⟨_, rfl⟩
            have HGP := Lib.hid (fun W => r8Gap_any x cLn W (by rw [hx]; exact Z0.gap.ia) Z0.gap.ib (by rw [hx]; exact Z0.gap.h1) (by rw [hx]; exact Z0.gap.h2))
            rw [← hx] at gs og
            unfold cMl cLn at og
            unfold cLn at HGP
            obtain ⟨y0, hy0⟩ : ∃ y, y = lgZ k := ⟨_, rfl⟩
            obtain ⟨y1, hy1⟩ : ∃ y, y = lgZ (k + 1) := ⟨_, rfl⟩
            rw [← hy0] at hc2 hv0 gs
            rw [← hy1] at hc1 hv1 gs
            have hw2 : (i1 : Int) - 1 = (k : Int) := by omega
            have hw1 : IntKind.i64.wrap (k : Int) = (k : Int) := by rw [IntKind.wrap_i64]; omega
            have hk0 : (k : Int) < (j : Int) := by omega
            have hk1 : (i1 : Int) < (j : Int) := by omega
            clear Z0 Z1 w0 w1 hx hy0 hy1 e1 had' hij hlt
            go_wp2_with fail
            go_quiet ((go_at_call 11; go_must (exact Calls.quiet_of_same (HGP.out _))))
            go_wp2_with fail
            go_roundw
            case rel => exact ⟨k + 1, i1 + 1, Lib.hid (by rw [HI.out]), by omega, by go_num, drw_trans HWR.out ⟨_, rfl⟩⟩
            case measure => simp [intOf]; omega
          · as_aux_lemma =>
            obtain ⟨w6, hw6⟩ : ∃ w6, w6 = wr := ⟨_, rfl⟩
            rw [← hw6] at HWR ⊢
            have B6 : Hid (Below w.heap.size w w6) := Lib.hid (below_drw B5.out HWR.out)
            have HM := Lib.hid (fun W (h : W = w6) => r8Masses_any A n c j bs W HB.out hn hn48 (by omega) N9 (by subst h; exact (Hr.out.below B6.out).more B6.out.size))
            clear hw6 HWR R5 B5 hij
            go_wp2_with fail
            refine (HM.out _ rfl).mono ?_
            rintro e w7 ⟨⟨A7, c7, zs, rfl, hms, ho7⟩, hb7⟩
            have B7 := Lib.hid (bthen B6.out hb7)
            obtain ⟨A7', c7', hA7, hr7⟩ := shapeOf ho7
            cases hA7
            have R7 := Lib.hid hr7
            have HMS := Lib.hid hms
            clear ho7 hb7 hr7 hms B6 HM
            obtain ⟨mm, hmm, m1, m8⟩ : ∃ mm : Nat, zs.getD 0 0 = (mm : Int) ∧ 1 ≤ mm ∧ mm ≤ 8 := by
              have h1 := HMS.out.hd
              have h2 := HMS.out.all _ (HMS.out.mem (by omega))
              exact ⟨(zs.getD 0 0).toNat, by omega, by omega, by omega⟩
            obtain ⟨i2, hi2, hy0, hy1, hy2⟩ := info_parts Try.info2
            have HN7 : Hid ((w7.alloc (.cells #[] 2)).ownsRow w7.heap.size 2 1 (.slice (some ⟨w7.heap.size, 0, none⟩) 0 0) 0 []) := Lib.hid (World.ownsRow_made w7 #[] 0 (Nat.le_refl _) (Nat.zero_le _) rfl)
            have HMM := Lib.hid hmm
            clear hmm
            go_wp2_with fail
            go_loopw [22, 23] (fun v i wr => ∃ k : Nat, k ≤ j ∧ i = .int .i64 k ∧ wr.ownsRow w7.heap.size 2 1 v k ((List.replicate k (mm : Int)).map (Value.int .i64)) ∧ Below w7.heap.size w7 wr) (fun _ i _ => j - (intOf i).toNat)
            case atStart => exact ⟨0, by omega, rfl, HN7.out, below_new _ _⟩
            case round =>
              obtain ⟨k, hk, rfl, hv, hbk⟩ := hrel
              have HV := Lib.hid hv
              have HBK := Lib.hid hbk
              have hwz := hbk.size
              clear hv hbk
              obtain ⟨Av, cv, rfl, hrv⟩ := shapeOf HV.out
              clear hrv
              by_cases hkj : k < j
              · as_aux_lemma =>
                obtain ⟨ad, rfl, _, hc7⟩ := ((R7.out.below HBK.out).more hwz).at_ (k := 0) (by rw [List.length_map, HMS.out.len]; omega)
                rw [List.getElem_map] at hc7
                have hz0' : zs[0]'(by rw [HMS.out.len]; omega) = (mm : Int) := by
                  have h := HMM.out
                  rw [List.getD_eq_getElem?_getD, List.getElem?_eq_getElem (by rw [HMS.out.len]; omega)] at h
                  exact h
                rw [hz0'] at hc7
                have hc7' : wr.cell? ad = some (.int .i64 (mm : Int)) := by simpa [Addr.add] using hc7
                have hjN : (k : Int) < (j : Int) := by omega
                have hj0 : (0 : Int) < (j : Int) := by omega
                clear hc7 hz0'
                go_wp2_with (at_builtin; go_must (refine wpList_append_own_at _ rfl (.tmp 185) (.tmp 189) 32 rfl w7.heap.size 2 i2 (.int .i64 0) 1 8 Try.underlying32 hi2 hy0 hy1 hy2 rfl (by decide) _ _ _ rfl (HV.out.alloc _) ⟨wr.heap.size, 0, none⟩ 1 1 [.int .i64 (mm : Int)] rfl rfl (newOne wr _ 2) (oneI _) ?_ ?_ ?_ ?_))
                · unfold maxLen; omega
                · omega
                · simp; omega
                intro v' w8 hown' hgrow _ hat'
                have HV7 : Hid (w8.ownsRow w7.heap.size 2 1 v' (k + 1) ((List.replicate (k + 1) (mm : Int)).map (Value.int .i64))) := Lib.hid (by rw [List.replicate_succ']; simpa using hown')
                have HB7 := Lib.hid ((HBK.out.alloc hwz (.cells #[.int .i64 (mm : Int)] 2)).grown hgrow (by simp; omega) (fun q hq => (HV.out.lt q hq).1))
                clear hown' hgrow hat'
                go_wp2_with fail
                go_roundw
                case rel => exact ⟨k + 1, by omega, by go_num, HV7.out, HB7.out⟩
                case measure => simp [intOf]; omega
              · as_aux_lemma =>
                obtain rfl : k = j := by omega
                obtain ⟨w8, hw8⟩ : ∃ w8, w8 = wr := ⟨_, rfl⟩
                rw [← hw8] at HV HBK ⊢
                have B8 := Lib.hid (bthen B7.out HBK.out)
                have R8 := Lib.hid (Rd.own HV.out)
                have R78 := Lib.hid ((R7.out.below HBK.out).more (HBK.out.size))
                have HAT := Lib.hid (fun W (h : W = w8) => r8At_any B m d ms 3 13 W HMB.out hm hm48 (by omega) (by omega) (by omega) (by subst h; exact (Hr2.out.below B8.out).more B8.out.size))
                clear hw8 hwz HV HBK HN7 R7 B7
                go_wp2_with fail
                refine (HAT.out _ rfl).mono ?_
                rintro e w' ⟨⟨z3, rfl, z31, z32⟩, hw⟩
                rw [hw]
                clear hw w' HAT
                have PL := pl_all (n := k) (i := z3) N2 N9 (by omega) (by omega)
                have gp := run_num (P := Try.prog) PL.pw
                have HSP := Lib.hid (spectrumOf_any Av k cv (pwF z3) (plR k z3) (oneP z3) (fun _ => plT k z3) (List.replicate k (mm : Int)) w8 (by simp) R8.out (sp_plain N2 N9 m1 m8 PL))
                rw [numV_of PL.rfin, PL.rfin] at HSP
                have HPL := Lib.hid PL
                obtain ⟨SZ, sz1, sz9⟩ := sp_zero HMS.out (by omega) N9 all_pairs
                have HK := Lib.hid (k_ok sz1 sz9)
                obtain ⟨rE, ST, NL⟩ := sp_two HMS.out (by omega) N9 all_pairs
                have HSZ2 := Lib.hid (fun W (r : Rd W W.heap.size A7 (zs.map (Value.int .i64))) => spectrumOf_any A7 k c7 0 _ false _ zs W HMS.out.len r SZ)
                rw [numV_of HK.out.dfin, HK.out.dfin] at HSZ2
                have HST := Lib.hid (fun W (r : Rd W W.heap.size A7 (zs.map (Value.int .i64))) => spectrumOf_any A7 k c7 1073741824 rE false _ zs W HMS.out.len r ST)
                rw [numV_of NL.is.fin, NL.is.fin] at HST
                have HNL := Lib.hid NL
                obtain ⟨gp1, gp2⟩ := gap_plain (n := k) (m := mm) N2 N9 m1 m8
                obtain ⟨gq1, gq2⟩ := gapR_of gp2 (by rw [gp1]; decide +kernel)
                rw [gp1] at gq1
                have HGR := Lib.hid (fun W (r : Rd W W.heap.size Av ((List.replicate k (mm : Int)).map (Value.int .i64))) => gapRatio_any Av k cv (List.replicate k (mm : Int)) W (by simp) (by omega) r (fun a ha => by rw [List.eq_of_mem_replicate ha]; omega))
                rw [gq1, gq2] at HGR
                obtain ⟨gz1, gz2, gz3, gz4⟩ := gap_law HMS.out N2 N9
                obtain ⟨gy1, gy2⟩ := gapR_of gz2 gz1
                have HGZ := Lib.hid (fun W (r : Rd W W.heap.size A7 (zs.map (Value.int .i64))) => gapRatio_any A7 k c7 zs W HMS.out.len (by omega) r (fun a ha => by have := HMS.out.all a ha; omega))
                rw [gy1, gy2] at HGZ
                have HGI := Lib.hid (And.intro gz3 gz4)
                clear PL SZ sz1 sz9 ST NL gp1 gp2 gq1 gq2 gz1 gz2 gz3 gz4 gy1 gy2
                obtain ⟨pw, hpw⟩ : ∃ x, x = pwF z3 := ⟨_, rfl⟩
                obtain ⟨cR, hcR⟩ : ∃ x, x = plR k z3 := ⟨_, rfl⟩
                obtain ⟨dR, hdR⟩ : ∃ x, x = dK (cntZ zs) := ⟨_, rfl⟩
                obtain ⟨gR, hgR⟩ : ∃ x, x = gapC zs := ⟨_, rfl⟩
                have HPG : Hid (NearG (wid cR) (ngL (k : Int)) cCt) := Lib.hid (by rw [hcR]; exact HPL.out.gap)
                have HCF : Hid (finB cR = true) := Lib.hid (by rw [hcR]; exact HPL.out.rfin)
                rw [← hpw] at gp HSP
                rw [← hcR] at HSP
                rw [← hdR] at HSZ2 HNL
                rw [← hgR] at HGZ HGI
                clear hpw hcR hdR hgR HPL HK
                go_wp2_with fail
                refine HSP.out.mono ?_
                rintro e w9 ⟨rfl, hb9⟩
                have B9 := Lib.hid (bthen B8.out hb9)
                have R9 := Lib.hid (R8.out.next hb9)
                have R79 := Lib.hid (R78.out.next hb9)
                clear hb9 B8 R8 R78 HSP gp z31 z32
                go_wp2_with fail
                refine (HSZ2.out w9 R79.out).mono ?_
                rintro e w10 ⟨rfl, hb9⟩
                have B10 := Lib.hid (bthen B9.out hb9)
                have R10 := Lib.hid (R9.out.next hb9)
                have R710 := Lib.hid (R79.out.next hb9)
                clear hb9 B9 R9 R79 HSZ2
                go_wp2_with fail
                refine (HST.out w10 R710.out).mono ?_
                rintro e w11 ⟨rfl, hb9⟩
                have B11 := Lib.hid (bthen B10.out hb9)
                have R11 := Lib.hid (R10.out.next hb9)
                have R711 := Lib.hid (R710.out.next hb9)
                clear hb9 B10 R10 R710 HST
                go_wp2_with fail
                refine (HGR.out w11 R11.out).mono ?_
                rintro e w12 ⟨rfl, hb9⟩
                have B12 := Lib.hid (bthen B11.out hb9)
                have R712 := Lib.hid (R711.out.next hb9)
                clear hb9 B11 R11 R711 HGR
                go_wp2_with fail
                refine (HGZ.out w12 R712.out).mono ?_
                rintro e w13 ⟨rfl, hb9⟩
                have B13 := Lib.hid (bthen B12.out hb9)
                clear hb9 B12 R712 HGZ
                have wC := (wid_num (fin_num HCF.out)).1
                have wD := (wid_num (HNL.out.isd.num)).1
                have wE := (wid_num (HNL.out.is.num)).1
                have wG := (wid_num (HGI.out.1.num)).1
                have wO : floatToFloatBits .f32 1065353216 .f64 = some (wid 1065353216) := (wid_num (by decide)).1
                have hvC := fun (W : World) => run_convert_float_float (P := Try.prog) W 25 35 .f32 .f64 cR _ (by rw [Try.und25]; rfl) Try.und35 wC
                have hvD := fun (W : World) => run_convert_float_float (P := Try.prog) W 25 35 .f32 .f64 dR _ (by rw [Try.und25]; rfl) Try.und35 wD
                have hvE := fun (W : World) => run_convert_float_float (P := Try.prog) W 25 35 .f32 .f64 rE _ (by rw [Try.und25]; rfl) Try.und35 wE
                have hvG := fun (W : World) => run_convert_float_float (P := Try.prog) W 25 35 .f32 .f64 gR _ (by rw [Try.und25]; rfl) Try.und35 wG
                have hvO := fun (W : World) => run_convert_float_float (P := Try.prog) W 25 35 .f32 .f64 1065353216 _ (by rw [Try.und25]; rfl) Try.und35 wO
                obtain ⟨iN, vN⟩ := fx_v (z := (k : Int)) (k := 0) (by omega) (by omega)
                have hN0 : FloatKind.f32.format.order (floatOfInt .f32 (k : Int)) 0 = some .gt := by
                  have v := (order_v (y := 0) iN ⟨_, _, _, rfl⟩).2.1
                  have h0 : vl .f32 0 = 0 := by decide +kernel
                  have h1 : (0 : Rat) < ((k : Int) : Rat) := Rat.intCast_lt_intCast.2 (show (0 : Int) < (k : Int) by omega)
                  rw [h0, vN, decide_eq_true (show (0 : Rat) < ((k : Int) : Rat) * tw (-((0 : Nat) : Int)) from Rat.mul_pos h1 (tw_pos _))] at v
                  exact eq_of_beq v
                have iN' : finB (floatOfInt .f32 (k : Int)) = true := iN.fin
                have HLG := Lib.hid (fun W => logNumber_any (floatOfInt .f32 (k : Int)) W iN' hN0)
                have wL := (wid_num (logC_pos (pos_of iN' hN0)).2).1
                obtain ⟨lk, hlk⟩ : ∃ x, x = logC (floatOfInt .f32 (k : Int)) := ⟨_, rfl⟩
                have hvL := fun (W : World) => run_convert_float_float (P := Try.prog) W 25 35 .f32 .f64 (logC (floatOfInt .f32 (k : Int))) _ (by rw [Try.und25]; rfl) Try.und35 wL
                rw [← hlk] at hvL HLG
                have G1 : NearG (wid cR) (Go.Op.negFloat .f64 (wid lk)) cCt := by rw [hlk]; exact HPG.out
                have HG1 := Lib.hid (fun W => r8Gap_any (wid cR) (Go.Op.negFloat .f64 (wid lk)) W G1.ia G1.ib G1.h1 G1.h2)
                have og1 := G1.gt
                unfold cCt at og1
                have HG2 := Lib.hid (fun W => r8Gap_any (wid 1065353216) 4607182418800017408 W one_near.ia one_near.ib one_near.h1 one_near.h2)
                have og2 := one_near.gt
                unfold cMl at og2
                have hneg : ∀ W : World, (Go.Op.unary UnOp.neg (.float .f64 (wid lk))).run Try.prog W = .ok (.float .f64 (Go.Op.negFloat .f64 (wid lk))) W := fun _ => rfl
                have gsub := run_num (P := Try.prog) HNL.out.sub
                have olt := HNL.out.lt
                have oge := HGI.out.2
                obtain ⟨dm, hdm⟩ : ∃ x, x = fop .sub .f64 (wid dR) cMil := ⟨_, rfl⟩
                rw [← hdm] at gsub olt
                unfold cMil at gsub
                clear wC wD wE wG wO iN iN' vN hN0 wL hlk G1 hdm HNL HGI HPG HCF
                go_wp2_with fail
                refine (HLG.out _).mono ?_
                rintro e w14 ⟨rfl, hq14⟩
                have B14 := Lib.hid (below_drw B13.out hq14)
                clear hq14 B13 HLG
                go_wp2_with fail
                refine (HG1.out _).mono ?_
                rintro e wz ⟨rfl, hwz⟩
                rw [hwz]
                clear hwz wz HG1
                go_wp2_with fail
                refine (HG2.out _).mono ?_
                rintro e wz ⟨rfl, hwz⟩
                rw [hwz]
                clear hwz wz HG2
                have HAT := Lib.hid (fun W (h : W = w14) => r8At_any B m d ms 4 6 W HMB.out hm hm48 (by omega) (by omega) (by omega) (by subst h; exact (Hr2.out.below B14.out).more B14.out.size))
                go_wp2_with fail
                refine (HAT.out _ rfl).mono ?_
                rintro e w' ⟨⟨z4, rfl, z41, z42⟩, hw⟩
                rw [hw]
                clear hw w' HAT hvC hvD hvE hvG hvO hvL hneg og1 og2 gsub olt oge
                obtain ⟨D, hD⟩ : ∃ D : Nat, 1 + z4 = (D : Int) := ⟨(1 + z4).toNat, by omega⟩
                have D1 : 1 ≤ D := by omega
                have D6 : D ≤ 6 := by omega
                have HCA := Lib.hid (cantorSet_any D w14 D6)
                have HSO := Lib.hid (set_ok D1 D6)
                have HCL := Lib.hid (cL_len D)
                have hp2 : 2 ≤ 2 ^ D ∧ 2 ^ D ≤ 64 := by
                  have h1 := Nat.pow_le_pow_right (show 0 < 2 by decide) D1
                  have h2 := Nat.pow_le_pow_right (show 0 < 2 by decide) D6
                  exact ⟨h1, h2⟩
                go_wp2_with fail
                refine HCA.out.mono ?_
                rintro e w15 ⟨⟨A15, c15, rfl, ho15⟩, hb15⟩
                have B15 := Lib.hid (bthen B14.out hb15)
                obtain ⟨a15, rfl, hc15⟩ := fls_cells ho15 (by omega)
                have R15 := Lib.hid (Rd.own ho15)
                have HGA := Lib.hid (gapsOf_any a15 (2 ^ D) c15 (cL D) w15 (cL_len D) (by omega) R15.out)
                obtain ⟨sg1, sg2⟩ := set_gaps HSO.out (by rw [HCL.out]; omega)
                rw [sg1, sg2] at HGA
                unfold GivesF at HGA
                rw [gapsN_len, HCL.out] at HGA
                clear ho15 hb15 hc15 B14 HCA sg1 sg2 z41 z42 hD
                go_wp2_with fail
                refine HGA.out.mono ?_
                rintro e w16 ⟨⟨A16, c16, rfl, ho16⟩, hb16⟩
                have B16 := Lib.hid (bthen B15.out hb16)
                have R16 := Lib.hid (R15.out.next hb16)
                obtain ⟨A16', c16', hA16, hr16⟩ := shapeOf ho16
                cases hA16
                have RG := Lib.hid hr16
                clear ho16 hb16 hr16 B15 R15 HGA
                obtain ⟨g, hg⟩ : ∃ g, 2 ^ D = g + 1 := ⟨2 ^ D - 1, by omega⟩
                have HGL : Hid ((cL D).length = g + 1) := Lib.hid (by rw [HCL.out, hg])
                have hg64 : g < 64 := by omega
                have HG := Lib.hid hg
                rw [hg, show g + 1 - 1 = g by omega]
                clear hg hp2 HCL
                go_upto_region 43 with fail
                go_cut [304] from 283 to 305 (fun v wx => v = .bool false ∧ wx = w16)
                case first =>
                  as_aux_lemma =>
                  have hg := HG.out
                  clear HSO R16 RG HG HGL
                  rcases (show D = 1 ∨ D = 2 ∨ D = 3 ∨ D = 4 ∨ D = 5 ∨ D = 6 by omega) with rfl | rfl | rfl | rfl | rfl | rfl
                  · obtain rfl : g = 1 := by omega
                    go_wp2_with fail
                    go_meet
                    case rel => exact ⟨rfl, rfl⟩
                  · obtain rfl : g = 3 := by omega
                    go_wp2_with fail
                    go_meet
                    case rel => exact ⟨rfl, rfl⟩
                  · obtain rfl : g = 7 := by omega
                    go_wp2_with fail
                    go_meet
                    case rel => exact ⟨rfl, rfl⟩
                  · obtain rfl : g = 15 := by omega
                    go_wp2_with fail
                    go_meet
                    case rel => exact ⟨rfl, rfl⟩
                  · obtain rfl : g = 31 := by omega
                    go_wp2_with fail
                    go_meet
                    case rel => exact ⟨rfl, rfl⟩
                  · obtain rfl : g = 63 := by omega
                    go_wp2_with fail
                    go_meet
                    case rel => exact ⟨rfl, rfl⟩
                case rest =>
                obtain ⟨rfl, hwc⟩ := hcut
                rw [hwc]
                clear hwc HG D1 D6
                obtain ⟨l, hle⟩ : ∃ l, l = cL D := ⟨_, rfl⟩
                rw [← hle] at HSO HGL R16 RG
                clear hle
                go_wp2_with fail
                go_loopw [40, 41, 42] (fun i _ _ wr => ∃ j : Nat, j ≤ g + 1 ∧ i = .int .i64 j ∧ ∃ m, wr = w16.drewN m) (fun i _ _ _ => g + 1 - (intOf i).toNat)
                case atStart => exact ⟨0, by omega, rfl, 0, rfl⟩
                case round =>
                  obtain ⟨j', hj', rfl, hwr⟩ := hrel
                  have R16 := Lib.hid (rd_drw R16.out hwr)
                  have RG := Lib.hid (rd_drw RG.out hwr)
                  have HWR := Lib.hid hwr
                  clear hwr
                  by_cases hjl : j' < g + 1
                  · as_aux_lemma =>
                    obtain ⟨hc1, PT⟩ := set_at R16.out HGL.out hjl HSO.out
                    obtain ⟨x, hx⟩ : ∃ x, x = l.getD j' 0 := ⟨_, rfl⟩
                    rw [← hx] at hc1 PT
                    obtain ⟨r, hst, r1, r2⟩ := PT.st
                    have HSTA := Lib.hid (fun W => (stairsAt_any 3 x r W (by omega) PT.ge PT.le hst : Calls Try.prog 25 #[.float .f32 x, .int .i64 3] W _))
                    have x1 := PT.lt
                    have x2 := PT.gt
                    have hjg : (j' : Int) < (g : Int) + 1 := by omega
                    clear PT hst
                    by_cases h0 : j' = 0
                    · have hnj : decide ((0 : Int) < (j' : Int)) = false := decide_eq_false (by omega)
                      have hnj2 : decide (0 < j') = false := decide_eq_false (by omega)
                      clear hx h0
                      go_wp2_with fail
                      refine (HSTA.out _).mono ?_
                      rintro e wz ⟨rfl, hwz⟩
                      rw [← hwz]
                      clear hwz wz
                      go_upto_region 49 with fail
                      go_quiet (fail)
                      go_wp2_with fail
                      go_roundw
                      case rel => exact ⟨j' + 1, by omega, by go_num, drw_trans HWR.out ⟨_, rfl⟩⟩
                      case measure => simp [intOf]; omega
                    · obtain ⟨p, rfl⟩ : ∃ p, j' = p + 1 := ⟨j' - 1, by omega⟩
                      have hc2 := (set_at (j := p) R16.out HGL.out (by omega) HSO.out).1
                      have o3 := HSO.out.le p (by rw [HGL.out]; exact hjl)
                      rw [← hx] at o3
                      obtain ⟨y, hy⟩ : ∃ y, y = l.getD p 0 := ⟨_, rfl⟩
                      rw [← hy] at hc2 o3
                      obtain ⟨i1, hi1⟩ : ∃ i1 : Nat, i1 = p + 1 := ⟨_, rfl⟩
                      have HI := Lib.hid hi1
                      have hw2 : (i1 : Int) - 1 = (p : Int) := by omega
                      have hw1 : IntKind.i64.wrap (p : Int) = (p : Int) := by rw [IntKind.wrap_i64]; omega
                      have hp0 : (p : Int) < (g : Int) + 1 := by omega
                      have hi0' : decide ((0 : Int) < (i1 : Int)) = true := decide_eq_true (by omega)
                      have hi0n : decide (0 < i1) = true := decide_eq_true (by omega)
                      rw [← hi1] at hc1 hjg hjl hj' ⊢
                      clear hx hy hi1 h0
                      go_wp2_with fail
                      refine (HSTA.out _).mono ?_
                      rintro e wz ⟨rfl, hwz⟩
                      rw [← hwz]
                      clear hwz wz
                      go_upto_region 49 with fail
                      go_quiet (fail)
                      go_wp2_with fail
                      go_roundw
                      case rel => exact ⟨i1 + 1, by omega, by go_num, drw_trans HWR.out ⟨_, rfl⟩⟩
                      case measure => simp [intOf]; omega
                  · as_aux_lemma =>
                    obtain rfl : j' = g + 1 := by omega
                    obtain ⟨w17, hw17⟩ : ∃ w17, w17 = wr := ⟨_, rfl⟩
                    rw [← hw17] at HWR RG ⊢
                    have B17 : Hid (Below w.heap.size w w17) := Lib.hid (below_drw B16.out HWR.out)
                    clear hw17 HWR R16 B16
                    go_wp2_with fail
                    go_loop [43] (fun i => ∃ j : Nat, j ≤ g ∧ i = .int .i64 j) (fun i => g - (intOf i).toNat)
                    case atStart => exact ⟨0, by omega, rfl⟩
                    case round =>
                      obtain ⟨q, hq, rfl⟩ := hrel
                      by_cases hql : q < g
                      · as_aux_lemma =>
                        obtain ⟨ad, x, rfl, hc1, o1⟩ := gap_at RG.out HGL.out hql HSO.out
                        have hqg : (q : Int) < (g : Int) := by omega
                        go_wp2_with fail
                        go_round
                        case rel => exact ⟨q + 1, by omega, by go_num⟩
                        case measure => simp [intOf]; omega
                      · as_aux_lemma =>
                        obtain rfl : q = g := by omega
                        obtain ⟨k1', k2', k3', k4'⟩ := half_st
                        have HSTA := Lib.hid (fun W => (stairsAt_any 20 kh kh W (by omega) k2' k3' k1' : Calls Try.prog 25 #[.float .f32 1056964608, .int .i64 20] W _))
                        unfold kh at k4' HSTA
                        clear k1' k2' k3'
                        go_wp2_with fail
                        refine (HSTA.out _).mono ?_
                        rintro e wz ⟨rfl, hwz⟩
                        rw [← hwz]
                        clear hwz wz
                        go_wp2
                        go_ret
                        exact ⟨rfl, B17.out⟩
end Go.Proofs.Ytbojlgbkkdnegaa
