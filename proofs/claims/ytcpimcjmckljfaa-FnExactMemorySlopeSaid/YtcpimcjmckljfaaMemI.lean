/- MemorySlope, the program's way. -/
import Derived.Test.YtcpimcjmckljfaaMem
namespace Go.Proofs.Ytcpimcjmckljfaa
open Ieee Go.RowKit
set_option maxHeartbeats 16000000 in
set_option maxRecDepth 100000 in
theorem memorySlope_any (A : Option Addr) (n c : Nat) (xs : List Nat) (A' : Option Addr) (n' c' : Nat) (zs : List Int) (w : World) (hn : xs.length = n) (hm : n ≤ 1048576) (hr : Rd w w.heap.size A (xs.map (Value.float .f32))) (hn' : zs.length = n') (hm' : n' ≤ 1048576) (hr' : Rd w w.heap.size A' (zs.map (Value.int .i64))) (_hw : ∀ a ∈ zs, -9223372036854775808 ≤ a ∧ a ≤ 9223372036854775807) (hc : n ≤ c) :
    Calls Try.prog 46 #[.slice A n c, .slice A' n' c'] w fun e w' => e = .returned (.tuple #[.float .f32 (memR xs zs), .bool (memB xs zs)]) ∧ Below w.heap.size w w' := by
  have c1 := isList_any A n c xs w hn hm hr
  have c2 := fun (W : World) (hb : Below w.heap.size w W) => areWithin_any A' n' c' zs 2 (n : Int) W hn' (by omega) (hr'.next hb)
  cases hl : listB xs
  · rw [hl] at c1
    have HO := Lib.hid (mem_no (xs := xs) (zs := zs) (by unfold memAll memIn; rw [hl]; rfl))
    have HC1 := Lib.hid c1
    clear c1 c2 hr hr' hl hn hn'
    go_enter Try.func46, Try.ntmps46
    go_wp2_with fail
    refine HC1.out.mono ?_
    rintro e w1 ⟨rfl, hb⟩
    have B1 := Lib.hid hb
    clear hb
    go_wp2
    go_ret2
    rw [HO.out.1, HO.out.2]
    exact ⟨rfl, B1.out⟩
  · rw [hl] at c1
    by_cases h1 : 2 ≤ n'
    · by_cases h2 : n' ≤ 16
      · cases hg : rngI 2 (n : Int) zs
        · rw [hg] at c2
          have h1z : ¬ (n' : Int) < 2 := by omega
          have h2z : ¬ (16 : Int) < (n' : Int) := by omega
          have HO := Lib.hid (mem_no (xs := xs) (zs := zs) (by unfold memAll memIn; rw [hn, hg]; simp))
          have HC1 := Lib.hid c1
          have HC2f := Lib.hid c2
          clear c1 c2 hr hr' hl hg hn hn'
          go_enter Try.func46, Try.ntmps46
          go_wp2_with fail
          refine HC1.out.mono ?_
          rintro e w1 ⟨rfl, hb⟩
          have B1 := Lib.hid hb
          have HC2 := Lib.hid (HC2f.out w1 hb)
          clear hb
          go_wp2_with fail
          refine HC2.out.mono ?_
          rintro e w2 ⟨rfl, hb⟩
          have B2 := Lib.hid (bthen B1.out hb)
          clear hb
          go_wp2
          go_ret2
          rw [HO.out.1, HO.out.2]
          exact ⟨rfl, B2.out⟩
        · rw [hg] at c2
          obtain ⟨hn256, hfin⟩ := listB_len hl
          have hIN : memIn xs zs = true := by
            unfold memIn
            rw [hl, hn, hg, decide_eq_true (show 2 ≤ zs.length ∧ zs.length ≤ 16 by omega)]
            rfl
          have HALL : Hid (memAll xs zs = zs.all fun z => mem1 xs z.toNat) := Lib.hid (by unfold memAll; rw [hIN]; rfl)
          have HRNG := Lib.hid (rngI_mem hg)
          have h1z : ¬ (n' : Int) < 2 := by omega
          have h2z : ¬ (16 : Int) < (n' : Int) := by omega
          rw [hn] at hn256
          obtain ⟨i0, hi, hz0, hz1, hz2⟩ := info_parts Try.info23
          have hcv := fun (n : Int) (w : World) => run_convert_int_float (P := Try.prog) w 2 23 .i64 .f32 n (by rw [Try.underlying2]; rfl) Try.underlying23
          have HFI := Lib.hid hfin
          have HC1 := Lib.hid c1
          have HC2f := Lib.hid c2
          have Hn := Lib.hid hn
          have Hn' := Lib.hid hn'
          have Hr := Lib.hid hr
          have Hr' := Lib.hid hr'
          clear c1 c2 hl hg hn hn' hr hr' hIN hfin
          go_enter Try.func46, Try.ntmps46
          go_wp2_with fail
          refine HC1.out.mono ?_
          rintro e w1 ⟨rfl, hb⟩
          have B1 := Lib.hid hb
          have HC2 := Lib.hid (HC2f.out w1 hb)
          clear hb
          go_wp2_with fail
          refine HC2.out.mono ?_
          rintro e w2 ⟨rfl, hb⟩
          have B2 := Lib.hid (bthen B1.out hb)
          have hz2_ := B2.out.size
          clear hb
          have hN1 := own_base (own_nilF w2 23 w2.heap.size (Nat.le_refl _)) hz2_
          have HN1 := Lib.hid (hN1.alloc (.cells #[] 23))
          have hN2 := own_nilF (w2.alloc (.cells #[] 23)) 23 w.heap.size (by simp; omega)
          rw [World.size_alloc] at hN2
          have HN2 := Lib.hid hN2
          have HB0 := Lib.hid (bthen B2.out (bthen (below_new w2 (.cells #[] 23)) (below_new _ (.cells #[] 23))))
          have HT0 : Hid (Two (.slice (some ⟨w2.heap.size, 0, none⟩) 0 0) (.slice (some ⟨w2.heap.size + 1, 0, none⟩) 0 0)) := Lib.hid ⟨_, _, rfl, rfl, by show (w2.heap.size : Nat) ≠ w2.heap.size + 1; omega⟩
          clear hN1 hN2
          go_wp2_with fail
          go_loopw [6, 7, 42] (fun v u i wr => ∃ (k : Nat) (ls qs : List Nat), k ≤ n' ∧ i = .int .i64 k ∧ ls.length = k ∧ qs.length = k ∧ Hid (SimL ls ((zs.take k).map memXo) ∧ SimL qs ((zs.take k).map (memYo xs)) ∧ (zs.take k).all (fun z => mem1 xs z.toNat) = true) ∧ wr.ownsRow w.heap.size 23 1 v ls.length (ls.map (Value.float .f32)) ∧ wr.ownsRow w.heap.size 23 1 u qs.length (qs.map (Value.float .f32)) ∧ Hid (Two v u) ∧ Below w.heap.size w wr) (fun _ _ i _ => n' - (intOf i).toNat)
          case atStart => exact ⟨0, [], [], Nat.zero_le _, rfl, rfl, rfl, Lib.hid ⟨.refl _, .refl _, rfl⟩, HN1.out, HN2.out, HT0, HB0.out⟩
          case round =>
            obtain ⟨k, ls, qs, hk, rfl, hll, hql, HQ, hv, hu, HT, hb⟩ := hrel
            have HV := Lib.hid hv
            have HU := Lib.hid hu
            have HB := Lib.hid hb
            have HLL := Lib.hid hll
            have HQL := Lib.hid hql
            have hl2 : ls.length ≤ 16 := by omega
            have hq2 : qs.length ≤ 16 := by omega
            have hwz := HB.out.size
            clear hv hu hb hll hql
            obtain ⟨Av, cv, rfl, hrv⟩ := shapeOf HV.out
            obtain ⟨Au, cu, rfl, hru⟩ := shapeOf HU.out
            obtain ⟨wo, hwo⟩ : ∃ x, x = wr := ⟨_, rfl⟩
            rw [← hwo] at HV HU HB hwz hrv hru ⊢
            clear hwo
            by_cases hlt : k < n'
            · have hkz : (k : Int) < (n' : Int) := by omega
              have hka : k < zs.length := by rw [Hn'.out]; exact hlt
              obtain ⟨adz, rfl, _, hck⟩ := ((Hr'.out.below HB.out).more hwz).at_ (k := k) (by rw [List.length_map]; exact hka)
              rw [List.getElem_map] at hck
              obtain ⟨hzlo, hzhi⟩ := HRNG.out _ (List.getElem_mem hka)
              have HBAD := Lib.hid (mem_bad1 (xs := xs) hka)
              have HALS := Lib.hid (all_step (f := fun z => mem1 xs z.toNat) hka)
              have HMX := Lib.hid (map_step (f := memXo) hka)
              have HMY := Lib.hid (map_step (f := memYo xs) hka)
              obtain ⟨s, hs⟩ : ∃ s : Nat, zs[k] = (s : Int) := ⟨zs[k].toNat, by omega⟩
              rw [hs] at hck hzlo hzhi HBAD HALS HMX HMY
              have hs2 : 2 ≤ s := by omega
              have hsn : s ≤ n := by omega
              have HSN : Hid ((s : Int).toNat = s) := Lib.hid (by omega)
              rw [HSN.out] at HBAD HALS
              have HRR := Lib.hid ((Hr.out.below HB.out).more hwz)
              clear hs hzlo hzhi hrv hru
              go_wp2_with fail
              go_loopw [10, 11, 12] (fun s10 s11 s12 wr => ∃ (j p sm : Nat), s10 = .float .f32 sm ∧ s11 = .float .f32 (floatOfInt .f32 (j : Int)) ∧ s12 = .int .i64 p ∧ p ≤ n ∧ j ≤ 128 ∧ Hid (p = j * s ∧ (List.range j).all (fun i => spB (chunk xs s i)) = true) ∧ Hid (Sim .f32 sm (sumF (chunkR xs s j))) ∧ Below wo.heap.size wo wr) (fun _ _ s12 _ => n - (intOf s12).toNat)
              case atStart => exact ⟨0, 0, 0, rfl, by first | rfl | (congr 1), rfl, Nat.zero_le _, by decide, Lib.hid ⟨by rw [Nat.zero_mul], rfl⟩, Lib.hid (.refl _ _), Below.refl _ _⟩
              case round =>
                obtain ⟨j, p, sm, rfl, rfl, rfl, hpn, hj, HP, HSM, hb⟩ := hrel
                have HBI := Lib.hid hb
                clear hb
                by_cases hle : p + s ≤ n
                · have hlez : (p : Int) + (s : Int) ≤ (n : Int) := by omega
                  have HJS : Hid ((j + 1) * s ≤ xs.length) := Lib.hid (by rw [Nat.succ_mul, Hn.out, ← HP.out.1]; exact hle)
                  have HJ1 : Hid (j + 1 ≤ 128) := Lib.hid (by
                    have h1 := HJS.out
                    rw [Hn.out] at h1
                    have h2 : (j + 1) * 2 ≤ (j + 1) * s := Nat.mul_le_mul_left _ hs2
                    omega)
                  have HCR := Lib.hid (chunk_ros HFI.out hs2 (by omega) HJS.out)
                  obtain ⟨ad, hA⟩ : ∃ ad, A = some ad := by
                    obtain ⟨ad, h, _⟩ := Hr.out.at_ (k := 0) (by rw [List.length_map, Hn.out]; omega)
                    exact ⟨ad, h⟩
                  subst hA
                  have HCC := Lib.hid (fun (q : Nat) => rangeOverSpread_any (some (ad.add p)) s q (chunk xs s j) wr HCR.out.1 (by omega) (by
                    have h := Rd.sub (p := p) (s := s) ((HRR.out.below HBI.out).more HBI.out.size)
                    unfold chunk
                    rw [← HP.out.1]
                    exact h))
                  have cc := HCC.out
                  rw [HCR.out.2.1, HCR.out.2.2] at cc
                  have HUP := Lib.hid (chunkR_up xs s j)
                  cases hsb : spB (chunk xs s j)
                  · rw [hsb] at cc
                    have HC5 := Lib.hid cc
                    have HO := Lib.hid (mem_no (HBAD.out (mem1_bad (by omega) HJS.out hsb)))
                    clear cc hsb
                    go_wp2_with fail
                    refine (HC5.out _).mono ?_
                    rintro e w5 ⟨rfl, hb⟩
                    have B5 := Lib.hid (bthen HBI.out hb)
                    clear hb
                    go_wp2
                    go_ret2
                    rw [HO.out.1, HO.out.2]
                    exact ⟨rfl, HB.out.trans (B5.out.mono hwz)⟩
                  · rw [hsb] at cc
                    have HC5 := Lib.hid cc
                    have HUPA := Lib.hid (all_up HP.out.2 hsb)
                    have hcu := run_num (P := Try.prog) (cnt_up (j := j) (by omega))
                    clear cc hsb
                    go_wp2_with fail
                    refine (HC5.out _).mono ?_
                    rintro e w5 ⟨rfl, hb⟩
                    have B5 := Lib.hid (bthen HBI.out hb)
                    clear hb
                    go_wp2_with (refine wpList_fopW rfl .add 23 (.tmp 67) (.tmp 68) 23 rfl arith_add .f32 _ _ rfl rfl ?_; intro r1 w6 h1 q1)
                    have B6 := Lib.hid (below_drw B5.out q1)
                    have H1 : Hid (Sim .f32 r1 (sumF (chunkR xs s (j + 1)))) := Lib.hid (by rw [HUP.out, sumF_snoc]; exact h1.trans (fop_sim arith_add HSM.out (.refl _ _)))
                    clear h1 q1
                    go_wp2
                    go_roundw
                    case rel =>
                      have e1 := HP.out.1
                      have e2 := HJ1.out
                      exact ⟨j + 1, p + s, r1, rfl, by first | rfl | (congr 1), by first | rfl | go_num, hle, e2, Lib.hid ⟨by rw [Nat.succ_mul, e1], HUPA.out⟩, H1, B6.out⟩
                    case measure => simp [intOf]; omega
                · have hlez : ¬ (p : Int) + (s : Int) ≤ (n : Int) := by omega
                  have HDV : Hid (xs.length / s = j) := Lib.hid (by
                    rw [Hn.out]
                    refine Nat.div_eq_of_lt_le (by rw [← HP.out.1]; exact hpn) ?_
                    rw [Nat.succ_mul, ← HP.out.1]
                    omega)
                  have HM1 : Hid (mem1 xs s = true) := Lib.hid (by unfold mem1; rw [HDV.out]; exact HP.out.2)
                  have HY : Hid (memYo xs (s : Int) = logX (fop .quo .f32 (sumF (chunkR xs s j)) (floatOfInt .f32 (j : Int)))) := Lib.hid (by
                    unfold memYo meanF
                    rw [HSN.out, HDV.out]
                    unfold chunkR
                    rw [List.length_map, List.length_range])
                  have HLX := Lib.hid (fun W => logNumber_all (floatOfInt .f32 (s : Int)) (floatOfInt .f32 (s : Int)) W (good_int _) (.refl _ _))
                  have HBW := Lib.hid (HB.out.trans (HBI.out.mono hwz))
                  have HVW := Lib.hid (own_next HV.out HBI.out)
                  have HUW := Lib.hid (own_next HU.out HBI.out)
                  go_wp2_with fail
                  refine (HLX.out _).mono ?_
                  rintro e w' ⟨⟨rx, rfl, hx⟩, hq⟩
                  have HVq := Lib.hid (own_drw HVW.out hq)
                  have HUq := Lib.hid (own_drw HUW.out hq)
                  have HBq := Lib.hid (below_drw HBW.out hq)
                  have HXX := Lib.hid hx
                  have hzq := HBq.out.size
                  clear hx hq
                  go_wp2_with (at_builtin; go_must (refine wpList_append_own_at _ rfl (.tmp 72) (.tmp 76) 31 rfl w.heap.size 23 i0 (.float .f32 0) 1 4 Try.underlying31 hi hz0 hz1 hz2 rfl (by decide) _ _ _ rfl (HVq.out.alloc _) ⟨w'.heap.size, 0, none⟩ 1 1 [.float .f32 rx] rfl rfl (newOne w' _ 23) (oneF _ _) ?_ ?_ ?_ ?_))
                  · unfold maxLen; omega
                  · omega
                  · first | omega | (simp; omega)
                  intro v' w7 hown' hgrow _ hat'
                  have HV7 := Lib.hid (own_appF hown')
                  have HU7 := Lib.hid ((HUq.out.alloc (.cells #[.float .f32 rx] 23)).kept hgrow HT.out.kept)
                  have HT7 := Lib.hid (HT.out.grow hat' (fun q hq => by have := (HUq.out.lt q hq).2; simp; omega))
                  have HB7 := Lib.hid ((HBq.out.alloc hzq (.cells #[.float .f32 rx] 23)).grown hgrow (by simp; omega) (fun q hq => (HVq.out.lt q hq).1))
                  have hz7 := HB7.out.size
                  clear hown' hgrow hat' hck
                  go_wp2_with (refine wpList_fopW rfl .quo 23 (.tmp 79) (.tmp 80) 23 rfl arith_quo .f32 _ _ rfl rfl ?_; intro r2 w8 h2 q2; have HV8 := Lib.hid (own_drw HV7.out q2); have HU8 := Lib.hid (own_drw HU7.out q2); have HB8 := Lib.hid (below_drw HB7.out q2); have HLY := Lib.hid (fun W => logNumber_all r2 _ W (good_quo _ _) (h2.trans (fop_sim arith_quo HSM.out (.refl _ _)))); clear q2)
                  refine (HLY.out _).mono ?_
                  rintro e w9 ⟨⟨ry, rfl, hy⟩, hq⟩
                  have HV9 := Lib.hid (own_drw HV8.out hq)
                  have HU9 := Lib.hid (own_drw HU8.out hq)
                  have HB9 := Lib.hid (below_drw HB8.out hq)
                  have HYY : Hid (Sim .f32 ry (memYo xs (s : Int))) := Lib.hid (by rw [HY.out]; exact hy)
                  have hz9 := HB9.out.size
                  clear hy hq h2
                  go_wp2_with (at_builtin; go_must (refine wpList_append_own_at _ rfl (.tmp 78) (.tmp 83) 31 rfl w.heap.size 23 i0 (.float .f32 0) 1 4 Try.underlying31 hi hz0 hz1 hz2 rfl (by decide) _ _ _ rfl (HU9.out.alloc _) ⟨w9.heap.size, 0, none⟩ 1 1 [.float .f32 ry] rfl rfl (newOne w9 _ 23) (oneF _ _) ?_ ?_ ?_ ?_))
                  · unfold maxLen; omega
                  · omega
                  · first | omega | (simp; omega)
                  intro u' w10 hown' hgrow _ hat'
                  have HUA := Lib.hid (own_appF hown')
                  have HVA := Lib.hid ((HV9.out.alloc (.cells #[.float .f32 ry] 23)).kept hgrow HT7.out.symm.kept)
                  have HTA := Lib.hid (HT7.out.symm.grow hat' (fun q hq => by have := (HV9.out.lt q hq).2; simp; omega)).symm
                  have HBA := Lib.hid ((HB9.out.alloc (by omega) (.cells #[.float .f32 ry] 23)).grown hgrow (by simp; omega) (fun q hq => (HU9.out.lt q hq).1))
                  clear hown' hgrow hat'
                  go_wp2
                  go_roundw
                  case rel =>
                    obtain ⟨q1, q2, q3⟩ := HQ.out
                    exact ⟨k + 1, ls ++ [rx], qs ++ [ry], by omega, by go_num, by rw [List.length_append, HLL.out]; rfl, by rw [List.length_append, HQL.out]; rfl, Lib.hid ⟨by rw [HMX.out]; exact q1.snoc HXX.out, by rw [HMY.out]; exact q2.snoc HYY.out, HALS.out q3 HM1.out⟩, HVA.out, HUA.out, HTA, HBA.out⟩
                  case measure => simp [intOf]; omega
            · obtain rfl : n' = k := by omega
              have hT : zs.take n' = zs := List.take_of_length_le (by rw [Hn'.out]; omega)
              have HQ2 : Hid (SimL ls (zs.map memXo) ∧ SimL qs (zs.map (memYo xs)) ∧ memAll xs zs = true) := Lib.hid (by have h := HQ.out; rw [hT] at h; exact ⟨h.1, h.2.1, by rw [HALL.out]; exact h.2.2⟩)
              have cs := slopeOfZ_any Av Au _ _ cv cu ls qs wo rfl rfl (by omega) (by omega) hrv hru
              unfold GivesZ at cs
              have hsm := slope_sim HQ2.out.1 HQ2.out.2.1
              have HME : Hid (memB xs zs = slopeOk (zs.map memXo) (zs.map (memYo xs))) := Lib.hid (by unfold memB; rw [HQ2.out.2.2]; rfl)
              rw [hsm.1] at cs
              have HSLO := Lib.hid hsm.2
              have HC6 := Lib.hid cs
              clear hT hrv hru cs hsm
              go_wp2_with fail
              refine HC6.out.mono ?_
              rintro e w5 ⟨⟨sl, bs, rfl, h5, h6⟩, hb⟩
              have B5 := Lib.hid (HB.out.trans (hb.mono hwz))
              have HRES : Hid (memR xs zs = sl) := Lib.hid (by
                unfold memR
                cases hok : slopeOk (zs.map memXo) (zs.map (memYo xs))
                · rw [HME.out, hok, if_neg (by decide)]; exact (h6 hok).symm
                · rw [HME.out, hok, if_pos rfl, (h5 hok).1]; exact (HSLO.out hok).symm)
              clear h5 h6 hb
              go_wp2
              go_ret2
              rw [HRES.out, HME.out]
              exact ⟨rfl, B5.out⟩
      · have h1z : ¬ (n' : Int) < 2 := by omega
        have h2z : (16 : Int) < (n' : Int) := by omega
        have HO := Lib.hid (mem_no (xs := xs) (zs := zs) (by unfold memAll memIn; rw [decide_eq_false (show ¬ (2 ≤ zs.length ∧ zs.length ≤ 16) by omega)]; simp))
        have HC1 := Lib.hid c1
        clear c1 c2 hr hr' hl hn hn' h1 h2
        go_enter Try.func46, Try.ntmps46
        go_wp2_with fail
        refine HC1.out.mono ?_
        rintro e w1 ⟨rfl, hb⟩
        have B1 := Lib.hid hb
        clear hb
        go_wp2
        go_ret2
        rw [HO.out.1, HO.out.2]
        exact ⟨rfl, B1.out⟩
    · have h1z : (n' : Int) < 2 := by omega
      have HO := Lib.hid (mem_no (xs := xs) (zs := zs) (by unfold memAll memIn; rw [decide_eq_false (show ¬ (2 ≤ zs.length ∧ zs.length ≤ 16) by omega)]; simp))
      have HC1 := Lib.hid c1
      clear c1 c2 hr hr' hl hn hn' h1
      go_enter Try.func46, Try.ntmps46
      go_wp2_with fail
      refine HC1.out.mono ?_
      rintro e w1 ⟨rfl, hb⟩
      have B1 := Lib.hid hb
      clear hb
      go_wp2
      go_ret2
      rw [HO.out.1, HO.out.2]
      exact ⟨rfl, B1.out⟩
end Go.Proofs.Ytcpimcjmckljfaa
