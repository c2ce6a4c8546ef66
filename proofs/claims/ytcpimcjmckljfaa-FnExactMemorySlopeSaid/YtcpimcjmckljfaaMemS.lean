/- MemorySlope, the reference's way. -/
import Derived.Test.YtcpimcjmckljfaaMem
namespace Go.Proofs.Ytcpimcjmckljfaa
open Ieee Go.RowKit
set_option maxHeartbeats 16000000 in
set_option maxRecDepth 100000 in
theorem specMemory_any (A : Option Addr) (n c : Nat) (xs : List Nat) (A' : Option Addr) (n' c' : Nat) (zs : List Int) (w : World) (hn : xs.length = n) (hm : n ≤ 1048576) (hr : Rd w w.heap.size A (xs.map (Value.float .f32))) (hn' : zs.length = n') (hm' : n' ≤ 1048576) (hr' : Rd w w.heap.size A' (zs.map (Value.int .i64))) (_hw : ∀ a ∈ zs, -9223372036854775808 ≤ a ∧ a ≤ 9223372036854775807) (hc : n ≤ c) :
    Calls Try.prog 45 #[.slice A n c, .slice A' n' c'] w fun e w' => e = .returned (.tuple #[.float .f32 (memR xs zs), .bool (memB xs zs)]) ∧ Below w.heap.size w w' := by
  have c1 := l06List_any A n c xs w hn hm hr
  cases hl : listB xs
  · rw [hl] at c1
    have HO := Lib.hid (mem_no (xs := xs) (zs := zs) (by unfold memAll memIn; rw [hl]; rfl))
    have HC1 := Lib.hid c1
    clear c1 hr hr' hl hn hn'
    go_enter Try.func45, Try.ntmps45
    go_wp2_with fail
    refine HC1.out.mono ?_
    rintro e w1 ⟨rfl, m1, rfl⟩
    go_wp2
    go_ret2
    rw [HO.out.1, HO.out.2]
    exact ⟨rfl, below_drewN (Below.refl _ _) _⟩
  · rw [hl] at c1
    by_cases h1 : 2 ≤ n'
    · by_cases h2 : n' ≤ 16
      · obtain ⟨hn256, hfin⟩ := listB_len hl
        have hIN : memIn xs zs = rngI 2 (n : Int) zs := by
          unfold memIn
          rw [hl, hn, decide_eq_true (show 2 ≤ zs.length ∧ zs.length ≤ 16 by omega)]
          rfl
        have HALL : Hid (memAll xs zs = (rngI 2 (n : Int) zs && zs.all fun z => mem1 xs z.toNat)) := Lib.hid (by unfold memAll; rw [hIN])
        have h1z : ¬ (n' : Int) < 2 := by omega
        have h2z : ¬ (16 : Int) < (n' : Int) := by omega
        rw [hn] at hn256
        obtain ⟨i0, hi, hz0, hz1, hz2⟩ := info_parts Try.info23
        have hcv := fun (n : Int) (w : World) => run_convert_int_float (P := Try.prog) w 3 23 .i64 .f32 n (by rw [Try.underlying3]; rfl) Try.underlying23
        have HFI := Lib.hid hfin
        have HC1 := Lib.hid c1
        have Hn := Lib.hid hn
        have Hn' := Lib.hid hn'
        have Hr := Lib.hid hr
        have Hr' := Lib.hid hr'
        clear c1 hl hn hn' hr hr' hIN hfin
        go_enter Try.func45, Try.ntmps45
        go_wp2_with fail
        refine HC1.out.mono ?_
        rintro e w2 ⟨rfl, hq⟩
        have B2 := Lib.hid (below_drw (Below.refl w.heap.size w) hq)
        have hz2_ := B2.out.size
        clear hq
        have hN1 := own_base (own_nilF w2 23 w2.heap.size (Nat.le_refl _)) hz2_
        have HN1 := Lib.hid (hN1.alloc (.cells #[] 23))
        have hN2 := own_nilF (w2.alloc (.cells #[] 23)) 23 w.heap.size (by simp; omega)
        rw [World.size_alloc] at hN2
        have HN2 := Lib.hid hN2
        have HB0 := Lib.hid (bthen B2.out (bthen (below_new w2 (.cells #[] 23)) (below_new _ (.cells #[] 23))))
        have HT0 : Hid (Two (.slice (some ⟨w2.heap.size, 0, none⟩) 0 0) (.slice (some ⟨w2.heap.size + 1, 0, none⟩) 0 0)) := Lib.hid ⟨_, _, rfl, rfl, by show (w2.heap.size : Nat) ≠ w2.heap.size + 1; omega⟩
        clear hN1 hN2
        go_wp2_with fail
        go_loopw [6, 7, 8] (fun v u i wr => ∃ (k : Nat) (ls qs : List Nat), k ≤ n' ∧ i = .int .i64 k ∧ ls.length = k ∧ qs.length = k ∧ Hid (SimL ls ((zs.take k).map memXo) ∧ SimL qs ((zs.take k).map (memYo xs)) ∧ (zs.take k).all (fun z => mem1 xs z.toNat) = true ∧ (zs.take k).any (fun z => !inB z 2 (n : Int)) = false) ∧ wr.ownsRow w.heap.size 23 1 v ls.length (ls.map (Value.float .f32)) ∧ wr.ownsRow w.heap.size 23 1 u qs.length (qs.map (Value.float .f32)) ∧ Hid (Two v u) ∧ Below w.heap.size w wr) (fun _ _ i _ => n' - (intOf i).toNat)
        case atStart => exact ⟨0, [], [], Nat.zero_le _, rfl, rfl, rfl, Lib.hid ⟨.refl _, .refl _, rfl, rfl⟩, HN1.out, HN2.out, HT0, HB0.out⟩
        case round =>
          obtain ⟨k, ls, qs, hk, rfl, hll, hql, HQ, hv, hu, HT, hb⟩ := hrel
          have HV := Lib.hid hv
          have HU := Lib.hid hu
          have HB := Lib.hid hb
          have HLL := Lib.hid hll
          have HQL := Lib.hid hql
          have hl2 : ls.length ≤ 16 := by omega
          have hq2 : qs.length ≤ 16 := by omega
          have hwz := HB.out.size
          clear hv hu hb hll hql
          obtain ⟨Av, cv, rfl, hrv⟩ := shapeOf HV.out
          obtain ⟨Au, cu, rfl, hru⟩ := shapeOf HU.out
          obtain ⟨wo, hwo⟩ : ∃ x, x = wr := ⟨_, rfl⟩
          rw [← hwo] at HV HU HB hwz hrv hru ⊢
          clear hwo
          by_cases hlt : k < n'
          · have hkz : (k : Int) < (n' : Int) := by omega
            have hka : k < zs.length := by rw [Hn'.out]; exact hlt
            obtain ⟨adz, rfl, _, hck⟩ := ((Hr'.out.below HB.out).more hwz).at_ (k := k) (by rw [List.length_map]; exact hka)
            rw [List.getElem_map] at hck
            have HBAD := Lib.hid (mem_bad1 (xs := xs) hka)
            have HALS := Lib.hid (all_step (f := fun z => mem1 xs z.toNat) hka)
            have HANY := Lib.hid (any_step (p := fun z => !inB z 2 (n : Int)) hka HQ.out.2.2.2)
            have HRB := Lib.hid (rngI_bad (lo := 2) (hi := (n : Int)) hka)
            have HMX := Lib.hid (map_step (f := memXo) hka)
            have HMY := Lib.hid (map_step (f := memYo xs) hka)
            obtain ⟨z, hz⟩ : ∃ z, z = zs[k] := ⟨_, rfl⟩
            rw [← hz] at hck HBAD HALS HMX HMY HANY HRB
            clear hz hrv hru
            have c83 := fun W => l00In_any z 2 (n : Int) W
            cases hzb : inB z 2 (n : Int)
            · rw [hzb] at c83
              have HC8 := Lib.hid c83
              have HO := Lib.hid (mem_no (xs := xs) (zs := zs) (by rw [HALL.out, HRB.out hzb]; rfl))
              clear c83 hzb
              go_wp2_with fail
              refine (HC8.out _).mono ?_
              rintro e w' ⟨rfl, rfl⟩
              go_wp2
              go_ret2
              rw [HO.out.1, HO.out.2]
              exact ⟨rfl, HB.out⟩
            · rw [hzb] at c83
              have HC8 := Lib.hid c83
              have HANY2 := Lib.hid (HANY.out (by rw [hzb]; rfl))
              obtain ⟨hzlo, hzhi⟩ : 2 ≤ z ∧ z ≤ (n : Int) := by simpa [inB] using hzb
              obtain ⟨s, rfl⟩ : ∃ s : Nat, z = (s : Int) := ⟨z.toNat, by omega⟩
              have hs2 : 2 ≤ s := by omega
              have hsn : s ≤ n := by omega
              have HSN : Hid ((s : Int).toNat = s) := Lib.hid (by omega)
              rw [HSN.out] at HBAD HALS
              have HRR := Lib.hid ((Hr.out.below HB.out).more hwz)
              clear c83 hzb hzlo hzhi
              go_wp2_with fail
              refine (HC8.out _).mono ?_
              rintro e w' ⟨rfl, rfl⟩
              have HNR := Lib.hid (own_nilF wo 23 wo.heap.size (Nat.le_refl _))
              have HBR := Lib.hid (below_new wo (.cells #[] 23))
              go_wp2_with fail
              go_loopw [10, 11] (fun s10 s11 wr => ∃ (j p : Nat) (rs : List Nat), s11 = .int .i64 p ∧ p ≤ n ∧ j ≤ 128 ∧ rs.length = j ∧ Hid (p = j * s ∧ (List.range j).all (fun i => spB (chunk xs s i)) = true) ∧ Hid (rs = chunkR xs s j) ∧ wr.ownsRow wo.heap.size 23 1 s10 rs.length (rs.map (Value.float .f32)) ∧ Below wo.heap.size wo wr) (fun _ s11 _ => n - (intOf s11).toNat)
              case atStart => exact ⟨0, 0, [], rfl, Nat.zero_le _, by decide, rfl, Lib.hid ⟨by rw [Nat.zero_mul], rfl⟩, Lib.hid rfl, HNR.out, HBR.out⟩
              case round =>
                obtain ⟨j, p, rs, rfl, hpn, hj, hrl, HP, HRS, ho, hb⟩ := hrel
                have HBI := Lib.hid hb
                have HOR := Lib.hid ho
                have HRL := Lib.hid hrl
                have hr128 : rs.length ≤ 128 := by omega
                have hwi := HBI.out.size
                clear hb ho hrl
                obtain ⟨Ar, cr, rfl, hrr⟩ := shapeOf HOR.out
                by_cases hle : p + s ≤ n
                · have hlez : (p : Int) + (s : Int) ≤ (n : Int) := by omega
                  have HJS : Hid ((j + 1) * s ≤ xs.length) := Lib.hid (by rw [Nat.succ_mul, Hn.out, ← HP.out.1]; exact hle)
                  have HJ1 : Hid (j + 1 ≤ 128) := Lib.hid (by
                    have h1 := HJS.out
                    rw [Hn.out] at h1
                    have h2 : (j + 1) * 2 ≤ (j + 1) * s := Nat.mul_le_mul_left _ hs2
                    omega)
                  have HCR := Lib.hid (chunk_ros HFI.out hs2 (by omega) HJS.out)
                  obtain ⟨ad, hA⟩ : ∃ ad, A = some ad := by
                    obtain ⟨ad, h, _⟩ := Hr.out.at_ (k := 0) (by rw [List.length_map, Hn.out]; omega)
                    exact ⟨ad, h⟩
                  subst hA
                  have cc := fun (q : Nat) => l06Spread_any (some (ad.add p)) s q (chunk xs s j) wr HCR.out.1 (by omega) (by omega) (by
                    have h := Rd.sub (p := p) (s := s) ((HRR.out.below HBI.out).more HBI.out.size)
                    unfold chunk
                    rw [← HP.out.1]
                    exact h)
                  have HUP := Lib.hid (chunkR_up xs s j)
                  clear hrr
                  cases hsb : spB (chunk xs s j)
                  · rw [hsb] at cc
                    have HC5 := Lib.hid cc
                    have HO := Lib.hid (mem_no (xs := xs) (zs := zs) (HBAD.out (mem1_bad (by omega) HJS.out hsb)))
                    clear cc hsb
                    go_wp2_with fail
                    refine (HC5.out _).mono ?_
                    rintro e w5 ⟨rfl, hb⟩
                    have B5 := Lib.hid (bthen HBI.out hb)
                    clear hb
                    go_wp2
                    go_ret2
                    rw [HO.out.1, HO.out.2]
                    exact ⟨rfl, HB.out.trans (B5.out.mono hwz)⟩
                  · rw [hsb] at cc
                    have HC5 := Lib.hid cc
                    have HUPA := Lib.hid (all_up HP.out.2 hsb)
                    clear cc hsb
                    go_wp2_with fail
                    refine (HC5.out _).mono ?_
                    rintro e w5 ⟨rfl, hb⟩
                    have B5 := Lib.hid (bthen HBI.out hb)
                    have HO5 := Lib.hid (own_next HOR.out hb)
                    have hw5 := B5.out.size
                    obtain ⟨rv, hrv⟩ : ∃ rv, rv = spR (chunk xs s j) := ⟨_, rfl⟩
                    rw [← hrv] at HUP ⊢
                    clear hb hrv
                    go_wp2_with (at_builtin; go_must (refine wpList_append_own_at _ rfl (.tmp 72) (.tmp 74) 31 rfl wo.heap.size 23 i0 (.float .f32 0) 1 4 Try.underlying31 hi hz0 hz1 hz2 rfl (by decide) _ _ _ rfl (HO5.out.alloc _) ⟨w5.heap.size, 0, none⟩ 1 1 [.float .f32 rv] rfl rfl (newOne w5 _ 23) (oneF _ _) ?_ ?_ ?_ ?_))
                    · unfold maxLen; omega
                    · omega
                    · first | omega | (simp; omega)
                    intro v' w7 hown' hgrow _ hat'
                    have HO7 := Lib.hid (own_appF hown')
                    have B7 := Lib.hid ((B5.out.alloc hw5 (.cells #[.float .f32 rv] 23)).grown hgrow (by simp; omega) (fun q hq => (HO5.out.lt q hq).1))
                    clear hown' hgrow hat'
                    go_wp2
                    go_roundw
                    case rel =>
                      have e1 := HP.out.1
                      have e2 := HJ1.out
                      exact ⟨j + 1, p + s, rs ++ [rv], by first | rfl | go_num, hle, e2, by rw [List.length_append, HRL.out]; rfl, Lib.hid ⟨by rw [Nat.succ_mul, e1], HUPA.out⟩, Lib.hid (by rw [HUP.out, HRS.out]), HO7.out, B7.out⟩
                    case measure => simp [intOf]; omega
                · have hlez : ¬ (p : Int) + (s : Int) ≤ (n : Int) := by omega
                  have HDV : Hid (xs.length / s = j) := Lib.hid (by
                    rw [Hn.out]
                    refine Nat.div_eq_of_lt_le (by rw [← HP.out.1]; exact hpn) ?_
                    rw [Nat.succ_mul, ← HP.out.1]
                    omega)
                  have HM1 : Hid (mem1 xs s = true) := Lib.hid (by unfold mem1; rw [HDV.out]; exact HP.out.2)
                  have HY : Hid (memYo xs (s : Int) = logX (meanF rs)) := Lib.hid (by
                    unfold memYo
                    rw [HSN.out, HDV.out, HRS.out])
                  have HLX := Lib.hid (fun W => l01Log_all (floatOfInt .f32 (s : Int)) (floatOfInt .f32 (s : Int)) W (good_int _) (.refl _ _))
                  have HBW := Lib.hid (HB.out.trans (HBI.out.mono hwz))
                  have HVW := Lib.hid (own_next HV.out HBI.out)
                  have HUW := Lib.hid (own_next HU.out HBI.out)
                  have HNE : Hid ((Value.slice Ar rs.length cr).ownBlock = none ∨ (Value.slice Ar rs.length cr).ownBlock ≠ (Value.slice Av ls.length cv).ownBlock) := Lib.hid (by
                    cases hb : (Value.slice Ar rs.length cr).ownBlock with
                    | none => exact .inl rfl
                    | some q =>
                      right
                      intro he
                      have h1 := (HOR.out.lt q hb).1
                      have h2 := (HV.out.lt q he.symm).2
                      omega)
                  clear hrr
                  go_wp2_with fail
                  refine (HLX.out _).mono ?_
                  rintro e w' ⟨⟨rx, rfl, hx⟩, hq⟩
                  have HVq := Lib.hid (own_drw HVW.out hq)
                  have HUq := Lib.hid (own_drw HUW.out hq)
                  have HRq := Lib.hid (own_drw HOR.out hq)
                  have HBq := Lib.hid (below_drw HBW.out hq)
                  have HXX := Lib.hid hx
                  have hzq := HBq.out.size
                  clear hx hq
                  go_wp2_with (at_builtin; go_must (refine wpList_append_own_at _ rfl (.tmp 76) (.tmp 80) 31 rfl w.heap.size 23 i0 (.float .f32 0) 1 4 Try.underlying31 hi hz0 hz1 hz2 rfl (by decide) _ _ _ rfl (HVq.out.alloc _) ⟨w'.heap.size, 0, none⟩ 1 1 [.float .f32 rx] rfl rfl (newOne w' _ 23) (oneF _ _) ?_ ?_ ?_ ?_))
                  · unfold maxLen; omega
                  · omega
                  · first | omega | (simp; omega)
                  intro v' w7 hown' hgrow _ hat'
                  have HV7 := Lib.hid (own_appF hown')
                  have HU7 := Lib.hid ((HUq.out.alloc (.cells #[.float .f32 rx] 23)).kept hgrow HT.out.kept)
                  have HR7 := Lib.hid ((HRq.out.alloc (.cells #[.float .f32 rx] 23)).kept hgrow HNE.out)
                  have HT7 := Lib.hid (HT.out.grow hat' (fun q hq => by have := (HUq.out.lt q hq).2; simp; omega))
                  have HB7 := Lib.hid ((HBq.out.alloc hzq (.cells #[.float .f32 rx] 23)).grown hgrow (by simp; omega) (fun q hq => (HVq.out.lt q hq).1))
                  have hz7 := HB7.out.size
                  have HMN := Lib.hid (l06Mean_any Ar _ cr rs w7 rfl (by omega) (Rd.own HR7.out))
                  clear hown' hgrow hat' hck
                  go_wp2_with fail
                  refine HMN.out.mono ?_
                  rintro e w8 ⟨⟨r2, rfl, h2⟩, q2⟩
                  have HV8 := Lib.hid (own_drw HV7.out q2)
                  have HU8 := Lib.hid (own_drw HU7.out q2)
                  have HB8 := Lib.hid (below_drw HB7.out q2)
                  have HLY := Lib.hid (fun W => l01Log_all r2 _ W (good_quo _ _) h2)
                  clear q2 h2
                  go_wp2_with fail
                  refine (HLY.out _).mono ?_
                  rintro e w9 ⟨⟨ry, rfl, hy⟩, hq⟩
                  have HV9 := Lib.hid (own_drw HV8.out hq)
                  have HU9 := Lib.hid (own_drw HU8.out hq)
                  have HB9 := Lib.hid (below_drw HB8.out hq)
                  have HYY : Hid (Sim .f32 ry (memYo xs (s : Int))) := Lib.hid (by rw [HY.out]; exact hy)
                  have hz9 := HB9.out.size
                  clear hy hq
                  go_wp2_with (at_builtin; go_must (refine wpList_append_own_at _ rfl (.tmp 82) (.tmp 86) 31 rfl w.heap.size 23 i0 (.float .f32 0) 1 4 Try.underlying31 hi hz0 hz1 hz2 rfl (by decide) _ _ _ rfl (HU9.out.alloc _) ⟨w9.heap.size, 0, none⟩ 1 1 [.float .f32 ry] rfl rfl (newOne w9 _ 23) (oneF _ _) ?_ ?_ ?_ ?_))
                  · unfold maxLen; omega
                  · omega
                  · first | omega | (simp; omega)
                  intro u' w10 hown' hgrow _ hat'
                  have HUA := Lib.hid (own_appF hown')
                  have HVA := Lib.hid ((HV9.out.alloc (.cells #[.float .f32 ry] 23)).kept hgrow HT7.out.symm.kept)
                  have HTA := Lib.hid (HT7.out.symm.grow hat' (fun q hq => by have := (HV9.out.lt q hq).2; simp; omega)).symm
                  have HBA := Lib.hid ((HB9.out.alloc (by omega) (.cells #[.float .f32 ry] 23)).grown hgrow (by simp; omega) (fun q hq => (HU9.out.lt q hq).1))
                  clear hown' hgrow hat'
                  go_wp2
                  go_roundw
                  case rel =>
                    obtain ⟨q1, q2, q3, q4⟩ := HQ.out
                    exact ⟨k + 1, ls ++ [rx], qs ++ [ry], by omega, by go_num, by rw [List.length_append, HLL.out]; rfl, by rw [List.length_append, HQL.out]; rfl, Lib.hid ⟨by rw [HMX.out]; exact q1.snoc HXX.out, by rw [HMY.out]; exact q2.snoc HYY.out, HALS.out q3 HM1.out, HANY2.out⟩, HVA.out, HUA.out, HTA, HBA.out⟩
                  case measure => simp [intOf]; omega
          · obtain rfl : n' = k := by omega
            have hT : zs.take n' = zs := List.take_of_length_le (by rw [Hn'.out]; omega)
            have HQ2 : Hid (SimL ls (zs.map memXo) ∧ SimL qs (zs.map (memYo xs)) ∧ memAll xs zs = true) := Lib.hid (by
              have h := HQ.out
              rw [hT] at h
              refine ⟨h.1, h.2.1, ?_⟩
              rw [HALL.out, h.2.2.1]
              unfold rngI
              rw [h.2.2.2]
              rfl)
            have cs := specSlopeOf_any Av Au _ _ cv cu ls qs wo rfl rfl (by omega) (by omega) hrv hru
            unfold GivesZ at cs
            have hsm := slope_sim HQ2.out.1 HQ2.out.2.1
            have HME : Hid (memB xs zs = slopeOk (zs.map memXo) (zs.map (memYo xs))) := Lib.hid (by unfold memB; rw [HQ2.out.2.2]; rfl)
            rw [hsm.1] at cs
            have HSLO := Lib.hid hsm.2
            cases hok : slopeOk (zs.map memXo) (zs.map (memYo xs))
            · rw [hok] at cs
              have HC6 := Lib.hid cs
              have HRES : Hid (memR xs zs = 0 ∧ memB xs zs = false) := Lib.hid (by
                have h : memB xs zs = false := HME.out.trans hok
                unfold memR
                rw [h]
                exact ⟨rfl, rfl⟩)
              clear hT hrv hru cs hsm hok
              go_wp2_with fail
              refine HC6.out.mono ?_
              rintro e w5 ⟨⟨sl, bs, rfl, h5, h6⟩, hq⟩
              have B5 := Lib.hid (below_drw HB.out hq)
              clear h5 h6 hq
              go_wp2
              go_ret2
              rw [HRES.out.1, HRES.out.2]
              exact ⟨rfl, B5.out⟩
            · rw [hok] at cs
              have HC6 := Lib.hid cs
              have HOK2 := Lib.hid hok
              clear hT hrv hru cs hsm hok
              go_wp2_with fail
              refine HC6.out.mono ?_
              rintro e w5 ⟨⟨sl, bs, rfl, h5, h6⟩, hq⟩
              have B5 := Lib.hid (below_drw HB.out hq)
              have HRES : Hid (memR xs zs = sl ∧ memB xs zs = true) := Lib.hid (by
                have h : memB xs zs = true := HME.out.trans HOK2.out
                unfold memR
                rw [h, if_pos rfl]
                exact ⟨by rw [(h5 (by first | rfl | trivial)).1]; exact (HSLO.out HOK2.out).symm, rfl⟩)
              clear h5 h6 hq
              go_wp2
              go_ret2
              rw [HRES.out.1, HRES.out.2]
              exact ⟨rfl, B5.out⟩
      · have h1z : ¬ (n' : Int) < 2 := by omega
        have h2z : (16 : Int) < (n' : Int) := by omega
        have HO := Lib.hid (mem_no (xs := xs) (zs := zs) (by unfold memAll memIn; rw [decide_eq_false (show ¬ (2 ≤ zs.length ∧ zs.length ≤ 16) by omega)]; simp))
        have HC1 := Lib.hid c1
        clear c1 hr hr' hl hn hn' h1 h2
        go_enter Try.func45, Try.ntmps45
        go_wp2_with fail
        refine HC1.out.mono ?_
        rintro e w1 ⟨rfl, m1, rfl⟩
        go_wp2
        go_ret2
        rw [HO.out.1, HO.out.2]
        exact ⟨rfl, below_drewN (Below.refl _ _) _⟩
    · have h1z : (n' : Int) < 2 := by omega
      have HO := Lib.hid (mem_no (xs := xs) (zs := zs) (by unfold memAll memIn; rw [decide_eq_false (show ¬ (2 ≤ zs.length ∧ zs.length ≤ 16) by omega)]; simp))
      have HC1 := Lib.hid c1
      clear c1 hr hr' hl hn hn' h1
      go_enter Try.func45, Try.ntmps45
      go_wp2_with fail
      refine HC1.out.mono ?_
      rintro e w1 ⟨rfl, m1, rfl⟩
      go_wp2
      go_ret2
      rw [HO.out.1, HO.out.2]
      exact ⟨rfl, below_drewN (Below.refl _ _) _⟩
end Go.Proofs.Ytcpimcjmckljfaa
