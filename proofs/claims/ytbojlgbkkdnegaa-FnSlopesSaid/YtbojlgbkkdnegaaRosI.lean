/- RangeOverSpread, the program's way. -/
import Derived.Test.YtbojlgbkkdnegaaWa
namespace Go.Proofs.Ytbojlgbkkdnegaa
open Ieee Go.RowKit
set_option maxHeartbeats 8000000 in
set_option maxRecDepth 100000 in
theorem rangeOverSpread_any (A : Option Addr) (n c : Nat) (xs : List Nat) (w : World) (hn : xs.length = n) (hm : n ≤ 1048576) (hr : Rd w w.heap.size A (xs.map (Value.float .f32))) :
    Calls Try.prog 13 #[.slice A n c] w fun e w' => e = .returned (.tuple #[.float .f32 (rosR xs), .bool (rosB xs)]) ∧ Below w.heap.size w w' := by
  have c1 := isList_any A n c xs w hn hm hr
  have hcv := fun (n : Int) (w : World) => run_convert_int_float (P := Try.prog) w 3 25 .i64 .f32 n (by rw [Try.underlying3]; rfl) Try.underlying25
  cases hl : listB xs
  · rw [hl] at c1
    have HO : Hid (rosR xs = 0 ∧ rosB xs = false) := Lib.hid (by unfold rosR rosB rosIn; rw [hl]; exact ⟨rfl, rfl⟩)
    have HC1 := Lib.hid c1
    clear c1 hr hn hl
    go_enter Try.func13, Try.ntmps13
    go_wp2_with fail
    refine HC1.out.mono ?_
    rintro e w1 ⟨rfl, hb⟩
    have B1 := Lib.hid hb
    clear hb
    go_wp2
    go_ret2
    rw [HO.out.1, HO.out.2]
    exact ⟨rfl, B1.out⟩
  · rw [hl] at c1
    by_cases h2 : 2 ≤ n
    · obtain ⟨h256, hfin⟩ := listB_len hl
      obtain ⟨i0, hi, hz0, hz1, hz2⟩ := info_parts Try.info25
      have HO : Hid (rosR xs = spR xs ∧ rosB xs = spB xs) := Lib.hid (by unfold rosR rosB rosIn; rw [hl, show decide (2 ≤ xs.length) = true by rw [decide_eq_true_eq]; omega]; exact ⟨rfl, rfl⟩)
      have HF := Lib.hid (fun h => sums_fin (xs := xs) h256 h)
      have HS := Lib.hid (fun (W : World) (hb : Below w.heap.size w W) => sumOf_any A n c xs W hn (by omega) (hr.next hb))
      have HM : Hid (meanF xs = fop .quo .f32 (sumF xs) (floatOfInt .f32 (n : Int))) := Lib.hid (by unfold meanF; rw [hn])
      have HSQ : Hid (rosS xs = rootC (fop .quo .f32 (sumF (sqN (devs xs))) (floatOfInt .f32 (n : Int)))) := Lib.hid (by unfold rosS meanF sqN devs; rw [List.length_map, List.length_map, hn])
      have HC1 := Lib.hid c1
      have Hn := Lib.hid hn
      have Hr := Lib.hid hr
      rw [hn] at h256
      clear c1 hl hn hr hfin
      go_enter Try.func13, Try.ntmps13
      go_wp2_with fail
      refine HC1.out.mono ?_
      rintro e w1 ⟨rfl, hb⟩
      have B1 := Lib.hid hb
      clear hb
      go_wp2_with fail
      refine (HS.out w1 B1.out).mono ?_
      rintro e w2 ⟨⟨z, rfl, hz⟩, hq⟩
      have B2 := Lib.hid (below_drw B1.out hq)
      have HZ := Lib.hid hz
      clear hz hq
      go_wp2_with (first
          | (refine wpList_fopW rfl .quo 25 (.tmp 27) (.tmp 28) 25 rfl arith_quo .f32 _ _ rfl rfl ?_; intro r1 w1 h1 q1; have B3 := Lib.hid (below_drw B2.out q1); have KM : Hid (Sim .f32 r1 (meanF xs)) := Lib.hid (by rw [HM.out]; exact h1.trans (fop_sim arith_quo HZ.out (.refl _ _))); have hz3 := B3.out.size; clear h1 q1))
      have hN := own_oneF w1 25 0 w.heap.size hz3
      have HN := Lib.hid hN
      clear hN
      go_loopw [6, 7, 8, 33] (fun s t v i wr => ∃ (k z q : Nat) (ls : List Nat), k ≤ n ∧ i = .int .i64 k ∧ s = .float .f32 z ∧ t = .float .f32 q ∧ Hid (Sim .f32 z (sumF ((devs xs).take k))) ∧ Hid (Sim .f32 q (sumF (sqN ((devs xs).take k)))) ∧ ls.length = k + 1 ∧ Hid (SimL ls (sumsK (devs xs) k)) ∧ wr.ownsRow w.heap.size 25 1 v ls.length (ls.map (Value.float .f32)) ∧ Below w.heap.size w wr) (fun _ _ _ i _ => n - (intOf i).toNat)
      case atStart => exact ⟨0, 0, 0, [0], Nat.zero_le _, rfl, rfl, rfl, Lib.hid (.refl _ _), Lib.hid (.refl _ _), rfl, Lib.hid (.refl _), HN.out, B3.out.alloc hz3 _⟩
      case round =>
        obtain ⟨k, z, q, ls, hk, rfl, rfl, rfl, HK, HQ, hll, HL, hv, hb⟩ := hrel
        have HV := Lib.hid hv
        have HB := Lib.hid hb
        have HLL := Lib.hid hll
        have hl2 : ls.length ≤ 257 := by omega
        have hwz := HB.out.size
        clear hv hb hll
        obtain ⟨Av, cv, rfl, hrv⟩ := shapeOf HV.out
        by_cases hlt : k < n
        · have hka : k < xs.length := by rw [Hn.out]; exact hlt
          obtain ⟨ad, rfl, had, hck⟩ := ((Hr.out.below HB.out).more hwz).at_ (k := k) (by rw [List.length_map]; exact hka)
          rw [List.getElem_map] at hck
          have HD := Lib.hid (devs_take hka)
          have HSS := Lib.hid (sumsK_succ (devs xs) k)
          obtain ⟨x, hx⟩ : ∃ x, x = xs[k] := ⟨_, rfl⟩
          rw [← hx] at hck HD
          clear hx hrv
          go_wp2_with (first
          | (refine wpList_fopW rfl .sub 25 (.tmp 37) (.tmp 38) 25 rfl arith_sub .f32 _ _ rfl rfl ?_; intro r2 w2 h2 q2)
          | (refine wpList_fopW rfl .mul 25 (.tmp 41) (.tmp 42) 25 rfl arith_mul .f32 _ _ rfl rfl ?_; intro r3 w3 h3 q3)
          | (refine wpList_fopW rfl .add 25 (.tmp 40) (.tmp 43) 25 rfl arith_add .f32 _ _ rfl rfl ?_; intro r4 w4 h4 q4)
          | (refine wpList_fopW rfl .add 25 (.tmp 45) (.tmp 46) 25 rfl arith_add .f32 _ _ rfl rfl ?_; intro r5 w5 h5 q5; have qq := drw_trans (drw_trans (drw_trans q2 q3) q4) q5; have HVq := Lib.hid (own_drw HV.out qq); have HBq := Lib.hid (below_drw HB.out qq); have hzb := HBq.out.size; clear qq q2 q3 q4 q5)
          | (at_builtin; go_must (refine wpList_append_own_at _ rfl (.tmp 48) (.tmp 50) 26 rfl w.heap.size 25 i0 (.float .f32 0) 1 4 Try.underlying26 hi hz0 hz1 hz2 rfl (by decide) _ _ _ rfl (HVq.out.alloc _) ⟨w5.heap.size, 0, none⟩ 1 1 [.float .f32 r5] rfl rfl (newOne w5 _ 25) (oneF _ _) ?_ ?_ ?_ ?_)))
          · unfold maxLen; omega
          · omega
          · simp; omega
          intro v' w7 hown' hgrow _ hat'
          have HV7 := Lib.hid (own_appF hown')
          have HB7 := Lib.hid ((HBq.out.alloc hzb (.cells #[.float .f32 r5] 25)).grown hgrow (by simp; omega) (fun q hq => (HVq.out.lt q hq).1))
          have K2 : Sim .f32 r2 (fop .sub .f32 x (meanF xs)) := h2.trans (fop_sim arith_sub (.refl _ _) KM.out)
          have K4 : Hid (Sim .f32 r4 (sumF (sqN ((devs xs).take (k + 1))))) := Lib.hid (by rw [HD.out, sqN_snoc, sumF_snoc]; exact h4.trans (fop_sim arith_add HQ.out (h3.trans (fop_sim arith_mul K2 K2))))
          have K5 : Sim .f32 r5 (sumF ((devs xs).take (k + 1))) := by rw [HD.out, sumF_snoc]; exact h5.trans (fop_sim arith_add HK.out K2)
          have K5' := Lib.hid K5
          have HL7 : Hid (SimL (ls ++ [r5]) (sumsK (devs xs) (k + 1))) := Lib.hid (by rw [HSS.out]; exact HL.out.snoc K5)
          clear hown' hgrow hat' h2 h3 h4 h5 K2 K5
          go_wp2
          go_roundw
          case rel => exact ⟨k + 1, r5, r4, ls ++ [r5], by omega, by go_num, rfl, rfl, K5', K4, by rw [List.length_append, HLL.out]; rfl, HL7, HV7.out, HB7.out⟩
          case measure => simp [intOf]; omega
        · obtain rfl : n = k := by omega
          have hT : (devs xs).take n = devs xs := List.take_of_length_le (by unfold devs; rw [List.length_map, Hn.out]; omega)
          have KQ : Hid (Sim .f32 q (sumF (sqN (devs xs)))) := Lib.hid (by have h := HQ.out; rwa [hT] at h)
          have HSP := Lib.hid (fun (hls : 1 ≤ ls.length) (m : Nat) => span_any Av ls.length cv ls (wr.drewN m) rfl hls (by omega) hrv)
          have HXL : Hid (finB (rosS xs) = true → ls = sumsK (devs xs) xs.length) := Lib.hid (fun h => by rw [Hn.out]; exact simL_eq HL.out (by have := HF.out h; rwa [Hn.out] at this))
          clear hT hrv
          go_wp2_with (first
          | (refine wpList_fop rfl .quo 25 (.tmp 53) (.tmp 54) 25 rfl arith_quo .f32 _ _ rfl rfl ?_; intro r2 m2 h2))
          have K1 : Sim .f32 r2 (fop .quo .f32 (sumF (sqN (devs xs))) (floatOfInt .f32 (n : Int))) := h2.trans (fop_sim arith_quo KQ.out (.refl _ _))
          have HR2 := Lib.hid (fun W => rootNumber_any r2 _ W K1)
          clear K1 h2
          refine (HR2.out _).mono ?_
          rintro e w' ⟨⟨r, rfl, h3⟩, m3, rfl⟩
          rw [← HSQ.out] at h3
          have c63 := fun W => isFinite_any r W
          rw [finB_sim h3] at c63
          cases g1 : finB (rosS xs)
          · rw [g1] at c63
            have HR : Hid (spR xs = 0 ∧ spB xs = false) := Lib.hid (by unfold spR spB spOk; rw [g1, Bool.and_false]; exact ⟨rfl, rfl⟩)
            have HC := Lib.hid c63
            clear c63 g1 h3
            go_wp2_with fail
            refine (HC.out _).mono ?_
            rintro e w' ⟨rfl, m4, rfl⟩
            go_wp2
            go_ret2
            rw [HO.out.1, HO.out.2, HR.out.1, HR.out.2]
            exact ⟨rfl, by repeat (first | exact HB.out | apply below_drewN)⟩
          · rw [g1] at c63
            have HC := Lib.hid c63
            have hre := h3.eq (fin_num g1)
            have hll2 := HXL.out g1
            cases g2 : gtB (rosS xs)
            · have HR : Hid (spR xs = 0 ∧ spB xs = false) := Lib.hid (by unfold spR spB spOk; rw [g2, Bool.false_and]; exact ⟨rfl, rfl⟩)
              have ho2 := gtB_f g1 g2
              rw [← hre] at ho2
              have HO2 := Lib.hid ho2
              clear c63 g1 g2 h3 hll2 HXL hre ho2
              rcases HO2.out with ho | ho
              all_goals
                go_wp2_with fail
                refine (HC.out _).mono ?_
                rintro e w' ⟨rfl, m4, rfl⟩
                go_wp2
                go_ret2
                rw [HO.out.1, HO.out.2, HR.out.1, HR.out.2]
                exact ⟨rfl, by repeat (first | exact HB.out | apply below_drewN)⟩
            · have HR : Hid (spR xs = numV (rosC xs) ∧ spB xs = finB (rosC xs)) := Lib.hid (by unfold spR spB spOk; rw [g1, g2]; exact ⟨rfl, rfl⟩)
              have HCC : Hid (rosC xs = fop .quo .f32 (fop .sub .f32 (highS ls) (lowS ls)) r) := Lib.hid (by unfold rosC; rw [← hll2, ← hre])
              have ho := gtB_t g2
              rw [← hre] at ho
              clear c63 g1 g2 h3 hll2 HXL hre
              go_wp2_with fail
              refine (HC.out _).mono ?_
              rintro e w' ⟨rfl, m4, rfl⟩
              have HSP2 := Lib.hid (fun m => HSP.out (by have := HLL.out; omega) m)
              go_wp2_with fail
              refine (HSP2.out _).mono ?_
              rintro e w' ⟨rfl, m5, rfl⟩
              go_wp2_with (first
          | (refine wpList_fop rfl .sub 25 (.tmp 70) (.tmp 71) 25 rfl arith_sub .f32 _ _ rfl rfl ?_; intro r6 m6 h6)
          | (refine wpList_fop rfl .quo 25 (.tmp 72) (.tmp 73) 25 rfl arith_quo .f32 _ _ rfl rfl ?_; intro r7 m7 h7))
              have HI := Lib.hid (fun W => ifNumber_any r7 (rosC xs) W (by rw [HCC.out]; exact h7.trans (fop_sim arith_quo h6 (.refl _ _))))
              clear h6 h7
              refine (HI.out _).mono ?_
              rintro e w' ⟨rfl, m9, rfl⟩
              rw [← HR.out.1, ← HR.out.2, ← HO.out.1, ← HO.out.2]
              go_wp2
              go_ret2
              exact ⟨rfl, by repeat (first | exact HB.out | apply below_drewN)⟩
    · have h2' : (n : Int) < 2 := by omega
      have HO : Hid (rosR xs = 0 ∧ rosB xs = false) := Lib.hid (by unfold rosR rosB rosIn; rw [show decide (2 ≤ xs.length) = false by rw [decide_eq_false_iff_not]; omega, Bool.and_false]; exact ⟨rfl, rfl⟩)
      have HC1 := Lib.hid c1
      clear c1 hr hn hl h2
      go_enter Try.func13, Try.ntmps13
      go_wp2_with fail
      refine HC1.out.mono ?_
      rintro e w1 ⟨rfl, hb⟩
      have B1 := Lib.hid hb
      clear hb
      go_wp2
      go_ret2
      rw [HO.out.1, HO.out.2]
      exact ⟨rfl, B1.out⟩
end Go.Proofs.Ytbojlgbkkdnegaa
