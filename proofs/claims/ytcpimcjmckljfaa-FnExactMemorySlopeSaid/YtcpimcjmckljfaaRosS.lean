/- The range of sums over the spread, and RangeOverSpread, the reference's way. -/
import Derived.Test.YtcpimcjmckljfaaSpan
namespace Go.Proofs.Ytcpimcjmckljfaa
open Ieee Go.RowKit
set_option maxHeartbeats 8000000 in
set_option maxRecDepth 100000 in
theorem l06Spread_any (A : Option Addr) (n c : Nat) (xs : List Nat) (w : World) (hn : xs.length = n) (h1 : 1 ≤ n) (hm : n ≤ 256) (hr : Rd w w.heap.size A (xs.map (Value.float .f32))) :
    Calls Try.prog 70 #[.slice A n c] w fun e w' => e = .returned (.tuple #[.float .f32 (spR xs), .bool (spB xs)]) ∧ Below w.heap.size w w' := by
  have c1 := l06Mean_any A n c xs w hn (by omega) hr
  obtain ⟨i0, hi, hz0, hz1, hz2⟩ := info_parts Try.info23
  have HF := Lib.hid (fun h => sums_fin (xs := xs) (by omega) h)
  have HC1 := Lib.hid c1
  have Hn := Lib.hid hn
  have Hr := Lib.hid hr
  clear c1 hn hr
  go_enter Try.func70, Try.ntmps70
  go_wp2_with fail
  refine HC1.out.mono ?_
  rintro e w1 ⟨⟨mm, rfl, hz⟩, hq⟩
  have B1 := Lib.hid (below_drw (Below.refl w.heap.size w) hq)
  have hz1_ := B1.out.size
  have KM := Lib.hid hz
  clear hz hq
  have hN1 := own_oneF w1 23 0 w.heap.size hz1_
  have HN1 := Lib.hid (hN1.alloc (.cells #[] 23))
  have hN2 := own_nilF (w1.alloc (.cells #[.float .f32 0] 23)) 23 w.heap.size (by simp; omega)
  rw [World.size_alloc] at hN2
  have HN2 := Lib.hid hN2
  have HB0 := Lib.hid (bthen B1.out (bthen (below_new w1 (.cells #[.float .f32 0] 23)) (below_new _ (.cells #[] 23))))
  have HT0 : Hid (Two (.slice (some ⟨w1.heap.size, 0, none⟩) 1 1) (.slice (some ⟨w1.heap.size + 1, 0, none⟩) 0 0)) := Lib.hid ⟨_, _, rfl, rfl, by show (w1.heap.size : Nat) ≠ w1.heap.size + 1; omega⟩
  clear hN1 hN2
  go_wp2_with fail
  go_loopw [5, 6, 7, 8] (fun v u s i wr => ∃ (k z : Nat) (ls qs : List Nat), k ≤ n ∧ i = .int .i64 k ∧ s = .float .f32 z ∧ Hid (Sim .f32 z (sumF ((devs xs).take k))) ∧ ls.length = k + 1 ∧ qs.length = k ∧ Hid (SimL ls (sumsK (devs xs) k)) ∧ Hid (SimL qs (sqN ((devs xs).take k))) ∧ wr.ownsRow w.heap.size 23 1 v ls.length (ls.map (Value.float .f32)) ∧ wr.ownsRow w.heap.size 23 1 u qs.length (qs.map (Value.float .f32)) ∧ Hid (Two v u) ∧ Below w.heap.size w wr) (fun _ _ _ i _ => n - (intOf i).toNat)
  case atStart => exact ⟨0, 0, [0], [], Nat.zero_le _, rfl, rfl, Lib.hid (.refl _ _), rfl, rfl, Lib.hid (.refl _), Lib.hid (.refl _), HN1.out, HN2.out, HT0, HB0.out⟩
  case round =>
    obtain ⟨k, z, ls, qs, hk, rfl, rfl, HK, hll, hql, HL, HQ, hv, hu, HT, hb⟩ := hrel
    have HV := Lib.hid hv
    have HU := Lib.hid hu
    have HB := Lib.hid hb
    have HLL := Lib.hid hll
    have HQL := Lib.hid hql
    have hl2 : ls.length ≤ 257 := by omega
    have hq2 : qs.length ≤ 256 := by omega
    have hwz := HB.out.size
    clear hv hu hb hll hql
    obtain ⟨Av, cv, rfl, hrv⟩ := shapeOf HV.out
    obtain ⟨Au, cu, rfl, hru⟩ := shapeOf HU.out
    by_cases hlt : k < n
    · have hka : k < xs.length := by rw [Hn.out]; exact hlt
      obtain ⟨ad, rfl, had, hck⟩ := ((Hr.out.below HB.out).more hwz).at_ (k := k) (by rw [List.length_map]; exact hka)
      rw [List.getElem_map] at hck
      have HD := Lib.hid (devs_take hka)
      have HSS := Lib.hid (sumsK_succ (devs xs) k)
      obtain ⟨x, hx⟩ : ∃ x, x = xs[k] := ⟨_, rfl⟩
      rw [← hx] at hck HD
      clear hx hrv hru
      go_wp2_with (first
          | (refine wpList_fopW rfl .sub 23 (.tmp 24) (.tmp 25) 23 rfl arith_sub .f32 _ _ rfl rfl ?_; intro r2 w2 h2 q2)
          | (refine wpList_fopW rfl .add 23 (.tmp 27) (.tmp 28) 23 rfl arith_add .f32 _ _ rfl rfl ?_; intro r3 w3 h3 q3; have qq := drw_trans q2 q3; have HVq := Lib.hid (own_drw HV.out qq); have HUq := Lib.hid (own_drw HU.out qq); have HBq := Lib.hid (below_drw HB.out qq); have hzb := HBq.out.size; clear qq q2 q3)
          | (at_builtin; go_must (refine wpList_append_own_at _ rfl (.tmp 30) (.tmp 32) 31 rfl w.heap.size 23 i0 (.float .f32 0) 1 4 Try.underlying31 hi hz0 hz1 hz2 rfl (by decide) _ _ _ rfl (HVq.out.alloc _) ⟨w3.heap.size, 0, none⟩ 1 1 [.float .f32 r3] rfl rfl (newOne w3 _ 23) (oneF _ _) ?_ ?_ ?_ ?_)))
      · unfold maxLen; omega
      · omega
      · simp; omega
      intro v' w7 hown' hgrow _ hat'
      have HV7 := Lib.hid (own_appF hown')
      have HU7 := Lib.hid ((HUq.out.alloc (.cells #[.float .f32 r3] 23)).kept hgrow HT.out.kept)
      have HT7 := Lib.hid (HT.out.grow hat' (fun q hq => by have := (HUq.out.lt q hq).2; simp; omega))
      have HB7 := Lib.hid ((HBq.out.alloc hzb (.cells #[.float .f32 r3] 23)).grown hgrow (by simp; omega) (fun q hq => (HVq.out.lt q hq).1))
      have hz7 := HB7.out.size
      have K2 : Sim .f32 r2 (fop .sub .f32 x (meanF xs)) := h2.trans (fop_sim arith_sub (.refl _ _) KM.out)
      have K3 : Sim .f32 r3 (sumF ((devs xs).take (k + 1))) := by rw [HD.out, sumF_snoc]; exact h3.trans (fop_sim arith_add HK.out K2)
      have HK3 := Lib.hid K3
      have HK2 := Lib.hid K2
      have HL7 : Hid (SimL (ls ++ [r3]) (sumsK (devs xs) (k + 1))) := Lib.hid (by rw [HSS.out]; exact HL.out.snoc K3)
      clear hown' hgrow hat' hck h2 h3 K2 K3
      go_wp2_with (first
          | (refine wpList_fopW rfl .mul 23 (.tmp 35) (.tmp 36) 23 rfl arith_mul .f32 _ _ rfl rfl ?_; intro r4 w4 h4 q4; have HUp := Lib.hid (own_drw HU7.out q4); have HVp := Lib.hid (own_drw HV7.out q4); have HBp := Lib.hid (below_drw HB7.out q4); have hzp := HBp.out.size; clear q4)
          | (at_builtin; go_must (refine wpList_append_own_at _ rfl (.tmp 34) (.tmp 38) 31 rfl w.heap.size 23 i0 (.float .f32 0) 1 4 Try.underlying31 hi hz0 hz1 hz2 rfl (by decide) _ _ _ rfl (HUp.out.alloc _) ⟨w4.heap.size, 0, none⟩ 1 1 [.float .f32 r4] rfl rfl (newOne w4 _ 23) (oneF _ _) ?_ ?_ ?_ ?_)))
      · unfold maxLen; omega
      · omega
      · simp; omega
      intro u' w8 hown' hgrow _ hat'
      have HU8 := Lib.hid (own_appF hown')
      have HV8 := Lib.hid ((HVp.out.alloc (.cells #[.float .f32 r4] 23)).kept hgrow HT7.out.symm.kept)
      have HT8 := Lib.hid (HT7.out.symm.grow hat' (fun q hq => by have := (HVp.out.lt q hq).2; simp; omega)).symm
      have HB8 := Lib.hid ((HBp.out.alloc (by omega) (.cells #[.float .f32 r4] 23)).grown hgrow (by simp; omega) (fun q hq => (HUp.out.lt q hq).1))
      have HQ8 : Hid (SimL (qs ++ [r4]) (sqN ((devs xs).take (k + 1)))) := Lib.hid (by rw [HD.out, sqN_snoc]; exact HQ.out.snoc (h4.trans (fop_sim arith_mul HK2.out HK2.out)))
      clear hown' hgrow hat' h4
      go_wp2
      go_roundw
      case rel => exact ⟨k + 1, r3, ls ++ [r3], qs ++ [r4], by omega, by go_num, rfl, HK3, by rw [List.length_append, HLL.out]; rfl, by rw [List.length_append, HQL.out]; rfl, HL7, HQ8, HV8.out, HU8.out, HT8, HB8.out⟩
      case measure => simp [intOf]; omega
    · obtain rfl : n = k := by omega
      have hT : (devs xs).take n = devs xs := List.take_of_length_le (by unfold devs; rw [List.length_map, Hn.out]; omega)
      have HQ2 : Hid (SimL qs (sqN (devs xs))) := Lib.hid (by have h := HQ.out; rwa [hT] at h)
      have HSM : Hid (Sim .f32 (meanF qs) (meanF (sqN (devs xs)))) := Lib.hid (by unfold meanF; rw [HQ2.out.1]; exact fop_sim arith_quo (sumF_sim HQ2.out) (.refl _ _))
      have HM2 := Lib.hid (fun q => l06Mean_any Au _ cu qs (wr.drewN q) rfl (by omega) hru)
      have HM0 := Lib.hid (l06Mean_any Au _ cu qs wr rfl (by omega) hru)
      have HF2 := Lib.hid (fun q => l02Finite_any Av _ cv ls (wr.drewN q) rfl (by omega) hrv)
      have HXL : Hid (finB (rosS xs) = true → ls = sumsK (devs xs) xs.length ∧ finL ls = true) := Lib.hid (fun h => by
        have hs := HF.out h
        have he : ls = sumsK (devs xs) xs.length := by rw [Hn.out]; exact simL_eq HL.out (by rwa [Hn.out] at hs)
        refine ⟨he, ?_⟩
        rw [he]
        unfold finL
        rw [Bool.not_eq_true', List.any_eq_false]
        intro x hx
        simp [hs x hx])
      have HRG := Lib.hid (fun (hls : 1 ≤ ls.length) (m : Nat) => l06Range_any Av ls.length cv ls (wr.drewN m) rfl hls (by omega) hrv)
      clear hT hrv hru
      go_wp2_with fail
      refine HM0.out.mono ?_
      rintro e w' ⟨⟨q1, rfl, h1_⟩, m1, rfl⟩
      have HR2 := Lib.hid (fun W => l01Sqrt_any q1 _ W (h1_.trans HSM.out))
      clear h1_
      go_wp2_with fail
      refine (HR2.out _).mono ?_
      rintro e w' ⟨⟨r, rfl, h3⟩, m3, rfl⟩
      have h3' : Sim .f32 r (rosS xs) := h3
      have HO3 : Hid (∀ z, FloatKind.f32.format.order r z = FloatKind.f32.format.order (rosS xs) z) := Lib.hid (fun z => order_sim h3' z)
      have c63 := fun W => l01Finite_any r W
      rw [finB_sim h3'] at c63
      cases g2 : gtB (rosS xs)
      · have HR : Hid (spR xs = 0 ∧ spB xs = false) := Lib.hid (by unfold spR spB spOk; rw [g2, Bool.false_and]; exact ⟨rfl, rfl⟩)
        have ho : (FloatKind.f32.format.order r 0 == some .gt) = false := by rw [HO3.out]; exact g2
        clear c63 g2 h3 h3' HXL
        go_wp2
        go_ret2
        rw [HR.out.1, HR.out.2]
        exact ⟨rfl, by repeat (first | exact HB.out | apply below_drewN)⟩
      · have ho : (FloatKind.f32.format.order r 0 == some .gt) = true := by rw [HO3.out]; exact g2
        cases g1 : finB (rosS xs)
        · rw [g1] at c63
          have HR : Hid (spR xs = 0 ∧ spB xs = false) := Lib.hid (by unfold spR spB spOk; rw [g1, Bool.and_false]; exact ⟨rfl, rfl⟩)
          have HC := Lib.hid c63
          clear c63 g1 g2 h3 h3' HXL
          go_wp2_with fail
          refine (HC.out _).mono ?_
          rintro e w' ⟨rfl, m4, rfl⟩
          go_wp2
          go_ret2
          rw [HR.out.1, HR.out.2]
          exact ⟨rfl, by repeat (first | exact HB.out | apply below_drewN)⟩
        · rw [g1] at c63
          have HC := Lib.hid c63
          have hre := h3'.eq (fin_num g1)
          obtain ⟨hll2, hlf⟩ := HXL.out g1
          have HR : Hid (spR xs = numV (rosC xs) ∧ spB xs = finB (rosC xs)) := Lib.hid (by unfold spR spB spOk; rw [g1, g2]; exact ⟨rfl, rfl⟩)
          have HCC : Hid (rosC xs = fop .quo .f32 (fop .sub .f32 (highS ls) (lowS ls)) r) := Lib.hid (by unfold rosC; rw [← hll2, ← hre])
          have c91 := HF2.out
          rw [hlf] at c91
          have HF3 := Lib.hid c91
          clear c63 g1 g2 h3 h3' hll2 HXL hre hlf c91
          go_wp2_with fail
          refine (HC.out _).mono ?_
          rintro e w' ⟨rfl, m4, rfl⟩
          go_wp2_with fail
          refine (HF3.out _).mono ?_
          rintro e w' ⟨rfl, m5, rfl⟩
          have HRG2 := Lib.hid (fun m => HRG.out (by have := HLL.out; omega) m)
          go_wp2_with fail
          refine (HRG2.out _).mono ?_
          rintro e w' ⟨⟨d, rfl, hd⟩, m6, rfl⟩
          have HD2 := Lib.hid hd
          clear hd
          go_wp2_with (first
          | (refine wpList_fop rfl .quo 23 (.tmp 57) (.tmp 58) 23 rfl arith_quo .f32 _ _ rfl rfl ?_; intro r7 m7 h7))
          have HI := Lib.hid (fun W => l02Number_any r7 (rosC xs) W (by rw [HCC.out]; exact h7.trans (fop_sim arith_quo HD2.out (.refl _ _))))
          clear h7
          refine (HI.out _).mono ?_
          rintro e w' ⟨rfl, m9, rfl⟩
          rw [← HR.out.1, ← HR.out.2]
          go_wp2
          go_ret2
          exact ⟨rfl, by repeat (first | exact HB.out | apply below_drewN)⟩
set_option maxHeartbeats 8000000 in
set_option maxRecDepth 100000 in
theorem specRange_any (A : Option Addr) (n c : Nat) (xs : List Nat) (w : World) (hn : xs.length = n) (hm : n ≤ 1048576) (hr : Rd w w.heap.size A (xs.map (Value.float .f32))) :
    Calls Try.prog 33 #[.slice A n c] w fun e w' => e = .returned (.tuple #[.float .f32 (rosR xs), .bool (rosB xs)]) ∧ Below w.heap.size w w' := by
  have c1 := l06List_any A n c xs w hn hm hr
  cases hl : listB xs
  · rw [hl] at c1
    have HO : Hid (rosR xs = 0 ∧ rosB xs = false) := Lib.hid (by unfold rosR rosB rosIn; rw [hl]; exact ⟨rfl, rfl⟩)
    have HC1 := Lib.hid c1
    clear c1 hr hn hl
    go_enter Try.func33, Try.ntmps33
    go_wp2_with fail
    refine HC1.out.mono ?_
    rintro e w1 ⟨rfl, m1, rfl⟩
    go_wp2
    go_ret2
    rw [HO.out.1, HO.out.2]
    exact ⟨rfl, below_drewN (Below.refl _ _) _⟩
  · rw [hl] at c1
    by_cases h2 : 2 ≤ n
    · obtain ⟨h256, hfin⟩ := listB_len hl
      have HO : Hid (rosR xs = spR xs ∧ rosB xs = spB xs) := Lib.hid (by unfold rosR rosB rosIn; rw [hl, show decide (2 ≤ xs.length) = true by rw [decide_eq_true_eq]; omega]; exact ⟨rfl, rfl⟩)
      have HS := Lib.hid (fun (m : Nat) => l06Spread_any A n c xs (w.drewN m) hn (by omega) (by omega) hr)
      have HC1 := Lib.hid c1
      clear c1 hl hn hr hfin h256
      go_enter Try.func33, Try.ntmps33
      go_wp2_with fail
      refine HC1.out.mono ?_
      rintro e w1 ⟨rfl, m1, rfl⟩
      go_wp2_with fail
      refine (HS.out _).mono ?_
      rintro e w2 ⟨rfl, hb⟩
      have HB := Lib.hid (bthen (below_drewN (Below.refl w.heap.size w) m1) hb)
      clear hb
      rw [← HO.out.1, ← HO.out.2]
      go_wp2
      go_ret2
      exact ⟨rfl, HB.out⟩
    · have h2' : (n : Int) < 2 := by omega
      have HO : Hid (rosR xs = 0 ∧ rosB xs = false) := Lib.hid (by unfold rosR rosB rosIn; rw [show decide (2 ≤ xs.length) = false by rw [decide_eq_false_iff_not]; omega, Bool.and_false]; exact ⟨rfl, rfl⟩)
      have HC1 := Lib.hid c1
      clear c1 hr hn hl h2
      go_enter Try.func33, Try.ntmps33
      go_wp2_with fail
      refine HC1.out.mono ?_
      rintro e w1 ⟨rfl, m1, rfl⟩
      go_wp2
      go_ret2
      rw [HO.out.1, HO.out.2]
      exact ⟨rfl, below_drewN (Below.refl _ _) _⟩
end Go.Proofs.Ytcpimcjmckljfaa
