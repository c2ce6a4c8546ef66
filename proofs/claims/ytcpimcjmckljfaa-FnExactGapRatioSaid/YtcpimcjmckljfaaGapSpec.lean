/- GapRatio, the reference's way. -/
import Derived.Test.YtcpimcjmckljfaaGap
import Derived.Maps.AppendAt
namespace Go.Proofs.Ytcpimcjmckljfaa
open Go.RowKit
theorem simL_len {xs ys : List Nat} (h : SimL xs ys) : xs.length = ys.length := h.1
set_option maxHeartbeats 4000000 in
set_option maxRecDepth 100000 in
theorem specGapRatio_any (A : Option Addr) (n c : Nat) (xs : List Int) (w : World) (hn : xs.length = n) (hm : n ≤ 1048576) (hr : Rd w w.heap.size A (xs.map (Value.int .i64))) (_hw : ∀ a ∈ xs, -9223372036854775808 ≤ a ∧ a ≤ 9223372036854775807) :
    Calls Try.prog 13 #[.slice A n c] w fun e w' => e = .returned (.tuple #[.float .f32 (gapR xs), .bool (gapB xs)]) ∧ Below w.heap.size w w' := by
  have c47 := l06Sum_any A n c xs w hn hm hr
  have hcv := fun (n : Int) (w : World) => run_convert_int_float (P := Try.prog) w 3 23 .i64 .f32 n (by rw [Try.underlying3]; rfl) Try.underlying23
  have hcv2 := fun (n : Int) (w : World) => run_convert_int_float (P := Try.prog) w 2 23 .i64 .f32 n (by rw [Try.underlying2]; rfl) Try.underlying23
  cases hb : massB xs
  · rw [hb] at c47
    have HC := Lib.hid c47
    have HR : Hid (gapR xs = 0 ∧ gapB xs = false) := Lib.hid (by unfold gapR gapB; rw [hb]; exact ⟨rfl, rfl⟩)
    clear c47 hb hr hn
    go_enter Try.func13, Try.ntmps13
    go_wp2_with fail
    refine HC.out.mono ?_
    rintro e w1 ⟨rfl, rfl⟩
    go_wp2
    go_ret2
    exact ⟨by rw [HR.out.1, HR.out.2]; rfl, Below.refl _ _⟩
  · obtain ⟨l1, l2⟩ := massB_len hb
    rw [hn] at l1 l2
    rw [hb] at c47
    have HC := Lib.hid c47
    have HR : Hid (gapR xs = numV (gapC xs) ∧ gapB xs = finB (gapC xs)) := Lib.hid (by unfold gapR gapB; rw [hb]; exact ⟨rfl, rfl⟩)
    have Hr := Lib.hid hr
    have Hn := Lib.hid hn
    obtain ⟨i0, hi, hz0, hz1, hz2⟩ := info_parts Try.info23
    have hN1 := own_nilF w 23 w.heap.size (Nat.le_refl _)
    have HN1 := Lib.hid (hN1.alloc (.cells #[] 23))
    have hN2 := own_nilF (w.alloc (.cells #[] 23)) 23 w.heap.size (by simp)
    rw [World.size_alloc] at hN2
    have HN2 := Lib.hid hN2
    have HB0 := Lib.hid (bthen (below_new w (.cells #[] 23)) (below_new _ (.cells #[] 23)))
    have HT0 : Hid (Two (.slice (some ⟨w.heap.size, 0, none⟩) 0 0) (.slice (some ⟨w.heap.size + 1, 0, none⟩) 0 0)) := Lib.hid ⟨_, _, rfl, rfl, by show (w.heap.size : Nat) ≠ w.heap.size + 1; omega⟩
    clear c47 hb hr hn hN1 hN2
    go_enter Try.func13, Try.ntmps13
    go_wp2_with fail
    refine HC.out.mono ?_
    rintro e w1 ⟨rfl, rfl⟩
    go_wp2_with fail
    go_loopw [6, 7, 8] (fun v u i wr => ∃ (k : Nat) (ls qs : List Nat), k ≤ n ∧ i = .int .i64 k ∧ Hid (ls = (xs.take k).map fOf) ∧ ls.length = k ∧ qs.length = k ∧ Hid (SimL qs ((xs.take k).map sqOf)) ∧ wr.ownsRow w.heap.size 23 1 v ls.length (ls.map (Value.float .f32)) ∧ wr.ownsRow w.heap.size 23 1 u qs.length (qs.map (Value.float .f32)) ∧ Hid (Two v u) ∧ Below w.heap.size w wr) (fun _ _ i _ => n - (intOf i).toNat)
    case atStart => exact ⟨0, [], [], Nat.zero_le _, rfl, Lib.hid rfl, rfl, rfl, Lib.hid (.refl _), HN1.out, HN2.out, HT0, HB0.out⟩
    case round =>
      obtain ⟨k, ls, qs, hk, rfl, HL, hll, hql, HQ, hv, hu, HT, hb⟩ := hrel
      have HV := Lib.hid hv
      have HU := Lib.hid hu
      have HB := Lib.hid hb
      have HLL := Lib.hid hll
      have HQL := Lib.hid hql
      have hl2 : ls.length ≤ 256 := by omega
      have hq2 : qs.length ≤ 256 := by omega
      have hwz := HB.out.size
      clear hv hu hb hll hql
      obtain ⟨Av, cv, rfl, hrv⟩ := shapeOf HV.out
      obtain ⟨Au, cu, rfl, hru⟩ := shapeOf HU.out
      by_cases hlt : k < n
      · have hka : k < xs.length := by rw [Hn.out]; exact hlt
        obtain ⟨ad, rfl, _, hck⟩ := ((Hr.out.below HB.out).more hwz).at_ (k := k) (by rw [List.length_map]; exact hka)
        rw [List.getElem_map] at hck
        have HS1 : Hid ((xs.take (k + 1)).map fOf = (xs.take k).map fOf ++ [fOf xs[k]]) := Lib.hid (by rw [List.take_succ_eq_append_getElem hka, List.map_append]; rfl)
        have HS2 : Hid ((xs.take (k + 1)).map sqOf = (xs.take k).map sqOf ++ [sqOf xs[k]]) := Lib.hid (by rw [List.take_succ_eq_append_getElem hka, List.map_append]; rfl)
        obtain ⟨x, hx⟩ : ∃ x, x = xs[k] := ⟨_, rfl⟩
        rw [← hx] at hck HS1 HS2
        clear hx hrv hru
        go_wp2_with (at_builtin; go_must (refine wpList_append_own_at _ rfl (.tmp 31) (.tmp 33) 31 rfl w.heap.size 23 i0 (.float .f32 0) 1 4 Try.underlying31 hi hz0 hz1 hz2 rfl (by decide) _ _ _ rfl (HV.out.alloc _) ⟨wr.heap.size, 0, none⟩ 1 1 [.float .f32 (floatOfInt .f32 x)] rfl rfl (newOne wr _ 23) (oneF _ _) ?_ ?_ ?_ ?_))
        · unfold maxLen; omega
        · omega
        · simp; omega
        intro v' w7 hown' hgrow _ hat'
        have HV7 := Lib.hid (own_appF hown')
        have HU7 := Lib.hid ((HU.out.alloc (.cells #[.float .f32 (floatOfInt .f32 x)] 23)).kept hgrow HT.out.kept)
        have HT7 := Lib.hid (HT.out.grow hat' (fun q hq => by have := (HU.out.lt q hq).2; simp; omega))
        have HB7 := Lib.hid ((HB.out.alloc hwz (.cells #[.float .f32 (floatOfInt .f32 x)] 23)).grown hgrow (by simp; omega) (fun q hq => (HV.out.lt q hq).1))
        have hz7 := HB7.out.size
        clear hown' hgrow hat' hck
        go_wp2_with (first
          | (refine wpList_fopW rfl .mul 23 _ _ 23 rfl arith_mul .f32 _ _ rfl rfl ?_; intro r1 wq h1 hq; have HUq := Lib.hid (own_drw HU7.out hq); have HVq := Lib.hid (own_drw HV7.out hq); have HBq := Lib.hid (below_drw HB7.out hq); have hzb := HBq.out.size; clear hq)
          | (at_builtin; go_must (refine wpList_append_own_at _ rfl (.tmp 35) (.tmp 39) 31 rfl w.heap.size 23 i0 (.float .f32 0) 1 4 Try.underlying31 hi hz0 hz1 hz2 rfl (by decide) _ _ _ rfl (HUq.out.alloc _) ⟨wq.heap.size, 0, none⟩ 1 1 [.float .f32 r1] rfl rfl (newOne wq _ 23) (oneF _ _) ?_ ?_ ?_ ?_)))
        · unfold maxLen; omega
        · omega
        · simp; omega
        intro u' w8 hown' hgrow _ hat'
        have HU8 := Lib.hid (own_appF hown')
        have HV8 := Lib.hid ((HVq.out.alloc (.cells #[.float .f32 r1] 23)).kept hgrow HT7.out.symm.kept)
        have HT8 := Lib.hid (HT7.out.symm.grow hat' (fun q hq => by have := (HVq.out.lt q hq).2; simp; omega)).symm
        have HB8 := Lib.hid ((HBq.out.alloc (by omega) (.cells #[.float .f32 r1] 23)).grown hgrow (by simp; omega) (fun q hq => (HUq.out.lt q hq).1))
        have HQ8 := Lib.hid (HQ.out.snoc h1)
        clear hown' hgrow hat' h1
        go_wp2
        go_roundw
        case rel => exact ⟨k + 1, ls ++ [fOf x], qs ++ [r1], by omega, by go_num, Lib.hid (by rw [HS1.out, HL.out]), by rw [List.length_append, HLL.out]; rfl, by rw [List.length_append, HQL.out]; rfl, Lib.hid (by rw [HS2.out]; exact HQ8.out), HV8.out, HU8.out, HT8, HB8.out⟩
        case measure => simp [intOf]; omega
      · obtain rfl : n = k := by omega
        have hT : xs.take n = xs := List.take_of_length_le (by rw [Hn.out]; omega)
        have HL2 : Hid (ls = xs.map fOf) := Lib.hid (by have h := HL.out; rwa [hT] at h)
        have HQ2 : Hid (SimL qs (xs.map sqOf)) := Lib.hid (by have h := HQ.out; rwa [hT] at h)
        have HG : Hid (gapC xs = fop .quo .f32 (meanF (xs.map sqOf)) (fop .mul .f32 (meanF (xs.map fOf)) (meanF (xs.map fOf)))) := Lib.hid (by unfold gapC meanF; rw [List.length_map, List.length_map])
        have HM1 := Lib.hid (l06Mean_any Av _ cv ls wr rfl (by omega) hrv)
        have HM2 := Lib.hid (fun q => l06Mean_any Au _ cu qs (wr.drewN q) rfl (by omega) hru)
        have HSM : Hid (Sim .f32 (meanF qs) (meanF (xs.map sqOf))) := Lib.hid (by unfold meanF; rw [HQ2.out.1]; exact fop_sim arith_quo (sumF_sim HQ2.out) (.refl _ _))
        clear hT hrv hru
        go_wp2_with fail
        refine HM1.out.mono ?_
        rintro e w' ⟨⟨r1, rfl, h1⟩, m1, rfl⟩
        rw [HL2.out] at h1
        have H1 := Lib.hid h1
        clear h1
        go_wp2_with fail
        refine (HM2.out _).mono ?_
        rintro e w' ⟨⟨r2, rfl, h2⟩, m2, rfl⟩
        have H2 := Lib.hid (h2.trans HSM.out)
        clear h2
        go_wp2_with (first
          | (refine wpList_fop rfl .mul 23 _ _ 23 rfl arith_mul .f32 _ _ rfl rfl ?_; intro r3 m3 h3)
          | (refine wpList_fop rfl .quo 23 _ _ 23 rfl arith_quo .f32 _ _ rfl rfl ?_; intro r4 m4 h4))
        have HI := Lib.hid (fun W => l02Number_any r4 (gapC xs) W (by rw [HG.out]; exact h4.trans (fop_sim arith_quo H2.out (h3.trans (fop_sim arith_mul H1.out H1.out)))))
        clear h3 h4
        refine (HI.out _).mono ?_
        rintro e w' ⟨rfl, m9, rfl⟩
        go_wp2
        go_ret2
        exact ⟨by rw [HR.out.1, HR.out.2]; rfl, by repeat (first | exact HB.out | apply below_drewN)⟩
end Go.Proofs.Ytcpimcjmckljfaa
