/- The law FnExactSameField answers true, whatever the two fields. -/
import Derived.Test.YtbefcfdmaafghaaSame
import Derived.Deep.RegionHeld3
import Derived.Deep.RegionWith
namespace Go.Proofs.Ytbefcfdmaafghaa
open Go.RowKit
set_option maxHeartbeats 4000000 in
theorem lawSameField (wd hg wd' hg' : Int) (A A' : Option Addr) (n c n' c' : Nat) (bs bs' : List Bool) (w : World) (hn : bs.length = n) (hm : n ≤ 9223372036854775807) (hr : Rd w w.heap.size A (bs.map Value.bool))
    (hn' : bs'.length = n') (hm' : n' ≤ 9223372036854775807) (hr' : Rd w w.heap.size A' (bs'.map Value.bool)) :
    Calls Try.prog 6 #[.agg #[.int .i64 wd, .int .i64 hg, .slice A n c], .agg #[.int .i64 wd', .int .i64 hg', .slice A' n' c']] w fun e w' => e = .returned (.bool true) ∧ Below w.heap.size w w' := by
  subst hn; subst hn'
  have Hr := Lib.hid hr; clear hr
  have Hr' := Lib.hid hr'; clear hr'
  have B0 := Lib.hid (bthen (below_new w (.cells #[.int .i64 wd, .int .i64 hg, .slice A bs.length c] 24)) (below_new _ (.cells #[.int .i64 wd', .int .i64 hg', .slice A' bs'.length c'] 24)))
  have hneg : (-1 : Int) < 0 := by omega
  have KK0 : ((w.alloc (.cells #[.int .i64 wd, .int .i64 hg, .slice A bs.length c] 24)).alloc (.cells #[.int .i64 wd', .int .i64 hg', .slice A' bs'.length c'] 24)).cell? ⟨w.heap.size, 0, none⟩ = some (.int .i64 wd) := by simp [go_sem]
  by_cases hs : (bs.length : Int) ≤ 1048576
  · have hc : bs.length ≤ 140737488351232 := by omega
    have hpos : ¬ (1048576 - (bs.length : Int) < 0) := by omega
    have K0 : (fun w' : World => w'.cell? ⟨w.heap.size, 0, none⟩ = some (.int .i64 wd) ∧ w'.cell? ⟨w.heap.size, 1, none⟩ = some (.int .i64 hg) ∧ w'.cell? ⟨w.heap.size, 2, none⟩ = some (.slice A bs.length c) ∧ w'.cell? ⟨w.heap.size + 1, 0, none⟩ = some (.int .i64 wd') ∧ w'.cell? ⟨w.heap.size + 1, 1, none⟩ = some (.int .i64 hg') ∧ w'.cell? ⟨w.heap.size + 1, 2, none⟩ = some (.slice A' bs'.length c')) ((w.alloc (.cells #[.int .i64 wd, .int .i64 hg, .slice A bs.length c] 24)).alloc (.cells #[.int .i64 wd', .int .i64 hg', .slice A' bs'.length c'] 24)) :=
      ⟨by simp [go_sem], by simp [go_sem], by simp [go_sem], by simp [go_sem], by simp [go_sem], by simp [go_sem]⟩
    have HK0 := Lib.hid K0; clear K0 KK0
    go_enter Try.func6, Try.ntmps6
    go_wp2_with fail
    refine (szField_yes wd hg A _ c 1048576 _ (by omega) hs).mono ?_
    rintro e w1 ⟨rfl, hb1⟩
    have B1 := Lib.hid (bthen B0.out hb1)
    have hz1 : w.heap.size + 1 < w1.heap.size := by have := hb1.size; simp at this; omega
    have K1 := six_below hb1 (by simp; omega) (by simp) HK0.out
    clear hb1 HK0
    obtain ⟨k0, k1, k2, l0, l1, l2⟩ := id K1
    have hs2 := hs
    by_cases ht : (bs'.length : Int) ≤ 1048576 - (bs.length : Int)
    · have hc' : bs'.length ≤ 140737488351232 := by omega
      have hpos' : ¬ (1048576 - (bs.length : Int) - (bs'.length : Int) < 0) := by omega
      go_wp2_with fail
      refine (szField_yes wd' hg' A' _ c' (1048576 - bs.length) _ (by omega) ht).mono ?_
      rintro e w2 ⟨rfl, hb2⟩
      have B2 := Lib.hid (bthen B1.out hb2)
      have hz2 : w.heap.size + 1 < w2.heap.size := by have := hb2.size; omega
      have K2 := six_below hb2 (by omega) hz1 K1
      clear hb2 B1 K1 k0 k1 k2 l0 l1 l2 hz1
      obtain ⟨k0, k1, k2, l0, l1, l2⟩ := id K2
      go_wp2_with fail
      go_region_held3 (fun w' => w'.cell? ⟨w.heap.size, 0, none⟩ = some (.int .i64 wd) ∧ w'.cell? ⟨w.heap.size, 1, none⟩ = some (.int .i64 hg) ∧ w'.cell? ⟨w.heap.size, 2, none⟩ = some (.slice A bs.length c) ∧ w'.cell? ⟨w.heap.size + 1, 0, none⟩ = some (.int .i64 wd') ∧ w'.cell? ⟨w.heap.size + 1, 1, none⟩ = some (.int .i64 hg') ∧ w'.cell? ⟨w.heap.size + 1, 2, none⟩ = some (.slice A' bs'.length c')) (first | exact K2 | exact KX)
        (first
          | (go_at_call_of 21 (Value.agg #[.int .i64 wd, .int .i64 hg, .slice A bs.length c]); go_must (refine (toField_any wd hg A _ c bs _ rfl hc ((Hr.out.below (Below.drew B2.out)).more B2.out.size)).mono ?_); rintro e w3 ⟨⟨g3, cp3, rfl, ho3⟩, hbd⟩; have hb3 := undrew hbd; have B3 := Lib.hid (bthen B2.out hb3); have KX := six_below hb3 (by omega) hz2 K2; have O3 := Lib.hid ho3; have hz3 := Nat.lt_of_lt_of_le hz2 hb3.size)
          | (go_at_call_of 21 (Value.agg #[.int .i64 wd', .int .i64 hg', .slice A' bs'.length c']); go_must (refine (toField_any wd' hg' A' _ c' bs' _ rfl hc' ((Hr'.out.below B3.out).more B3.out.size)).mono ?_); rintro e w4 ⟨⟨g4, cp4, rfl, ho4⟩, hb4⟩; have B4 := Lib.hid (bthen B3.out hb4); have KX := six_below hb4 (by omega) hz3 KX; have O4 := Lib.hid (Rd.own ho4); have P4 := Lib.hid (Rd.own (own_next O3.out hb4)); have hz4 := Nat.lt_of_lt_of_le hz3 hb4.size)
          | (go_at_call 32; go_must (refine (specSameField_any wd hg wd' hg' _ _ _ _ _ _ bs bs' _ rfl rfl hc hc' P4.out O4.out).mono ?_); rintro e w5 ⟨rfl, hb5⟩; have B5 := Lib.hid (bthen B4.out hb5); have KX := six_below hb5 (by omega) hz4 KX; have K5 := Lib.hid KX; have hz5 := Nat.lt_of_lt_of_le hz4 hb5.size))
      clear KX k0 k1 k2 l0 l1 l2 K2
      obtain ⟨k0, k1, k2, l0, l1, l2⟩ := K5.out
      go_wp2_with fail
      refine (toField_any wd hg A _ c bs _ rfl hc ((Hr.out.below B5.out).more B5.out.size)).mono ?_
      rintro e w6 ⟨⟨g6, cp6, rfl, ho6⟩, hb6⟩
      have B6 := Lib.hid (bthen B5.out hb6)
      have K6 := six_below hb6 (by omega) hz5 K5.out
      have O6 := Lib.hid ho6
      have hz6 := Nat.lt_of_lt_of_le hz5 hb6.size
      clear hb6 ho6 k0 k1 k2 l0 l1 l2 K5
      have n6 := below_new w6 (.cells #[.int .i64 wd, .int .i64 hg, .slice (some ⟨g6, 0, none⟩) bs.length cp6] 27)
      have N6 := Lib.hid n6; clear n6
      have hz6' : w.heap.size < w6.heap.size := by omega
      obtain ⟨k0, k1, k2, l0, l1, l2⟩ := id K6
      go_wp2_with fail
      refine (toField_any wd' hg' A' _ c' bs' _ rfl hc' ((Hr'.out.below (bthen B6.out N6.out)).more (bthen B6.out N6.out).size)).mono ?_
      rintro e w7 ⟨⟨g7, cp7, rfl, ho7⟩, hb7⟩
      have B7 := Lib.hid (bthen (bthen B6.out N6.out) hb7)
      have K7 := six_below (bthen N6.out hb7) hz6' hz6 K6
      have X7 := Lib.hid ((FBox.new w6 27 wd hg (.slice (some ⟨g6, 0, none⟩) bs.length cp6)).below hb7 (by simp))
      have O7 := Lib.hid (own_next O6.out (bthen N6.out hb7))
      have P7 := Lib.hid ho7
      have hz7 : w6.heap.size < w7.heap.size := by have := hb7.size; simp at this; omega
      clear hb7 ho7 k0 k1 k2 l0 l1 l2 K6 O6
      have N7 := Lib.hid (below_new w7 (.cells #[.int .i64 wd', .int .i64 hg', .slice (some ⟨g7, 0, none⟩) bs'.length cp7] 27))
      obtain ⟨x0, x1, x2⟩ := X7.out
      go_wp2_with fail
      refine (sameField_any wd hg wd' hg' _ _ _ _ _ _ bs bs' _ rfl rfl hc hc' ((Rd.own O7.out).next N7.out) ((Rd.own P7.out).next N7.out)).mono ?_
      rintro e w8 ⟨rfl, hb8⟩
      have B8 := Lib.hid (bthen (bthen B7.out N7.out) hb8)
      have hz8 : w7.heap.size < w8.heap.size := by have := hb8.size; simp at this; omega
      have K8 := six_below (bthen N7.out hb8) (by omega) (by omega) K7
      have X8 := (X7.out.below N7.out hz7).below hb8 (by simp; omega)
      have Y8 := Lib.hid ((FBox.new w7 27 wd' hg' (.slice (some ⟨g7, 0, none⟩) bs'.length cp7)).below hb8 (by simp))
      have O8 := Lib.hid (own_next O7.out (bthen N7.out hb8))
      have P8 := Lib.hid (own_next P7.out (bthen N7.out hb8))
      clear hb8 x0 x1 x2 X7 K7 O7 P7
      have KX : w8.cell? ⟨w.heap.size, 0, none⟩ = some (.int .i64 wd) ∧ w8.cell? ⟨w.heap.size, 1, none⟩ = some (.int .i64 hg) ∧ w8.cell? ⟨w.heap.size, 2, none⟩ = some (.slice A bs.length c) ∧ w8.cell? ⟨w6.heap.size, 0, none⟩ = some (.int .i64 wd) ∧ w8.cell? ⟨w6.heap.size, 1, none⟩ = some (.int .i64 hg) ∧ w8.cell? ⟨w6.heap.size, 2, none⟩ = some (.slice (some ⟨g6, 0, none⟩) bs.length cp6) := ⟨K8.1, K8.2.1, K8.2.2.1, X8.1, X8.2.1, X8.2.2⟩
      have L8 : FBox w8 (w.heap.size + 1) wd' hg' (.slice A' bs'.length c') := ⟨K8.2.2.2.1, K8.2.2.2.2.1, K8.2.2.2.2.2⟩
      have HL8 := Lib.hid L8
      clear K8 X8 L8
      have hz9 : w6.heap.size < w8.heap.size := by omega
      have hz9' : w.heap.size < w8.heap.size := by omega
      obtain ⟨k0, k1, k2, x0, x1, x2⟩ := id KX
      go_wp2_with fail
      go_region_held3 (fun w' => w'.cell? ⟨w.heap.size, 0, none⟩ = some (.int .i64 wd) ∧ w'.cell? ⟨w.heap.size, 1, none⟩ = some (.int .i64 hg) ∧ w'.cell? ⟨w.heap.size, 2, none⟩ = some (.slice A bs.length c) ∧ w'.cell? ⟨w6.heap.size, 0, none⟩ = some (.int .i64 wd) ∧ w'.cell? ⟨w6.heap.size, 1, none⟩ = some (.int .i64 hg) ∧ w'.cell? ⟨w6.heap.size, 2, none⟩ = some (.slice (some ⟨g6, 0, none⟩) bs.length cp6)) (first | exact KX)
        (first
          | (go_at_call 21; go_must (refine (toField_any wd hg A _ c bs _ rfl hc ((Hr.out.below (Below.drew B8.out)).more B8.out.size)).mono ?_); rintro e w9 ⟨⟨g9, cp9, rfl, ho9⟩, hbd⟩; have hb9 := undrew hbd; have B9 := Lib.hid (bthen B8.out hb9); have KX := six_below hb9 hz9' hz9 KX; have HO9 := Lib.hid (Rd.own ho9); have HX9 := Lib.hid (Rd.own (own_next O8.out hb9)))
          | (go_at_call 23; go_must (refine (eqField_same wd hg _ _ _ _ _ _ bs _ rfl rfl hc HX9.out HO9.out).mono ?_); rintro e w10 ⟨rfl, hb10⟩; have B10 := Lib.hid (bthen B9.out hb10); have KX := six_below hb10 (Nat.lt_of_lt_of_le hz9' hb9.size) (Nat.lt_of_lt_of_le hz9 hb9.size) KX))
      have T := Lib.hid (bthen hb9 hb10)
      have L10 := HL8.out.below T.out (by omega)
      have Y10 := Y8.out.below T.out hz8
      have P10 := Lib.hid (own_next P8.out T.out)
      have hz10 : w8.heap.size ≤ w10.heap.size := T.out.size
      clear KX k0 k1 k2 x0 x1 x2 hb9 hb10 hbd
      have KY : w10.cell? ⟨w.heap.size + 1, 0, none⟩ = some (.int .i64 wd') ∧ w10.cell? ⟨w.heap.size + 1, 1, none⟩ = some (.int .i64 hg') ∧ w10.cell? ⟨w.heap.size + 1, 2, none⟩ = some (.slice A' bs'.length c') ∧ w10.cell? ⟨w7.heap.size, 0, none⟩ = some (.int .i64 wd') ∧ w10.cell? ⟨w7.heap.size, 1, none⟩ = some (.int .i64 hg') ∧ w10.cell? ⟨w7.heap.size, 2, none⟩ = some (.slice (some ⟨g7, 0, none⟩) bs'.length cp7) := ⟨L10.1, L10.2.1, L10.2.2, Y10.1, Y10.2.1, Y10.2.2⟩
      clear L10 Y10
      obtain ⟨l0, l1, l2, y0, y1, y2⟩ := id KY
      have hz11 : w.heap.size + 1 < w10.heap.size := by omega
      have hz12 : w7.heap.size < w10.heap.size := by omega
      go_wp2_with fail
      go_region_held3 (fun w' => w'.cell? ⟨w.heap.size + 1, 0, none⟩ = some (.int .i64 wd') ∧ w'.cell? ⟨w.heap.size + 1, 1, none⟩ = some (.int .i64 hg') ∧ w'.cell? ⟨w.heap.size + 1, 2, none⟩ = some (.slice A' bs'.length c') ∧ w'.cell? ⟨w7.heap.size, 0, none⟩ = some (.int .i64 wd') ∧ w'.cell? ⟨w7.heap.size, 1, none⟩ = some (.int .i64 hg') ∧ w'.cell? ⟨w7.heap.size, 2, none⟩ = some (.slice (some ⟨g7, 0, none⟩) bs'.length cp7)) (first | exact KY)
        (first
          | (go_at_call 21; go_must (refine (toField_any wd' hg' A' _ c' bs' _ rfl hc' ((Hr'.out.below (Below.drew B10.out)).more B10.out.size)).mono ?_); rintro e w11 ⟨⟨g11, cp11, rfl, ho11⟩, hbd⟩; have hb11 := undrew hbd; have B11 := Lib.hid (bthen B10.out hb11); have KY := six_below hb11 hz11 hz12 KY; have HO11 := Lib.hid (Rd.own ho11); have HX11 := Lib.hid (Rd.own (own_next P10.out hb11)))
          | (go_at_call 23; go_must (refine (eqField_same wd' hg' _ _ _ _ _ _ bs' _ rfl rfl hc' HX11.out HO11.out).mono ?_); rintro e w12 ⟨rfl, hb12⟩; have B12 := Lib.hid (bthen B11.out hb12); have KY := six_below hb12 (Nat.lt_of_lt_of_le hz11 hb11.size) (Nat.lt_of_lt_of_le hz12 hb11.size) KY))
      go_wp2
      go_ret
      exact ⟨rfl, B12.out⟩
    · go_wp2_with fail
      refine (szField_no wd' hg' A' _ c' (1048576 - bs.length) _ (by omega) (by omega) hm' (by omega)).mono ?_
      rintro e w2 ⟨rfl, hb2⟩
      have B2 := Lib.hid (bthen B1.out hb2)
      clear hb2
      go_wp2
      go_ret
      exact ⟨rfl, B2.out⟩
  · clear KK0
    go_enter Try.func6, Try.ntmps6
    go_wp2_with fail
    refine (szField_no wd hg A _ c 1048576 _ (by omega) (by omega) hm (by omega)).mono ?_
    rintro e w1 ⟨rfl, hb1⟩
    have B1 := Lib.hid (bthen B0.out hb1)
    clear hb1
    go_wp2
    go_ret
    exact ⟨rfl, B1.out⟩
end Go.Proofs.Ytbefcfdmaafghaa
