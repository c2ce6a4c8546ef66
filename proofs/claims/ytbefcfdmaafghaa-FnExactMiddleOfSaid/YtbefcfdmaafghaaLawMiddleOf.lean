/- The law FnExactMiddleOf answers true, whatever the field. -/
import Derived.Test.YtbefcfdmaafghaaMidS
import Derived.Deep.RegionHeld3
namespace Go.Proofs.Ytbefcfdmaafghaa
open Ieee Go.RowKit
/-- two floats that are the same but for a NaN's bits: widened, and compared -/
theorem conv_both {r1 r2 c : Nat} (h1 : Sim .f32 r1 c) (h2 : Sim .f32 r2 c) : ∃ (f g : World → Nat) (d : World → World), (∀ W, (convert 43 88 (.float .f32 r1)).run Try.prog W = .ok (.float .f64 (f W)) (d W)) ∧ (∀ W, (convert 43 88 (.float .f32 r2)).run Try.prog W = .ok (.float .f64 (g W)) (d W)) ∧ (∀ W, ∃ m, d W = W.drewN m) ∧
    ∀ W W' V, Calls Try.prog 74 #[.float .f64 (f W), .float .f64 (g W')] V fun e w' => e = .returned (.bool true) ∧ w' = V := by
  cases hn : nanF .f32 c
  · obtain rfl := h1.eq hn
    obtain rfl := h2.eq hn
    obtain ⟨hw, hm⟩ := wid_num hn
    refine ⟨fun _ => wid r2, fun _ => wid r2, id, ?_, ?_, fun W => ⟨0, rfl⟩, fun _ _ V => sameFloat_self _ V hm⟩
    · exact fun W => run_convert_float_float W 43 88 .f32 .f64 _ _ (by rw [Try.und43]; rfl) Try.und88 hw
    · exact fun W => run_convert_float_float W 43 88 .f32 .f64 _ _ (by rw [Try.und43]; rfl) Try.und88 hw
  · have n1 : nanF .f32 r1 = true := by rw [h1.nan, hn]
    have n2 : nanF .f32 r2 = true := by rw [h2.nan, hn]
    obtain ⟨f, hf⟩ := Classical.skolem.1 (fun W => run_conv_nan (P := Try.prog) W 43 88 .f32 .f64 r1 (by rw [Try.und43]; rfl) Try.und88 (by decide) n1)
    obtain ⟨g, hg⟩ := Classical.skolem.1 (fun W => run_conv_nan (P := Try.prog) W 43 88 .f32 .f64 r2 (by rw [Try.und43]; rfl) Try.und88 (by decide) n2)
    exact ⟨f, g, World.drew, fun W => (hf W).1, fun W => (hg W).1, fun W => ⟨1, rfl⟩, fun W W' V => sameFloat_nan _ _ V (hf W).2 (hg W').2⟩
theorem sameComplex_self (a b : Nat) (w : World) (ha : nanF .f64 a = false) (hb : nanF .f64 b = false) :
    Calls Try.prog 73 #[.complex .f64 a b, .complex .f64 a b] w fun e w' => e = .returned (.bool true) ∧ w' = w := by
  have HA := Lib.hid (fun W => sameFloat_self a W ha)
  have HB := Lib.hid (fun W => sameFloat_self b W hb)
  clear ha hb
  go_enter Try.func73, Try.ntmps73
  go_wp2_with fail
  refine (HA.out _).mono ?_
  rintro e w' ⟨rfl, rfl⟩
  go_wp2_with fail
  refine (HB.out _).mono ?_
  rintro e w' ⟨rfl, rfl⟩
  go_wp2
  go_ret
  exact ⟨rfl, rfl⟩
/-- both ways give the same answer, but for a NaN's bits -/
theorem mid_says (wd hg : Int) (bs : List Bool) : ∃ a b c o, nanF .f32 a = false ∧ nanF .f32 b = false ∧ ∀ e, MidSays wd hg bs e → ∃ r, e = .returned (.tuple #[.complex .f32 a b, .float .f32 r, .bool o]) ∧ Sim .f32 r c := by
  cases h : midB wd hg bs
  · refine ⟨0, 0, 0, false, by decide, by decide, fun e he => ?_⟩
    unfold MidSays at he
    rw [h, if_neg (by decide)] at he
    exact ⟨0, he, .refl _ _⟩
  · have hm := h
    unfold midB at hm
    simp only [Bool.and_eq_true, decide_eq_true_eq] at hm
    obtain ⟨⟨⟨h1, h2⟩, h3, h4⟩, h5⟩ := vF_iff.1 hm.1
    have hok := fulP_ok h1 h2 h3 h4 h5.symm (Nat.le_refl bs.length)
    have h0 : 0 < (fulP wd bs bs.length).length := by rw [fulP_all]; exact hm.2
    refine ⟨midRe wd bs, midIm wd bs, rootC (midVar wd bs), true, fits_num (k := .f32) (hok.quoRe h0).2, fits_num (k := .f32) (hok.quoIm h0).2, fun e he => ?_⟩
    unfold MidSays at he
    rw [h, if_pos rfl] at he
    exact he
theorem Try.und86 : Try.prog.underlying 86 = some (.complex .f64) := by kernel_rfl
set_option maxHeartbeats 4000000 in
set_option maxRecDepth 100000 in
theorem lawMiddleOf (wd hg : Int) (A : Option Addr) (n c : Nat) (bs : List Bool) (w : World) (hn : bs.length = n) (hm : n ≤ 9223372036854775807) (hr : Rd w w.heap.size A (bs.map Value.bool)) :
    Calls Try.prog 18 #[.agg #[.int .i64 wd, .int .i64 hg, .slice A n c]] w fun e w' => e = .returned (.bool true) ∧ Below w.heap.size w w' := by
  subst hn
  have Hr := Lib.hid hr; clear hr
  by_cases hs : (bs.length : Int) ≤ 1048576
  · have hc : bs.length ≤ 140737488351232 := by omega
    have hpos : ¬ (1048576 - (bs.length : Int) < 0) := by omega
    obtain ⟨a, b, v, o, na, nb, hsay⟩ := mid_says wd hg bs
    have HSAY := Lib.hid hsay
    obtain ⟨wa1, wa2⟩ := wid_num na
    obtain ⟨wb1, wb2⟩ := wid_num nb
    have hcx := fun (W : World) => run_convert_complex (P := Try.prog) W 82 86 .f32 .f64 a b (wid a) (wid b) (by rw [Try.und82]; rfl) Try.und86 (by unfold cConvBits; rw [wa1, wb1]; rfl)
    have HSC := Lib.hid (fun W => sameComplex_self (wid a) (wid b) W wa2 wb2)
    clear wa1 wa2 wb1 wb2 na nb hsay
    go_enter Try.func18, Try.ntmps18
    go_wp2_with fail
    refine (szField_yes wd hg A _ c 1048576 _ (by omega) hs).mono ?_
    rintro e w1 ⟨rfl, hb1⟩
    have B1 := Lib.hid (bthen (below_new w _) hb1)
    have hz1 : w.heap.size < w1.heap.size := by have := hb1.size; simp at this; omega
    have K1 := (FBox.new w 24 wd hg (.slice A bs.length c)).below hb1 (by simp)
    clear hb1
    obtain ⟨k0, k1, k2⟩ := id K1
    go_wp2_with fail
    refine (toField_any wd hg A _ c bs _ rfl hc ((Hr.out.below B1.out).more B1.out.size)).mono ?_
    rintro e w2 ⟨⟨g2, cp2, rfl, ho2⟩, hb2⟩
    have B2 := Lib.hid (bthen B1.out hb2)
    have K2 := K1.below hb2 hz1
    have hz2 : w.heap.size < w2.heap.size := by have := hb2.size; omega
    have R2 := Lib.hid (Rd.own ho2)
    clear hb2 B1 K1 k0 k1 k2 hz1 ho2
    go_wp2_with fail
    refine (specMiddleOf_any wd hg _ _ cp2 bs _ rfl hc R2.out).mono ?_
    rintro e w3 ⟨he3, hb3⟩
    obtain ⟨r1, rfl, hs1⟩ := HSAY.out _ he3
    have HS1 := Lib.hid hs1
    have B3 := Lib.hid (bthen B2.out hb3)
    have K3 := K2.below hb3 hz2
    have hz3 : w.heap.size < w3.heap.size := by have := hb3.size; omega
    clear hb3 B2 K2 hz2 R2 he3 hs1
    obtain ⟨k0, k1, k2⟩ := id K3
    go_wp2_with fail
    refine (toField_any wd hg A _ c bs _ rfl hc ((Hr.out.below B3.out).more B3.out.size)).mono ?_
    rintro e w4 ⟨⟨g4, cp4, rfl, ho4⟩, hb4⟩
    have B4 := Lib.hid (bthen B3.out hb4)
    have K4 := K3.below hb4 hz3
    have hz4 : w.heap.size < w4.heap.size := by have := hb4.size; omega
    clear hb4 B3 K3 hz3 k0 k1 k2
    have HO4 := Lib.hid ho4; clear ho4
    obtain ⟨k0, k1, k2⟩ := id K4
    go_wp2_with fail
    refine (middleOf_any wd hg _ _ cp4 bs _ rfl hc ((Rd.own HO4.out).next (below_new w4 _))).mono ?_
    rintro e w5 ⟨he5, hb5⟩
    obtain ⟨r2, rfl, hs2⟩ := HSAY.out _ he5
    obtain ⟨f, g, d, hf, hg', hd, hsf⟩ := conv_both hs2 HS1.out
    have HD := Lib.hid hd
    have HSF := Lib.hid hsf
    have B5 := Lib.hid (bthen B4.out (bthen (below_new w4 _) hb5))
    have K5 := (K4.below (below_new w4 _) hz4).below hb5 (by simp; omega)
    have X5 := (FBox.new w4 27 wd hg (.slice (some ⟨g4, 0, none⟩) bs.length cp4)).below hb5 (by simp)
    have hz5 : w4.heap.size < w5.heap.size := by have := hb5.size; simp at this; omega
    have HO5 := Lib.hid (own_next HO4.out (bthen (below_new w4 _) hb5))
    clear hb5 B4 K4 k0 k1 k2 he5 hs2 hd hsf HS1
    have HC5 : Hid (FBox w5 w.heap.size wd hg (.slice A bs.length c) ∧ FBox w5 w4.heap.size wd hg (.slice (some ⟨g4, 0, none⟩) bs.length cp4)) := Lib.hid ⟨K5, X5⟩
    clear K5 X5
    go_wp2_with fail
    refine (HSC.out _).mono ?_
    rintro e w6 ⟨rfl, hww⟩
    rw [hww]
    clear hww w6
    go_wp2_with fail
    refine (HSF.out _ _ _).mono ?_
    rintro e w6 ⟨rfl, rfl⟩
    obtain ⟨w7, hw7⟩ : ∃ x, x = d (d w5) := ⟨_, rfl⟩
    have HW7 : Hid (∃ m, w7 = w5.drewN m) := Lib.hid (by
      obtain ⟨m1, e1⟩ := HD.out w5
      obtain ⟨m2, e2⟩ := HD.out (d w5)
      exact ⟨m1 + m2, by rw [hw7, e2, e1, World.drewN_drewN]⟩)
    rw [← hw7]
    clear hw7 hf hg' HD HSF
    have B7 : Hid (Below w.heap.size w w7) := Lib.hid (by obtain ⟨m, e⟩ := HW7.out; rw [e]; exact below_drewN B5.out m)
    have HC7 : Hid (FBox w7 w.heap.size wd hg (.slice A bs.length c) ∧ FBox w7 w4.heap.size wd hg (.slice (some ⟨g4, 0, none⟩) bs.length cp4)) := Lib.hid (by obtain ⟨m, e⟩ := HW7.out; rw [e]; exact HC5.out)
    have HO7 := Lib.hid (own_drC HO5.out HW7.out)
    have hz7 : w4.heap.size < w7.heap.size := by obtain ⟨m, e⟩ := HW7.out; rw [e]; exact hz5
    clear HC5 B5 HO5 HW7 hz5
    obtain ⟨⟨k0, k1, k2⟩, x0, x1, x2⟩ := HC7.out
    go_wp2_with fail
    go_region_held3 (fun w' => w'.cell? ⟨w.heap.size, 0, none⟩ = some (.int .i64 wd) ∧ w'.cell? ⟨w.heap.size, 1, none⟩ = some (.int .i64 hg) ∧ w'.cell? ⟨w.heap.size, 2, none⟩ = some (.slice A bs.length c) ∧ w'.cell? ⟨w4.heap.size, 0, none⟩ = some (.int .i64 wd) ∧ w'.cell? ⟨w4.heap.size, 1, none⟩ = some (.int .i64 hg) ∧ w'.cell? ⟨w4.heap.size, 2, none⟩ = some (.slice (some ⟨g4, 0, none⟩) bs.length cp4)) (first | exact ⟨k0, k1, k2, x0, x1, x2⟩ | exact KX)
      (first
        | (go_at_call 21; go_must (refine (toField_any wd hg A _ c bs _ rfl hc ((Hr.out.below (Below.drew B7.out)).more B7.out.size)).mono ?_); rintro e w8 ⟨⟨g6, cp6, rfl, ho6⟩, hbd⟩; have hb6 := undrew hbd; have B8 := Lib.hid (bthen B7.out hb6); have KX := six_below hb6 (Nat.lt_trans hz4 hz7) hz7 ⟨k0, k1, k2, x0, x1, x2⟩; have HO8 := Lib.hid (Rd.own ho6); have HX8 := Lib.hid (Rd.own (own_next HO7.out hb6)))
        | (go_at_call 23; go_must (refine (eqField_same wd hg _ _ _ _ _ _ bs _ rfl rfl hc HX8.out HO8.out).mono ?_); rintro e w9 ⟨rfl, hb7⟩; have B9 := Lib.hid (bthen B8.out hb7); have KX := six_below hb7 (Nat.lt_of_lt_of_le (Nat.lt_trans hz4 hz7) hb6.size) (Nat.lt_of_lt_of_le hz7 hb6.size) KX))
    go_wp2
    go_ret
    exact ⟨rfl, B9.out⟩
  · have hneg : (-1 : Int) < 0 := by omega
    go_enter Try.func18, Try.ntmps18
    go_wp2_with fail
    refine (szField_no wd hg A _ c 1048576 _ (by omega) (by omega) hm (by omega)).mono ?_
    rintro e w1 ⟨rfl, hb1⟩
    have B1 := Lib.hid (bthen (below_new w _) hb1)
    clear hb1
    go_wp2
    go_ret
    exact ⟨rfl, B1.out⟩
end Go.Proofs.Ytbefcfdmaafghaa
