/- The spectrum at two and the ratio of gaps of small masses. -/
import Derived.Test.YtbojlgbkkdnegaaSpm
namespace Go.Proofs.Ytbojlgbkkdnegaa
open Ieee Go.RowKit
def cMil : Nat := 4562254508917369340
/-- a result r is not less than d, nearly -/
structure NotLess (r d : Nat) : Prop where
  is : Is .f32 r
  isd : Is .f32 d
  sub : floatBits .sub .f64 (wid d) cMil = some (fop .sub .f64 (wid d) cMil)
  lt : (FloatKind.f64.format.order (wid r) (fop .sub .f64 (wid d) cMil) == some .lt) = false
theorem sp_two {zs : List Int} {n : Nat} (H : Mss zs n) (hn : 1 ≤ n) (h9 : n ≤ 9) (P : AllPairs) : ∃ r, SpIn zs 1073741824 false (eT zs.sum) r ∧ NotLess r (dK (cntZ zs)) := by
  obtain ⟨_, hc1, hc9⟩ := sp_zero H hn h9 P
  have hs := H.sum hn h9
  have hl := H.len
  have K := k_ok hc1 hc9
  have hT : zs.take n = zs := List.take_of_length_le (by omega)
  obtain ⟨i1, i2, i3, i4, _⟩ := two_sum H hn h9 P n (Nat.le_refl _)
  have hadd := fun k (hk : k < n) => (two_sum H hn h9 P k (by omega)).2.2.2.2
  rw [hT] at i1 i2 i3 i4
  have hcs := cs_le zs
  obtain ⟨S, hS⟩ : ∃ S, S = sumT (eT zs.sum) zs := ⟨_, rfl⟩
  rw [← hS] at i1 i2 i3 i4
  have hn9 : (n : Rat) ≤ 9 := Rat.natCast_le_natCast.2 h9
  have hk1 : (1 : Rat) ≤ (cntZ zs : Rat) := Rat.intCast_le_intCast.2 hc1
  have hk9 : (cntZ zs : Rat) ≤ 9 := Rat.intCast_le_intCast.2 hc9
  have ha : (0 : Rat) < (zs.sum : Rat) := Rat.intCast_lt_intCast.2 (show 0 < zs.sum by omega)
  have hcs2 := Rat.intCast_le_intCast.2 hcs
  rw [Rat.intCast_mul, Rat.intCast_mul] at hcs2
  have hy : vl .f32 (yK (cntZ zs)) ≤ vl .f32 S := by
    have y1 := K.y1
    have hd : tw (-18) = 1 / 262144 := by decide +kernel
    rw [hd] at i4
    have hA := Rat.mul_pos ha ha
    generalize (zs.sum : Rat) * zs.sum = A at *
    generalize ((sqZ zs : Int) : Rat) = Q at *
    have hinv := div_mul (a := 1) (b := ((cntZ zs : Int) : Rat)) (by grind)
    generalize ((cntZ zs : Int) : Rat) = C at *
    generalize 1 / C = y at *
    have b1 : 65535 / 65536 ≤ (vl .f32 S + (n : Rat) * (1 / 262144)) * C := by
      refine le_of_mul hA ?_
      have c1 := mul_up' i4 (show 0 ≤ C by grind)
      have c2 := mul_up hcs2 (show (0 : Rat) ≤ 65535 / 65536 by decide +kernel)
      grind
    have b2 : (vl .f32 S + (n : Rat) * (1 / 262144)) * C ≤ (vl .f32 S + 9 * (1 / 262144)) * C := mul_up (by grind) (by grind)
    refine le_of_mul (c := C) (by grind) ?_
    have b3 := mul_up y1 (show 0 ≤ C by grind)
    grind
  have hS1 : 1 / 16 ≤ vl .f32 S := by have := K.y2; grind
  obtain ⟨pS, mS, oS⟩ := mid_of i1 hS1 (by grind)
  obtain ⟨py, my, _⟩ := mid_of (is_fin K.yfin) K.y2 (by have := K.y3; grind)
  obtain ⟨iL, hL⟩ := log_mono py pS my mS hy
  obtain ⟨_, _, l1, l2⟩ := logC_near pS mS
  have v1 : vl .f32 1065353216 = 1 := by decide +kernel
  have is1 : Is .f32 1065353216 := ⟨_, _, _, rfl⟩
  have hdiv : vl .f32 (logC S) / 1 = vl .f32 (logC S) := by
    have := div_mul (a := vl .f32 (logC S)) (b := 1) (by decide +kernel)
    grind
  have hab : ab (vl .f32 (logC S)) ≤ 9 := ab_le l2 (by grind)
  have o := quo_v iL is1 (by rw [v1]; decide +kernel) (by rw [v1, hdiv]; have : (9 : Rat) < tw 90 := by decide +kernel
                                                          grind)
  have hnear := o.near
  rw [v1, hdiv] at hnear
  have hu : 3 * ulp .f32 (vl .f32 (logC S)) ≤ tw (-17) := by
    have k1 : 3 * (9 * tw (-(FloatKind.f32.format.fractionBits + 1 : Int)) + tw (FloatKind.f32.format.leastPlace - 1)) ≤ tw (-17) := by decide +kernel
    have k2 := mul_up hab (Rat.le_of_lt (tw_pos (-(FloatKind.f32.format.fractionBits + 1 : Int))))
    unfold ulp
    grind
  have id := is_fin K.dfin
  obtain ⟨_, wd1, wd2⟩ := wid_v id
  obtain ⟨_, wr1, wr2⟩ := wid_v o.num
  have ic : Is .f64 cMil := is64 (by decide) (by decide)
  have vc : 999 / 1000000 ≤ vl .f64 cMil ∧ vl .f64 cMil ≤ 1001 / 1000000 := by decide +kernel
  have hd9 : -9 ≤ vl .f32 (logC (yK (cntZ zs))) ∧ vl .f32 (logC (yK (cntZ zs))) ≤ 9 := (logC_near py my).2.2
  have hdb : -100 ≤ vl .f32 (dK (cntZ zs)) ∧ vl .f32 (dK (cntZ zs)) ≤ 100 := by
    have h := all_lt (p := fun j => decide (-100 ≤ vl .f32 (dK ((j : Int) + 1)) ∧ vl .f32 (dK ((j : Int) + 1)) ≤ 100)) (n := 9) (by decide +kernel) (j := (cntZ zs - 1).toNat) (by omega)
    rw [show (((cntZ zs - 1).toNat : Nat) : Int) + 1 = cntZ zs by omega] at h
    exact of_decide_eq_true h
  have osub := sub_v wd1 ic (by rw [wd2]; have hb := ab_le (x := vl .f32 (dK (cntZ zs)) - vl .f64 cMil) (b := 200) (by grind) (by grind); have : (200 : Rat) < tw 100 := by decide +kernel
                                grind)
  have hsn := osub.near
  rw [wd2] at hsn
  have hus : ulp .f64 (vl .f32 (dK (cntZ zs)) - vl .f64 cMil) ≤ tw (-17) := by
    have k1 : 200 * tw (-(FloatKind.f64.format.fractionBits + 1 : Int)) + tw (FloatKind.f64.format.leastPlace - 1) ≤ tw (-17) := by decide +kernel
    have k2 := mul_up (ab_le (x := vl .f32 (dK (cntZ zs)) - vl .f64 cMil) (b := 200) (by grind) (by grind)) (Rat.le_of_lt (tw_pos (-(FloatKind.f64.format.fractionBits + 1 : Int))))
    unfold ulp
    grind
  refine ⟨fop .quo .f32 (logC S) 1065353216, ⟨H.mass hn h9, H.all, by omega, by decide +kernel, by decide +kernel, fun z hz h0 => ?_, fun z hz h0 => .inr ⟨rfl, ?_⟩, fun k hk h0 => ?_, .inr ⟨rfl, 1065353216, ?_⟩⟩, ⟨o.num, id, osub.some, ?_⟩⟩
  · have h1 := H.all z hz
    have p := P zs.sum z (by omega) (by omega) (mem_sum H.all hz) (by omega)
    exact ⟨p.quo, p.fin, p.pos⟩
  · have h1 := H.all z hz
    have p := P zs.sum z (by omega) (by omega) (mem_sum H.all hz) (by omega)
    exact ⟨_, p.two, p.ex⟩
  · exact hadd k (by omega) hk h0
  · rw [← hS]
    exact ⟨i1.fin, oS, by decide +kernel, o.some, o.num.num⟩
  · rw [(order_v wr1 osub.num).1, wr2, decide_eq_false_iff_not]
    have dy := K.dy
    have k : tw (-17) ≤ 1 / 100000 := by decide +kernel
    unfold Near at hnear hsn
    grind
/-- an operation's error, told by its result -/
theorem rel32 {v : Rat} (h1 : 1 / 100 ≤ v) (h2 : v ≤ 6000) : ab v < tw 90 ∧ ab v < tw 100 ∧ 3 * ulp .f32 v ≤ v * (1 / 1000000) ∧ ulp .f32 v ≤ v * (1 / 1000000) := by
  have hab : ab v = v := by unfold ab; rw [if_neg (by grind)]
  have k0 : (6000 : Rat) < tw 90 ∧ (6000 : Rat) < tw 100 := by decide +kernel
  have k1 : tw (-(FloatKind.f32.format.fractionBits + 1 : Int)) ≤ 1 / 10000000 ∧ tw (FloatKind.f32.format.leastPlace - 1) ≤ 1 / 100000000000 ∧ 0 ≤ tw (FloatKind.f32.format.leastPlace - 1) := by decide +kernel
  have k2 := mul_up' k1.1 (show 0 ≤ v by grind)
  have k3 := Rat.mul_nonneg (show 0 ≤ v by grind) (Rat.le_of_lt (tw_pos (-(FloatKind.f32.format.fractionBits + 1 : Int))))
  unfold ulp
  rw [hab]
  generalize tw (-(FloatKind.f32.format.fractionBits + 1 : Int)) = G at *
  generalize tw (FloatKind.f32.format.leastPlace - 1) = L at *
  refine ⟨by grind, by grind, by grind, by grind⟩
theorem gap_law {zs : List Int} {n : Nat} (H : Mss zs n) (hn : 2 ≤ n) (h9 : n ≤ 9) : finB (gapC zs) = true ∧ massB zs = true ∧ Is .f32 (gapC zs) ∧ (FloatKind.f64.format.order (wid (gapC zs)) 4607173411600762667 == some .lt) = false := by
  have hs := H.sum (by omega) h9
  have hl := H.len
  have hq := sq_bd H.all
  have hcs := cs_le zs
  have hcb := cnt_bd zs
  have hnq : zs.sum * zs.sum ≤ (n : Int) * sqZ zs := by
    have := Int.mul_le_mul_of_nonneg_right (show cntZ zs ≤ (n : Int) by omega) hq.1
    omega
  have f0 : floatOfInt .f32 (zs.length : Int) = fx (n : Int) 0 := by rw [hl]; rfl
  have f1 : sumF (zs.map fOf) = fx zs.sum 0 := sumF_fx (b := 8) (k := 0) (by omega) (fun y hy => by have := H.all y hy; omega) (by omega)
  have f2 : sumF (zs.map sqOf) = fx (sqZ zs) 0 := by
    have e : zs.map sqOf = (zs.map fun z => z * z).map (fx · 0) := by
      rw [List.map_map]
      refine List.map_congr_left fun z hz => ?_
      have h1 := H.all z hz
      exact fop_some (fx_sq (a := z) (k := 0) (by omega) (by omega))
    rw [e]
    refine sumF_fx (b := 64) (by omega) (fun y hy => ?_) (by rw [List.length_map]; omega)
    obtain ⟨z, hz, rfl⟩ := List.mem_map.1 hy
    have h1 := H.all z hz
    have := small_mul (a := z) (b := z) (A := 8) (B := 8) (by omega) (by omega)
    omega
  obtain ⟨in_, vn⟩ := fx_v (z := (n : Int)) (k := 0) (by omega) (by omega)
  obtain ⟨ia, va⟩ := fx_v (z := zs.sum) (k := 0) (by omega) (by omega)
  obtain ⟨iq, vq⟩ := fx_v (z := sqZ zs) (k := 0) (by omega) (by omega)
  have t0 : tw (-((0 : Nat) : Int)) = 1 := by decide +kernel
  rw [t0, Rat.mul_one] at vn va vq
  have n1 : (2 : Rat) ≤ ((n : Int) : Rat) := Rat.intCast_le_intCast.2 (show (2 : Int) ≤ (n : Int) by omega)
  have n2 : ((n : Int) : Rat) ≤ 9 := Rat.intCast_le_intCast.2 (show (n : Int) ≤ 9 by omega)
  have a1 : (1 : Rat) ≤ ((zs.sum : Int) : Rat) := Rat.intCast_le_intCast.2 hs.1
  have a2 : ((zs.sum : Int) : Rat) ≤ 8 * ((n : Int) : Rat) := by
    have h := sum_bd H.all
    have h2 := Rat.intCast_le_intCast.2 (show zs.sum ≤ 8 * (n : Int) by omega)
    rw [Rat.intCast_mul] at h2
    exact h2
  have q2 : ((sqZ zs : Int) : Rat) ≤ 64 * ((n : Int) : Rat) := by
    have h2 := Rat.intCast_le_intCast.2 (show sqZ zs ≤ 64 * (n : Int) by omega)
    rw [Rat.intCast_mul] at h2
    exact h2
  have hnq2 := Rat.intCast_le_intCast.2 hnq
  rw [Rat.intCast_mul, Rat.intCast_mul] at hnq2
  unfold gapC
  dsimp only
  rw [f0, f1, f2]
  generalize fx (n : Int) 0 = N at *
  generalize fx zs.sum 0 = S at *
  generalize fx (sqZ zs) 0 = Q at *
  have hN0 : vl .f32 N ≠ 0 := by grind
  have ea := div_mul (a := vl .f32 S) (b := vl .f32 N) hN0
  have eq := div_mul (a := vl .f32 Q) (b := vl .f32 N) hN0
  rw [← vn] at n1 n2 a2 q2 hnq2
  rw [← va] at a1 a2 hnq2
  rw [← vq] at q2 hnq2
  clear f0 f1 f2 vn va vq hcs hcb hnq hq hs
  obtain ⟨al, hal⟩ : ∃ al, al = vl .f32 S / vl .f32 N := ⟨_, rfl⟩
  obtain ⟨be, hbe⟩ : ∃ be, be = vl .f32 Q / vl .f32 N := ⟨_, rfl⟩
  rw [← hal] at ea
  rw [← hbe] at eq
  have al1 : 1 / 9 ≤ al := le_of_mul (c := vl .f32 N) (by grind) (by rw [ea]; grind)
  have al2 : al ≤ 8 := le_of_mul (c := vl .f32 N) (by grind) (by rw [ea]; grind)
  have be2 : be ≤ 64 := le_of_mul (c := vl .f32 N) (by grind) (by rw [eq]; grind)
  have hab : al * al ≤ be := by
    refine le_of_mul (c := vl .f32 N) (by grind) (le_of_mul (c := vl .f32 N) (by grind) ?_)
    rw [show al * al * vl .f32 N * vl .f32 N = (al * vl .f32 N) * (al * vl .f32 N) by grind, show be * vl .f32 N * vl .f32 N = vl .f32 N * (be * vl .f32 N) by grind, ea, eq]
    exact hnq2
  have al3 : 1 / 81 ≤ al * al := by have := sq_up (a := 1 / 9) (by decide +kernel) al1; grind
  have al4 : al * al ≤ 64 := by have := sq_up (show 0 ≤ al by grind) al2; grind
  obtain ⟨r1, _, r3, _⟩ := rel32 (v := al) (by grind) (by grind)
  have om := quo_v ia in_ hN0 (by rw [← hal]; exact r1)
  rw [← hal] at om
  have nm := near_le om.near r3
  obtain ⟨s1, _, s3, _⟩ := rel32 (v := be) (by grind) (by grind)
  have ox := quo_v iq in_ hN0 (by rw [← hbe]; exact s1)
  rw [← hbe] at ox
  have nx := near_le ox.near s3
  have im := om.num
  have ix := ox.num
  clear om ox r1 r3 s1 s3
  generalize fop .quo .f32 S N = m at *
  generalize fop .quo .f32 Q N = x at *
  have mu1 : al * (1 - 1 / 1000000) ≤ vl .f32 m := by unfold Near at nm; grind
  have mu2 : vl .f32 m ≤ al * (1 + 1 / 1000000) := by unfold Near at nm; grind
  have xi1 : be * (1 - 1 / 1000000) ≤ vl .f32 x := by unfold Near at nx; grind
  have xi2 : vl .f32 x ≤ be * (1 + 1 / 1000000) := by unfold Near at nx; grind
  have m1 := sq_up (a := al * (1 - 1 / 1000000)) (by grind) mu1
  have m2 := sq_up (show 0 ≤ vl .f32 m by grind) mu2
  obtain ⟨_, r1, _, r3⟩ := rel32 (v := vl .f32 m * vl .f32 m) (by grind) (by grind)
  have oy := mul_v im im r1
  have ny := near_le oy.near r3
  have iy := oy.num
  clear oy r1 r3
  generalize fop .mul .f32 m m = y at *
  have nu1 : 1 / 82 ≤ vl .f32 y := by unfold Near at ny; grind
  have nu2 : vl .f32 y ≤ al * al * (10001 / 10000) := by unfold Near at ny; grind
  have hy0 : vl .f32 y ≠ 0 := by grind
  have er := div_mul (a := vl .f32 x) (b := vl .f32 y) hy0
  obtain ⟨rho, hrho⟩ : ∃ rho, rho = vl .f32 x / vl .f32 y := ⟨_, rfl⟩
  rw [← hrho] at er
  have rh1 : 9997 / 10000 ≤ rho := by
    refine le_of_mul (c := vl .f32 y) (by grind) ?_
    rw [er]
    grind
  have rh2 : rho ≤ 5900 := by
    refine le_of_mul (c := vl .f32 y) (by grind) ?_
    rw [er]
    grind
  obtain ⟨r1, _, r3, _⟩ := rel32 (v := rho) (by grind) (by grind)
  have og := quo_v ix iy hy0 (by rw [← hrho]; exact r1)
  rw [← hrho] at og
  have ng := near_le og.near r3
  have ig := og.num
  clear og r1 r3
  generalize fop .quo .f32 x y = g at *
  obtain ⟨_, wg1, wg2⟩ := wid_v ig
  refine ⟨ig.fin, H.mass (by omega) h9, ig, ?_⟩
  have ic : Is .f64 4607173411600762667 := is64 (by decide) (by decide)
  have vc : vl .f64 4607173411600762667 ≤ 9991 / 10000 := by decide +kernel
  rw [(order_v wg1 ic).1, wg2, decide_eq_false_iff_not]
  unfold Near at ng
  grind
end Go.Proofs.Ytbojlgbkkdnegaa
