/- The law FnExactStoreShape answers true, whatever the shape. -/
import Derived.Test.YtbefcfdmaafghaaStoreSpec
import Derived.Deep.RegionHeld3
namespace Go.Proofs.Ytbefcfdmaafghaa
open Go.RowKit
theorem vS_parts {nm : ByteArray} {wd hg : Int} {n : Nat} (h : vS nm wd hg n = true) : nm.size ≤ 8 ∧ (0 ≤ wd ∧ wd ≤ 255) ∧ (0 ≤ hg ∧ hg ≤ 255) ∧ 0 < n ∧ n ≤ 256 := by
  unfold vS at h
  rw [Bool.and_eq_true, vF_iff] at h
  obtain ⟨h1, ⟨⟨a1, a2⟩, b1, b2⟩, h3⟩ := h
  obtain ⟨p1, p2⟩ := prod_bd a1 a2 b1 b2
  have h8 : nm.size ≤ 8 := by
    unfold nameB at h1
    rw [Bool.and_eq_true, decide_eq_true_eq] at h1
    exact h1.2.2
  omega
/-- what both stores give -/
def storeTT (nm : ByteArray) (wd hg : Int) (bs : List Bool) : ByteArray := if vS nm wd hg bs.length = true then storeT nm wd hg bs else ⟨#[]⟩
set_option maxHeartbeats 1000000 in
theorem storeShape_any (nm : ByteArray) (wd hg : Int) (A : Option Addr) (n c : Nat) (bs : List Bool) (w : World) (hs : nm.size ≤ 9223372036854775807) (hn : bs.length = n) (hc : n ≤ 140737488351232) (hr : Rd w w.heap.size A (bs.map Value.bool)) :
    Calls Try.prog 66 #[.agg #[.string nm, .int .i64 wd, .int .i64 hg, .slice A n c]] w fun e w' => e = .returned (.tuple #[.string (storeTT nm wd hg bs), .bool (vS nm wd hg n)]) ∧ Below w.heap.size w w' := by
  have C := fun W => validShape_any nm wd hg A n c W hs hc
  subst hn
  by_cases hv : vS nm wd hg bs.length = true
  · obtain ⟨a1, a2, a3, a4, a5⟩ := vS_parts hv
    have HT : Hid (storeTT nm wd hg bs = storeT nm wd hg bs) := Lib.hid (by unfold storeTT; rw [if_pos hv])
    have HV := Lib.hid hv
    rw [hv] at C ⊢
    have HC := Lib.hid C; clear C hv
    have Hr := Lib.hid hr; clear hr
    go_enter Try.func66, Try.ntmps66
    go_wp2_with fail
    refine (HC.out _).mono ?_
    rintro e w1 ⟨rfl, hb1⟩
    have HB1 := Lib.hid (bthen (below_new w _) hb1)
    obtain ⟨k0, k1, k2, k3⟩ := (SBox.new w 52 nm wd hg (.slice A bs.length c)).below hb1 (by simp)
    clear hb1
    go_wp2_with fail
    refine (store_any nm wd hg A _ c bs _ a1 a2 a3 rfl a4 a5 ((Hr.out.below HB1.out).more HB1.out.size)).mono ?_
    rintro e w2 ⟨rfl, hb2⟩
    have HB2 := Lib.hid (bthen HB1.out hb2); clear hb2
    go_wp2
    go_ret2
    exact ⟨by rw [HT.out]; rfl, HB2.out⟩
  · have hv0 : vS nm wd hg bs.length = false := by simpa using hv
    have HT : Hid (storeTT nm wd hg bs = ⟨#[]⟩) := Lib.hid (by unfold storeTT; rw [if_neg hv])
    rw [hv0] at C ⊢
    have HC := Lib.hid C; clear C hv hv0 hr
    go_enter Try.func66, Try.ntmps66
    go_wp2_with fail
    refine (HC.out _).mono ?_
    rintro e w1 ⟨rfl, hb1⟩
    have HB1 := Lib.hid (bthen (below_new w _) hb1)
    clear hb1
    go_wp2
    go_ret2
    exact ⟨by rw [HT.out]; rfl, HB1.out⟩
set_option maxHeartbeats 1000000 in
theorem specStoreShape_any (nm : ByteArray) (wd hg : Int) (A : Option Addr) (n c : Nat) (bs : List Bool) (w : World) (hs : nm.size ≤ 9223372036854775807) (hn : bs.length = n) (hc : n ≤ 140737488351232) (hr : Rd w w.heap.size A (bs.map Value.bool)) :
    Calls Try.prog 65 #[.agg #[.string nm, .int .i64 wd, .int .i64 hg, .slice A n c]] w fun e w' => e = .returned (.tuple #[.string (storeTT nm wd hg bs), .bool (vS nm wd hg n)]) ∧ Below w.heap.size w w' := by
  subst hn
  have C := l07Shape_any nm wd hg A bs.length c w.heap.size _ hs hc (SBox.new w 52 nm wd hg (.slice A bs.length c))
  by_cases hv : vS nm wd hg bs.length = true
  · obtain ⟨a1, a2, a3, a4, a5⟩ := vS_parts hv
    have HT : Hid (storeTT nm wd hg bs = storeT nm wd hg bs) := Lib.hid (by unfold storeTT; rw [if_pos hv])
    rw [hv] at C ⊢
    have HC := Lib.hid C; clear C hv
    have Hr := Lib.hid hr; clear hr
    go_enter Try.func65, Try.ntmps65
    go_wp2_with fail
    refine HC.out.mono ?_
    rintro e w1 ⟨rfl, m, rfl⟩
    have HB1 := Lib.hid (below_drewN (below_new w (.cells #[.string nm, .int .i64 wd, .int .i64 hg, .slice A bs.length c] 52)) m)
    have HX := (SBox.new w 52 nm wd hg (.slice A bs.length c)).below (below_drewN (Below.refl (w.heap.size + 1) _) m) (by simp)
    go_wp2_with fail
    refine (l07Store_any nm wd hg A _ c _ bs _ a1 a2 a3 rfl a4 a5 ((Hr.out.below HB1.out).more HB1.out.size) HX (by simp)).mono ?_
    rintro e w2 ⟨rfl, hb2⟩
    have HB2 := Lib.hid (bthen HB1.out hb2); clear hb2
    go_wp2
    go_ret2
    exact ⟨by rw [HT.out]; rfl, HB2.out⟩
  · have hv0 : vS nm wd hg bs.length = false := by simpa using hv
    have HT : Hid (storeTT nm wd hg bs = ⟨#[]⟩) := Lib.hid (by unfold storeTT; rw [if_neg hv])
    rw [hv0] at C ⊢
    have HC := Lib.hid C; clear C hv hv0 hr
    go_enter Try.func65, Try.ntmps65
    go_wp2_with fail
    refine HC.out.mono ?_
    rintro e w1 ⟨rfl, m, rfl⟩
    have HB1 := Lib.hid (below_drewN (below_new w (.cells #[.string nm, .int .i64 wd, .int .i64 hg, .slice A bs.length c] 52)) m)
    go_wp2
    go_ret2
    exact ⟨by rw [HT.out]; rfl, HB1.out⟩
set_option maxHeartbeats 4000000 in
theorem lawStoreShape (nm : ByteArray) (wd hg : Int) (A : Option Addr) (n c : Nat) (bs : List Bool) (w : World) (hs : nm.size ≤ 9223372036854775807) (hn : bs.length = n) (hm : n ≤ 9223372036854775807) (hr : Rd w w.heap.size A (bs.map Value.bool)) :
    Calls Try.prog 15 #[.agg #[.string nm, .int .i64 wd, .int .i64 hg, .slice A n c]] w fun e w' => e = .returned (.bool true) ∧ Below w.heap.size w w' := by
  subst hn
  have Hr := Lib.hid hr; clear hr
  by_cases ht : (nm.size : Int) + (bs.length : Int) ≤ 1048576
  · have hc : bs.length ≤ 140737488351232 := by omega
    have hpos : ¬ (1048576 - (nm.size : Int) - (bs.length : Int) < 0) := by omega
    go_enter Try.func15, Try.ntmps15
    go_wp2_with fail
    refine (szShape_yes nm wd hg A _ c 1048576 _ (by omega) ht).mono ?_
    rintro e w1 ⟨rfl, hb1⟩
    have B1 := Lib.hid (bthen (below_new w _) hb1)
    have hz1 : w.heap.size < w1.heap.size := by have := hb1.size; simp at this; omega
    have K1 := (SBox.new w 48 nm wd hg (.slice A bs.length c)).below hb1 (by simp)
    clear hb1
    obtain ⟨k0, k1, k2, k3⟩ := id K1
    go_wp2_with fail
    refine (toShape_any nm wd hg A _ c bs _ rfl hc ((Hr.out.below B1.out).more B1.out.size)).mono ?_
    rintro e w2 ⟨⟨g2, cp2, rfl, ho2⟩, hb2⟩
    have B2 := Lib.hid (bthen B1.out hb2)
    have K2 := K1.below hb2 hz1
    have hz2 : w.heap.size < w2.heap.size := by have := hb2.size; omega
    have R2 := Lib.hid (Rd.own ho2)
    clear hb2 B1 K1 k0 k1 k2 k3 hz1 ho2
    go_wp2_with fail
    refine (specStoreShape_any nm wd hg (some ⟨g2, 0, none⟩) _ cp2 bs _ hs rfl hc R2.out).mono ?_
    rintro e w3 ⟨rfl, hb3⟩
    have B3 := Lib.hid (bthen B2.out hb3)
    have K3 := K2.below hb3 hz2
    have hz3 : w.heap.size < w3.heap.size := by have := hb3.size; omega
    clear hb3 B2 K2 hz2 R2
    obtain ⟨k0, k1, k2, k3⟩ := id K3
    go_wp2_with fail
    refine (toShape_any nm wd hg A _ c bs _ rfl hc ((Hr.out.below B3.out).more B3.out.size)).mono ?_
    rintro e w4 ⟨⟨g4, cp4, rfl, ho4⟩, hb4⟩
    have B4 := Lib.hid (bthen B3.out hb4)
    have K4 := K3.below hb4 hz3
    have hz4 : w.heap.size < w4.heap.size := by have := hb4.size; omega
    clear hb4 B3 K3 hz3 k0 k1 k2 k3
    have HO4 := Lib.hid ho4; clear ho4
    obtain ⟨k0, k1, k2, k3⟩ := id K4
    go_wp2_with fail
    refine (storeShape_any nm wd hg (some ⟨g4, 0, none⟩) _ cp4 bs _ hs rfl hc ((Rd.own HO4.out).next (below_new w4 _))).mono ?_
    rintro e w5 ⟨rfl, hb5⟩
    have B5 := Lib.hid (bthen B4.out (bthen (below_new w4 _) hb5))
    have K5 := (K4.below (below_new w4 _) hz4).below hb5 (by simp; omega)
    have X5 := (SBox.new w4 52 nm wd hg (.slice (some ⟨g4, 0, none⟩) bs.length cp4)).below hb5 (by simp)
    have hz5 : w4.heap.size < w5.heap.size := by have := hb5.size; simp at this; omega
    have HO5 := Lib.hid (own_next HO4.out (bthen (below_new w4 _) hb5))
    clear hb5 B4 K4 k0 k1 k2 k3
    have KX : Eight w5 w.heap.size w4.heap.size _ _ _ _ _ _ _ _ := ⟨K5.1, K5.2.1, K5.2.2.1, K5.2.2.2, X5.1, X5.2.1, X5.2.2.1, X5.2.2.2⟩
    clear K5 X5
    obtain ⟨k0, k1, k2, k3, x0, x1, x2, x3⟩ := id KX
    have H5 := Lib.hid KX; clear KX
    go_wp2_with fail
    go_region_held3 (fun w' => w'.cell? ⟨w.heap.size, 0, none⟩ = some (.string nm) ∧ w'.cell? ⟨w.heap.size, 1, none⟩ = some (.int .i64 wd) ∧ w'.cell? ⟨w.heap.size, 2, none⟩ = some (.int .i64 hg) ∧ w'.cell? ⟨w.heap.size, 3, none⟩ = some (.slice A bs.length c) ∧ w'.cell? ⟨w4.heap.size, 0, none⟩ = some (.string nm) ∧ w'.cell? ⟨w4.heap.size, 1, none⟩ = some (.int .i64 wd) ∧ w'.cell? ⟨w4.heap.size, 2, none⟩ = some (.int .i64 hg) ∧ w'.cell? ⟨w4.heap.size, 3, none⟩ = some (.slice (some ⟨g4, 0, none⟩) bs.length cp4)) (first | exact H5.out | exact H6.out | exact H7.out)
      (first
        | (go_at_call 40; go_must (refine (toShape_any nm wd hg A _ c bs _ rfl hc ((Hr.out.below (Below.drew B5.out)).more B5.out.size)).mono ?_); rintro e w6 ⟨⟨g6, cp6, rfl, ho6⟩, hbd⟩; have hb6 := undrew hbd; have B6 := Lib.hid (bthen B5.out hb6); have H6 := Lib.hid (eight_below hb6 (Nat.lt_trans hz4 hz5) hz5 H5.out); have HO6 := Lib.hid (Rd.own ho6); have HX6 := Lib.hid (Rd.own (own_next HO5.out hb6)))
        | (go_at_call 42; go_must (refine (eqShape_same nm wd hg _ _ _ _ _ _ bs _ rfl rfl hc HX6.out HO6.out).mono ?_); rintro e w7 ⟨rfl, hb7⟩; have B7 := Lib.hid (bthen B6.out hb7); have H7 := Lib.hid (eight_below hb7 (Nat.lt_of_lt_of_le (Nat.lt_trans hz4 hz5) hb6.size) (Nat.lt_of_lt_of_le hz5 hb6.size) H6.out)))
    go_wp2
    go_ret
    exact ⟨rfl, B7.out⟩
  · have hneg : (-1 : Int) < 0 := by omega
    by_cases hq : (nm.size : Int) ≤ 1048576
    · go_enter Try.func15, Try.ntmps15
      go_wp2_with fail
      refine (szShape_no2 nm wd hg A _ c 1048576 _ (by omega) hm hq (by omega)).mono ?_
      rintro e w1 ⟨rfl, hb1⟩
      have B1 := Lib.hid (bthen (below_new w _) hb1)
      clear hb1
      go_wp2
      go_ret
      exact ⟨rfl, B1.out⟩
    · go_enter Try.func15, Try.ntmps15
      go_wp2_with fail
      refine (szShape_no1 nm wd hg A _ c 1048576 _ (by omega) (by omega) hs (by omega)).mono ?_
      rintro e w1 ⟨rfl, hb1⟩
      have B1 := Lib.hid (bthen (below_new w _) hb1)
      clear hb1
      go_wp2
      go_ret
      exact ⟨rfl, B1.out⟩
end Go.Proofs.Ytbefcfdmaafghaa
