/- The law FnExactHolesOf answers true, whatever the field. -/
import Derived.Test.YtbefcfdmaafghaaHolesSpec
import Derived.Deep.RegionHeld3
namespace Go.Proofs.Ytbefcfdmaafghaa
open Go.RowKit
set_option maxHeartbeats 4000000 in
theorem lawHolesOf (wd hg : Int) (A : Option Addr) (n c : Nat) (bs : List Bool) (w : World) (hn : bs.length = n) (hm : n ≤ 9223372036854775807) (hr : Rd w w.heap.size A (bs.map Value.bool)) :
    Calls Try.prog 17 #[.agg #[.int .i64 wd, .int .i64 hg, .slice A n c]] w fun e w' => e = .returned (.bool true) ∧ Below w.heap.size w w' := by
  subst hn
  have Hr := Lib.hid hr; clear hr
  by_cases hs : (bs.length : Int) ≤ 1048576
  · have hc : bs.length ≤ 140737488351232 := by omega
    have hpos : ¬ (1048576 - (bs.length : Int) < 0) := by omega
    go_enter Try.func17, Try.ntmps17
    go_wp2_with fail
    refine (szField_yes wd hg A _ c 1048576 _ (by omega) hs).mono ?_
    rintro e w1 ⟨rfl, hb1⟩
    have B1 := Lib.hid (bthen (below_new w _) hb1)
    have hz1 : w.heap.size < w1.heap.size := by have := hb1.size; simp at this; omega
    have K1 := (FBox.new w 24 wd hg (.slice A bs.length c)).below hb1 (by simp)
    clear hb1
    obtain ⟨k0, k1, k2⟩ := id K1
    go_wp2_with fail
    refine (toField_any wd hg A _ c bs _ rfl hc ((Hr.out.below B1.out).more B1.out.size)).mono ?_
    rintro e w2 ⟨⟨g2, cp2, rfl, ho2⟩, hb2⟩
    have B2 := Lib.hid (bthen B1.out hb2)
    have K2 := K1.below hb2 hz1
    have hz2 : w.heap.size < w2.heap.size := by have := hb2.size; omega
    have R2 := Lib.hid (Rd.own ho2)
    clear hb2 B1 K1 k0 k1 k2 hz1 ho2
    go_wp2_with fail
    refine (specHolesOf_any wd hg _ _ cp2 bs _ rfl hc R2.out).mono ?_
    rintro e w3 ⟨rfl, hb3⟩
    have B3 := Lib.hid (bthen B2.out hb3)
    have K3 := K2.below hb3 hz2
    have hz3 : w.heap.size < w3.heap.size := by have := hb3.size; omega
    clear hb3 B2 K2 hz2 R2
    obtain ⟨k0, k1, k2⟩ := id K3
    go_wp2_with fail
    refine (toField_any wd hg A _ c bs _ rfl hc ((Hr.out.below B3.out).more B3.out.size)).mono ?_
    rintro e w4 ⟨⟨g4, cp4, rfl, ho4⟩, hb4⟩
    have B4 := Lib.hid (bthen B3.out hb4)
    have K4 := K3.below hb4 hz3
    have hz4 : w.heap.size < w4.heap.size := by have := hb4.size; omega
    clear hb4 B3 K3 hz3 k0 k1 k2
    have HO4 := Lib.hid ho4; clear ho4
    obtain ⟨k0, k1, k2⟩ := id K4
    go_wp2_with fail
    refine (holesOf_any wd hg _ _ cp4 bs _ rfl hc ((Rd.own HO4.out).next (below_new w4 _))).mono ?_
    rintro e w5 ⟨rfl, hb5⟩
    have B5 := Lib.hid (bthen B4.out (bthen (below_new w4 _) hb5))
    have K5 := (K4.below (below_new w4 _) hz4).below hb5 (by simp; omega)
    have X5 := (FBox.new w4 27 wd hg (.slice (some ⟨g4, 0, none⟩) bs.length cp4)).below hb5 (by simp)
    have hz5 : w4.heap.size < w5.heap.size := by have := hb5.size; simp at this; omega
    have HO5 := Lib.hid (own_next HO4.out (bthen (below_new w4 _) hb5))
    clear hb5 B4 K4 k0 k1 k2
    obtain ⟨k0, k1, k2⟩ := K5
    obtain ⟨x0, x1, x2⟩ := X5
    go_wp2_with fail
    go_region_held3 (fun w' => w'.cell? ⟨w.heap.size, 0, none⟩ = some (.int .i64 wd) ∧ w'.cell? ⟨w.heap.size, 1, none⟩ = some (.int .i64 hg) ∧ w'.cell? ⟨w.heap.size, 2, none⟩ = some (.slice A bs.length c) ∧ w'.cell? ⟨w4.heap.size, 0, none⟩ = some (.int .i64 wd) ∧ w'.cell? ⟨w4.heap.size, 1, none⟩ = some (.int .i64 hg) ∧ w'.cell? ⟨w4.heap.size, 2, none⟩ = some (.slice (some ⟨g4, 0, none⟩) bs.length cp4)) (first | exact ⟨k0, k1, k2, x0, x1, x2⟩ | exact KX)
      (first
        | (go_at_call 21; go_must (refine (toField_any wd hg A _ c bs _ rfl hc ((Hr.out.below (Below.drew B5.out)).more B5.out.size)).mono ?_); rintro e w6 ⟨⟨g6, cp6, rfl, ho6⟩, hbd⟩; have hb6 := undrew hbd; have B6 := Lib.hid (bthen B5.out hb6); have KX := six_below hb6 (Nat.lt_trans hz4 hz5) hz5 ⟨k0, k1, k2, x0, x1, x2⟩; have HO6 := Lib.hid (Rd.own ho6); have HX6 := Lib.hid (Rd.own (own_next HO5.out hb6)))
        | (go_at_call 23; go_must (refine (eqField_same wd hg _ _ _ _ _ _ bs _ rfl rfl hc HX6.out HO6.out).mono ?_); rintro e w7 ⟨rfl, hb7⟩; have B7 := Lib.hid (bthen B6.out hb7); have KX := six_below hb7 (Nat.lt_of_lt_of_le (Nat.lt_trans hz4 hz5) hb6.size) (Nat.lt_of_lt_of_le hz5 hb6.size) KX))
    go_wp2
    go_ret
    exact ⟨rfl, B7.out⟩
  · have hneg : (-1 : Int) < 0 := by omega
    go_enter Try.func17, Try.ntmps17
    go_wp2_with fail
    refine (szField_no wd hg A _ c 1048576 _ (by omega) (by omega) hm (by omega)).mono ?_
    rintro e w1 ⟨rfl, hb1⟩
    have B1 := Lib.hid (bthen (below_new w _) hb1)
    clear hb1
    go_wp2
    go_ret
    exact ⟨rfl, B1.out⟩
end Go.Proofs.Ytbefcfdmaafghaa
