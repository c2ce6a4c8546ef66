/- The law FnExactFlipCells answers true, whatever the field and the list. -/
import Derived.Test.YtbefcfdmaafghaaFlipSpec
import Derived.Test.YtbefcfdmaafghaaInts
import Derived.Test.YtbefcfdmaafghaaRowIn
namespace Go.Proofs.Ytbefcfdmaafghaa
open Go.RowKit
set_option maxHeartbeats 8000000 in
set_option maxRecDepth 100000 in
theorem lawFlip_of (wd hg : Int) (A A' : Option Addr) (c c' : Nat) (bs : List Bool) (xs : List Int) (wd' hg' : Int) (rs : List Bool) (ok : Bool) (hl : rs.length ≤ 1048576) (hs : (bs.length : Int) ≤ 1048576) (hx : xs.length ≤ 1048576) (w : World)
    (cS : ∀ (W : World) (P : Option Addr) (a : Nat) (P' : Option Addr) (a' : Nat), Rd W W.heap.size P (bs.map Value.bool) → Rd W W.heap.size P' (xs.map (Value.int .i64)) → Calls Try.prog 54 #[.agg #[.int .i64 wd, .int .i64 hg, .slice P bs.length a], .slice P' xs.length a'] W fun e w' => GivesFB W.heap.size wd' hg' rs ok e w' ∧ Below W.heap.size W w')
    (cI : ∀ (W : World) (P : Option Addr) (a : Nat) (P' : Option Addr) (a' : Nat), Rd W W.heap.size P (bs.map Value.bool) → Rd W W.heap.size P' (xs.map (Value.int .i64)) → Calls Try.prog 56 #[.agg #[.int .i64 wd, .int .i64 hg, .slice P bs.length a], .slice P' xs.length a'] W fun e w' => GivesFB W.heap.size wd' hg' rs ok e w' ∧ Below W.heap.size W w')
    (hr : Rd w w.heap.size A (bs.map Value.bool)) (hr2 : Rd w w.heap.size A' (xs.map (Value.int .i64))) :
    Calls Try.prog 13 #[.agg #[.int .i64 wd, .int .i64 hg, .slice A bs.length c], .slice A' xs.length c'] w fun e w' => e = .returned (.bool true) ∧ Below w.heap.size w w' := by
  have Hr := Lib.hid hr; clear hr
  have Hr2 := Lib.hid hr2; clear hr2
  have CS := Lib.hid cS; clear cS
  have CI := Lib.hid cI; clear cI
  have hpos : ¬ (1048576 - (bs.length : Int) < 0) := by omega
  go_enter Try.func13, Try.ntmps13
  go_wp2_with fail
  refine (szField_yes wd hg A _ c 1048576 _ (by omega) hs).mono ?_
  rintro e w1 ⟨rfl, hb⟩
  have hbb := (bthen (below_new w _) hb)
  have B_1 := Lib.hid (hbb)
  have zw1 : w.heap.size < w1.heap.size := by have := hb.size; simp at this; omega
  have Ka_2 := Lib.hid ((FBox.new w 24 wd hg (.slice A bs.length c)).below hb (by simp))
  clear hb hbb 
  obtain ⟨fa0, fa1, fa2⟩ := Ka_2.out
  have ya : w.heap.size < w1.heap.size := by omega
  go_wp2_with fail
  refine (toField_any wd hg A _ c bs _ rfl (by omega) ((Hr.out.below B_1.out).more B_1.out.size)).mono ?_
  rintro e w2 ⟨⟨g2, c2, rfl, ho⟩, hb⟩
  have hbb := hb
  have B_3 := Lib.hid (bthen B_1.out hbb)
  have zw2 : w1.heap.size ≤ w2.heap.size := hbb.size
  have Ka_4 := Lib.hid (Ka_2.out.below hbb (by omega))
  have Rp_5 := Lib.hid (RowIn.new (show w2.ownsRow (w1.heap.size) 4 1 (.slice (some ⟨g2, 0, none⟩) bs.length c2) bs.length (bs.map Value.bool) by exact ho))
  clear hb hbb B_1 Ka_2 ho fa0 fa1 fa2 ya
  go_wp2_with fail
  refine (toInt64S_any A' _ c' xs _ rfl (by omega) ((Hr2.out.below B_3.out).more B_3.out.size)).mono ?_
  rintro e w3 ⟨rfl, ho, hb⟩
  have hbb := hb
  have B_6 := Lib.hid (bthen B_3.out hbb)
  have zw3 : w2.heap.size ≤ w3.heap.size := hbb.size
  have Ka_7 := Lib.hid (Ka_4.out.below hbb (by omega))
  have Rp_8 := Lib.hid (Rp_5.out.below hbb (by omega))
  have Rq_9 := Lib.hid (RowIn.new (show w3.ownsRow (w2.heap.size) 2 1 (.slice (some ⟨w2.heap.size, 0, none⟩) xs.length xs.length) xs.length (xs.map (Value.int .i64)) by exact ho))
  clear hb hbb B_3 Ka_4 Rp_5 ho
  go_wp2_with fail
  refine (CS.out _ (some ⟨g2, 0, none⟩) c2 (some ⟨w2.heap.size, 0, none⟩) xs.length Rp_8.out.rd Rq_9.out.rd).mono ?_
  rintro e w4 ⟨⟨A4, c4, rfl, ho⟩, hb⟩
  have hbb := hb
  have B_10 := Lib.hid (bthen B_6.out hbb)
  have zw4 : w3.heap.size ≤ w4.heap.size := hbb.size
  have Ka_11 := Lib.hid (Ka_7.out.below hbb (by omega))
  have Rp_12 := Lib.hid (Rp_8.out.below hbb (by omega))
  have Rq_13 := Lib.hid (Rq_9.out.below hbb (by omega))
  have Rw_14 := Lib.hid (RowIn.new (show w4.ownsRow (w3.heap.size) 4 1 (.slice A4 rs.length c4) rs.length (rs.map Value.bool) by exact ho))
  clear hb hbb B_6 Ka_7 Rp_8 Rq_9 ho
  obtain ⟨fa0, fa1, fa2⟩ := Ka_11.out
  have ya : w.heap.size < w4.heap.size := by omega
  go_wp2_with fail
  refine (toField_any wd hg A _ c bs _ rfl (by omega) (((Hr.out.below B_10.out).more B_10.out.size).next (below_new w4 _))).mono ?_
  rintro e w5 ⟨⟨g5, c5, rfl, ho⟩, hb⟩
  have hbb := (bthen (below_new w4 _) hb)
  have B_15 := Lib.hid (bthen B_10.out hbb)
  have zw5 : w4.heap.size < w5.heap.size := by have := hb.size; simp at this; omega
  have Ka_16 := Lib.hid (Ka_11.out.below hbb (by omega))
  have Rw_17 := Lib.hid (Rw_14.out.below hbb (by omega))
  have Kw_18 := Lib.hid ((FBox.new w4 27 wd' hg' (.slice A4 rs.length c4)).below hb (by simp))
  have Rx_19 := Lib.hid (RowIn.new (show w5.ownsRow (w4.heap.size + 1) 4 1 (.slice (some ⟨g5, 0, none⟩) bs.length c5) bs.length (bs.map Value.bool) by simpa using ho))
  clear hb hbb B_10 Ka_11 Rw_14 ho fa0 fa1 fa2 ya
  go_wp2_with fail
  refine (toInt64S_any A' _ c' xs _ rfl (by omega) (((Hr2.out.below B_15.out).more B_15.out.size).next (below_new w5 _))).mono ?_
  rintro e w6 ⟨rfl, ho, hb⟩
  have hbb := (bthen (below_new w5 _) hb)
  have B_20 := Lib.hid (bthen B_15.out hbb)
  have zw6 : w5.heap.size < w6.heap.size := by have := hb.size; simp at this; omega
  have Ka_21 := Lib.hid (Ka_16.out.below hbb (by omega))
  have Kw_22 := Lib.hid (Kw_18.out.below hbb (by omega))
  have Rw_23 := Lib.hid (Rw_17.out.below hbb (by omega))
  have Rx_24 := Lib.hid (Rx_19.out.below hbb (by omega))
  have Kx_25 := Lib.hid ((FBox.new w5 27 wd hg (.slice (some ⟨g5, 0, none⟩) bs.length c5)).below hb (by simp))
  have Rl_26 := Lib.hid (RowIn.new (show w6.ownsRow (w5.heap.size + 1) 2 1 (.slice (some ⟨w5.heap.size + 1, 0, none⟩) xs.length xs.length) xs.length (xs.map (Value.int .i64)) by simpa using ho))
  clear hb hbb B_15 Ka_16 Kw_18 Rw_17 Rx_19 ho
  obtain ⟨fx0, fx1, fx2⟩ := Kx_25.out
  have yx : w5.heap.size < w6.heap.size := by omega
  go_wp2_with fail
  refine (CI.out _ (some ⟨g5, 0, none⟩) c5 (some ⟨w5.heap.size + 1, 0, none⟩) xs.length Rx_24.out.rd Rl_26.out.rd).mono ?_
  rintro e w7 ⟨⟨A7, c7, rfl, ho⟩, hb⟩
  have hbb := hb
  have B_27 := Lib.hid (bthen B_20.out hbb)
  have zw7 : w6.heap.size ≤ w7.heap.size := hbb.size
  have Ka_28 := Lib.hid (Ka_21.out.below hbb (by omega))
  have Kw_29 := Lib.hid (Kw_22.out.below hbb (by omega))
  have Kx_30 := Lib.hid (Kx_25.out.below hbb (by omega))
  have Rw_31 := Lib.hid (Rw_23.out.below hbb (by omega))
  have Rx_32 := Lib.hid (Rx_24.out.below hbb (by omega))
  have Rl_33 := Lib.hid (Rl_26.out.below hbb (by omega))
  have Rg_34 := Lib.hid (RowIn.new (show w7.ownsRow (w6.heap.size) 4 1 (.slice A7 rs.length c7) rs.length (rs.map Value.bool) by exact ho))
  clear hb hbb B_20 Ka_21 Kw_22 Kx_25 Rw_23 Rx_24 Rl_26 ho fx0 fx1 fx2 yx
  obtain ⟨fw0, fw1, fw2⟩ := Kw_29.out
  have yw : w4.heap.size < w7.heap.size := by omega
  go_wp2_with fail
  refine (eqField_same wd' hg' A7 A4 _ c7 _ c4 rs _ rfl rfl (by omega) (Rg_34.out.rd.next (below_new w7 _)) (Rw_31.out.rd.next (below_new w7 _))).mono ?_
  rintro e w8 ⟨rfl, hb⟩
  have hbb := (bthen (below_new w7 _) hb)
  have B_35 := Lib.hid (bthen B_27.out hbb)
  have zw8 : w7.heap.size < w8.heap.size := by have := hb.size; simp at this; omega
  have Ka_36 := Lib.hid (Ka_28.out.below hbb (by omega))
  have Kw_37 := Lib.hid (Kw_29.out.below hbb (by omega))
  have Kx_38 := Lib.hid (Kx_30.out.below hbb (by omega))
  have Rw_39 := Lib.hid (Rw_31.out.below hbb (by omega))
  have Rx_40 := Lib.hid (Rx_32.out.below hbb (by omega))
  have Rl_41 := Lib.hid (Rl_33.out.below hbb (by omega))
  have Rg_42 := Lib.hid (Rg_34.out.below hbb (by omega))
  have Kg_43 := Lib.hid ((FBox.new w7 27 wd' hg' (.slice A7 rs.length c7)).below hb (by simp))
  clear hb hbb B_27 Ka_28 Kw_29 Kx_30 Rw_31 Rx_32 Rl_33 Rg_34 fw0 fw1 fw2 yw
  have HK := Lib.hid (show w8.cell? ⟨w.heap.size, 0, none⟩ = some (.int .i64 wd) ∧ w8.cell? ⟨w.heap.size, 1, none⟩ = some (.int .i64 hg) ∧ w8.cell? ⟨w.heap.size, 2, none⟩ = some (.slice A bs.length c) ∧ w8.cell? ⟨w5.heap.size, 0, none⟩ = some (.int .i64 wd) ∧ w8.cell? ⟨w5.heap.size, 1, none⟩ = some (.int .i64 hg) ∧ w8.cell? ⟨w5.heap.size, 2, none⟩ = some (.slice (some ⟨g5, 0, none⟩) bs.length c5) from ⟨Ka_36.out.1, Ka_36.out.2.1, Ka_36.out.2.2, Kx_38.out.1, Kx_38.out.2.1, Kx_38.out.2.2⟩)
  obtain ⟨k0, k1, k2, x0, x1, x2⟩ := HK.out
  go_wp2_with fail
  go_region_held3 (fun w' => w'.cell? ⟨w.heap.size, 0, none⟩ = some (.int .i64 wd) ∧ w'.cell? ⟨w.heap.size, 1, none⟩ = some (.int .i64 hg) ∧ w'.cell? ⟨w.heap.size, 2, none⟩ = some (.slice A bs.length c) ∧ w'.cell? ⟨w5.heap.size, 0, none⟩ = some (.int .i64 wd) ∧ w'.cell? ⟨w5.heap.size, 1, none⟩ = some (.int .i64 hg) ∧ w'.cell? ⟨w5.heap.size, 2, none⟩ = some (.slice (some ⟨g5, 0, none⟩) bs.length c5)) (first | exact HK.out | exact KX.out | exact KY.out)
    (first
      | (go_at_call 21; go_must (refine (toField_any wd hg A _ c bs _ rfl (by omega) ((Hr.out.below (Below.drew B_35.out)).more B_35.out.size)).mono ?_); rintro e wy ⟨⟨gy, cy, rfl, hoy⟩, hbd⟩; have hby := undrew hbd; have TY := Lib.hid hby; have KX := Lib.hid (six_below hby (show w.heap.size < w8.heap.size by omega) (show w5.heap.size < w8.heap.size by omega) HK.out); have HOY := Lib.hid (Rd.own hoy); have HXY := Lib.hid (Rx_40.out.below hby (by omega)).rd)
      | (go_at_call 23; go_must (refine (eqField_same wd hg _ _ _ _ _ _ bs _ rfl rfl (by omega) HXY.out HOY.out).mono ?_); rintro e w9 ⟨rfl, hbz⟩; have TZ := Lib.hid (bthen TY.out hbz); have zy := TY.out.size; have KY := Lib.hid (six_below hbz (show w.heap.size < wy.heap.size by omega) (show w5.heap.size < wy.heap.size by omega) KX.out)))
  have B_44 := Lib.hid (bthen B_35.out TZ.out)
  have zw9 : w8.heap.size ≤ w9.heap.size := TZ.out.size
  have Ka_45 := Lib.hid (Ka_36.out.below TZ.out (by omega))
  have Kw_46 := Lib.hid (Kw_37.out.below TZ.out (by omega))
  have Kx_47 := Lib.hid (Kx_38.out.below TZ.out (by omega))
  have Kg_48 := Lib.hid (Kg_43.out.below TZ.out (by omega))
  have Rw_49 := Lib.hid (Rw_39.out.below TZ.out (by omega))
  have Rx_50 := Lib.hid (Rx_40.out.below TZ.out (by omega))
  have Rl_51 := Lib.hid (Rl_41.out.below TZ.out (by omega))
  have Rg_52 := Lib.hid (Rg_42.out.below TZ.out (by omega))
  clear HK TY TZ KX KY HOY HXY hoy hbd hby hbz k0 k1 k2 x0 x1 x2 B_35 Ka_36 Kw_37 Kx_38 Kg_43 Rw_39 Rx_40 Rl_41 Rg_42
  go_wp2_with fail
  refine (toInt64S_any A' _ c' xs _ rfl (by omega) ((Hr2.out.below B_44.out).more B_44.out.size)).mono ?_
  rintro e w10 ⟨rfl, ho, hb⟩
  have hbb := hb
  have B_53 := Lib.hid (bthen B_44.out hbb)
  have zw10 : w9.heap.size ≤ w10.heap.size := hbb.size
  have Ka_54 := Lib.hid (Ka_45.out.below hbb (by omega))
  have Kw_55 := Lib.hid (Kw_46.out.below hbb (by omega))
  have Kx_56 := Lib.hid (Kx_47.out.below hbb (by omega))
  have Kg_57 := Lib.hid (Kg_48.out.below hbb (by omega))
  have Rw_58 := Lib.hid (Rw_49.out.below hbb (by omega))
  have Rx_59 := Lib.hid (Rx_50.out.below hbb (by omega))
  have Rl_60 := Lib.hid (Rl_51.out.below hbb (by omega))
  have Rg_61 := Lib.hid (Rg_52.out.below hbb (by omega))
  have Rt_62 := Lib.hid (RowIn.new (show w10.ownsRow (w9.heap.size) 2 1 (.slice (some ⟨w9.heap.size, 0, none⟩) xs.length xs.length) xs.length (xs.map (Value.int .i64)) by exact ho))
  clear hb hbb B_44 Ka_45 Kw_46 Kx_47 Kg_48 Rw_49 Rx_50 Rl_51 Rg_52 ho
  go_wp2_with fail
  refine (eqInt64S_same (some ⟨w5.heap.size + 1, 0, none⟩) (some ⟨w9.heap.size, 0, none⟩) xs.length xs.length xs.length xs.length xs _ rfl rfl (by omega) Rl_60.out.rd Rt_62.out.rd).mono ?_
  rintro e w' ⟨rfl, mm, rfl⟩
  obtain ⟨w11, hw11⟩ : ∃ x, x = w10.drewN mm := ⟨_, rfl⟩
  rw [← hw11]
  have hbb : Below w10.heap.size w10 w11 := by rw [hw11]; exact below_drewN (Below.refl _ _) _
  clear hw11
  have B_63 := Lib.hid (bthen B_53.out hbb)
  have zw11 : w10.heap.size ≤ w11.heap.size := hbb.size
  have Ka_64 := Lib.hid (Ka_54.out.below hbb (by omega))
  have Kw_65 := Lib.hid (Kw_55.out.below hbb (by omega))
  have Kx_66 := Lib.hid (Kx_56.out.below hbb (by omega))
  have Kg_67 := Lib.hid (Kg_57.out.below hbb (by omega))
  have Rw_68 := Lib.hid (Rw_58.out.below hbb (by omega))
  have Rx_69 := Lib.hid (Rx_59.out.below hbb (by omega))
  have Rl_70 := Lib.hid (Rl_60.out.below hbb (by omega))
  have Rg_71 := Lib.hid (Rg_61.out.below hbb (by omega))
  have Rt_72 := Lib.hid (Rt_62.out.below hbb (by omega))
  clear hbb B_53 Ka_54 Kw_55 Kx_56 Kg_57 Rw_58 Rx_59 Rl_60 Rg_61 Rt_62
  obtain ⟨fx0, fx1, fx2⟩ := Kx_66.out
  have yx : w5.heap.size < w11.heap.size := by omega
  go_wp2_with fail
  refine (markField_any wd hg (some ⟨g5, 0, none⟩) bs.length c5 1 _ _ w11 (by omega) (by omega) Rx_69.out.1).mono ?_
  rintro e w12 ⟨rfl, ho, hgr⟩
  have zw12 : w11.heap.size ≤ w12.heap.size := hgr.size
  have B_73 := Lib.hid (belowGrownR B_63.out Rx_69.out hgr B_63.out.size (by omega))
  have Ka_74 := Lib.hid (Ka_64.out.grownR Rx_69.out hgr (by omega) (by omega))
  have Kw_75 := Lib.hid (Kw_65.out.grownR Rx_69.out hgr (by omega) (by omega))
  have Kx_76 := Lib.hid (Kx_66.out.grownR Rx_69.out hgr (by omega) (by omega))
  have Kg_77 := Lib.hid (Kg_67.out.grownR Rx_69.out hgr (by omega) (by omega))
  have Rw_78 := Lib.hid (Rw_68.out.grown Rx_69.out hgr (by omega))
  have Rx_79 := Lib.hid (Rx_69.out.written ho)
  have Rl_80 := Lib.hid (Rl_70.out.grown Rx_69.out hgr (by omega))
  have Rg_81 := Lib.hid (Rg_71.out.grown Rx_69.out hgr (by omega))
  clear ho hgr B_63 Ka_64 Kw_65 Kx_66 Kg_67 Rw_68 Rx_69 Rl_70 Rg_71 fx0 fx1 fx2 yx
  go_wp2_with fail
  refine (markInt64S_any (some ⟨w5.heap.size + 1, 0, none⟩) xs.length xs.length (1 + bs.length) _ _ w12 (by omega) Rl_80.out.1).mono ?_
  rintro e w13 ⟨rfl, ho, hgr⟩
  have zw13 : w12.heap.size ≤ w13.heap.size := hgr.size
  have B_82 := Lib.hid (belowGrownR B_73.out Rl_80.out hgr B_73.out.size (by omega))
  have Ka_83 := Lib.hid (Ka_74.out.grownR Rl_80.out hgr (by omega) (by omega))
  have Kw_84 := Lib.hid (Kw_75.out.grownR Rl_80.out hgr (by omega) (by omega))
  have Kx_85 := Lib.hid (Kx_76.out.grownR Rl_80.out hgr (by omega) (by omega))
  have Kg_86 := Lib.hid (Kg_77.out.grownR Rl_80.out hgr (by omega) (by omega))
  have Rw_87 := Lib.hid (Rw_78.out.grown Rl_80.out hgr (by omega))
  have Rx_88 := Lib.hid (Rx_79.out.grown Rl_80.out hgr (by omega))
  have Rl_89 := Lib.hid (Rl_80.out.written ho)
  have Rg_90 := Lib.hid (Rg_81.out.grown Rl_80.out hgr (by omega))
  clear ho hgr B_73 Ka_74 Kw_75 Kx_76 Kg_77 Rw_78 Rx_79 Rl_80 Rg_81
  obtain ⟨fg0, fg1, fg2⟩ := Kg_86.out
  have yg : w7.heap.size < w13.heap.size := by omega
  obtain ⟨fw0, fw1, fw2⟩ := Kw_84.out
  have yw : w4.heap.size < w13.heap.size := by omega
  go_wp2_with fail
  refine (eqField_same wd' hg' A7 A4 _ c7 _ c4 rs _ rfl rfl (by omega) Rg_90.out.rd Rw_87.out.rd).mono ?_
  rintro e w14 ⟨rfl, hb⟩
  have hbb := hb
  have B_91 := Lib.hid (bthen B_82.out hbb)
  have zw14 : w13.heap.size ≤ w14.heap.size := hbb.size
  have Ka_92 := Lib.hid (Ka_83.out.below hbb (by omega))
  have Kw_93 := Lib.hid (Kw_84.out.below hbb (by omega))
  have Kg_94 := Lib.hid (Kg_86.out.below hbb (by omega))
  have Rw_95 := Lib.hid (Rw_87.out.below hbb (by omega))
  have Rg_96 := Lib.hid (Rg_90.out.below hbb (by omega))
  clear hb hbb B_82 Ka_83 Kw_84 Kg_86 Rw_87 Rg_90 fg0 fg1 fg2 yg fw0 fw1 fw2 yw
  obtain ⟨fg0, fg1, fg2⟩ := Kg_94.out
  have yg : w7.heap.size < w14.heap.size := by omega
  go_wp2_with fail
  refine (markField_any wd' hg' A7 rs.length c7 1 _ _ w14 (by omega) (by omega) Rg_96.out.1).mono ?_
  rintro e w15 ⟨rfl, ho, hgr⟩
  have zw15 : w14.heap.size ≤ w15.heap.size := hgr.size
  have B_97 := Lib.hid (belowGrownR B_91.out Rg_96.out hgr B_91.out.size (by omega))
  have Ka_98 := Lib.hid (Ka_92.out.grownR Rg_96.out hgr (by omega) (by omega))
  have Kw_99 := Lib.hid (Kw_93.out.grownR Rg_96.out hgr (by omega) (by omega))
  have Kg_100 := Lib.hid (Kg_94.out.grownR Rg_96.out hgr (by omega) (by omega))
  have Rw_101 := Lib.hid (Rw_95.out.grown Rg_96.out hgr (by omega))
  have Rg_102 := Lib.hid (Rg_96.out.written ho)
  clear ho hgr B_91 Ka_92 Kw_93 Kg_94 Rw_95 Rg_96 fg0 fg1 fg2 yg
  obtain ⟨fg0, fg1, fg2⟩ := Kg_100.out
  have yg : w7.heap.size < w15.heap.size := by omega
  go_wp2_with fail
  refine (heldField_any wd' hg' A7 rs.length c7 1 _ (by omega) Rg_102.out.rd).mono ?_
  rintro e w16 ⟨rfl, hb⟩
  have hbb := hb
  have B_103 := Lib.hid (bthen B_97.out hbb)
  have zw16 : w15.heap.size ≤ w16.heap.size := hbb.size
  have Ka_104 := Lib.hid (Ka_98.out.below hbb (by omega))
  have Kw_105 := Lib.hid (Kw_99.out.below hbb (by omega))
  have Kg_106 := Lib.hid (Kg_100.out.below hbb (by omega))
  have Rw_107 := Lib.hid (Rw_101.out.below hbb (by omega))
  have Rg_108 := Lib.hid (Rg_102.out.below hbb (by omega))
  clear hb hbb B_97 Ka_98 Kw_99 Kg_100 Rw_101 Rg_102 fg0 fg1 fg2 yg
  obtain ⟨fa0, fa1, fa2⟩ := Ka_104.out
  have ya : w.heap.size < w16.heap.size := by omega
  go_wp2_with fail
  refine (toField_any wd hg A _ c bs _ rfl (by omega) ((Hr.out.below B_103.out).more B_103.out.size)).mono ?_
  rintro e w17 ⟨⟨g17, c17, rfl, ho⟩, hb⟩
  have hbb := hb
  have B_109 := Lib.hid (bthen B_103.out hbb)
  have zw17 : w16.heap.size ≤ w17.heap.size := hbb.size
  have Ka_110 := Lib.hid (Ka_104.out.below hbb (by omega))
  have Kw_111 := Lib.hid (Kw_105.out.below hbb (by omega))
  have Kg_112 := Lib.hid (Kg_106.out.below hbb (by omega))
  have Rw_113 := Lib.hid (Rw_107.out.below hbb (by omega))
  have Rg_114 := Lib.hid (Rg_108.out.below hbb (by omega))
  have Rp_115 := Lib.hid (RowIn.new (show w17.ownsRow (w16.heap.size) 4 1 (.slice (some ⟨g17, 0, none⟩) bs.length c17) bs.length (bs.map Value.bool) by exact ho))
  clear hb hbb B_103 Ka_104 Kw_105 Kg_106 Rw_107 Rg_108 ho fa0 fa1 fa2 ya
  go_wp2_with fail
  refine (toInt64S_any A' _ c' xs _ rfl (by omega) ((Hr2.out.below B_109.out).more B_109.out.size)).mono ?_
  rintro e w18 ⟨rfl, ho, hb⟩
  have hbb := hb
  have B_116 := Lib.hid (bthen B_109.out hbb)
  have zw18 : w17.heap.size ≤ w18.heap.size := hbb.size
  have Ka_117 := Lib.hid (Ka_110.out.below hbb (by omega))
  have Kw_118 := Lib.hid (Kw_111.out.below hbb (by omega))
  have Kg_119 := Lib.hid (Kg_112.out.below hbb (by omega))
  have Rw_120 := Lib.hid (Rw_113.out.below hbb (by omega))
  have Rg_121 := Lib.hid (Rg_114.out.below hbb (by omega))
  have Rp_122 := Lib.hid (Rp_115.out.below hbb (by omega))
  have Rq_123 := Lib.hid (RowIn.new (show w18.ownsRow (w17.heap.size) 2 1 (.slice (some ⟨w17.heap.size, 0, none⟩) xs.length xs.length) xs.length (xs.map (Value.int .i64)) by exact ho))
  clear hb hbb B_109 Ka_110 Kw_111 Kg_112 Rw_113 Rg_114 Rp_115 ho
  go_wp2_with fail
  refine (CI.out _ (some ⟨g17, 0, none⟩) c17 (some ⟨w17.heap.size, 0, none⟩) xs.length Rp_122.out.rd Rq_123.out.rd).mono ?_
  rintro e w19 ⟨⟨A19, c19, rfl, ho⟩, hb⟩
  have hbb := hb
  have B_124 := Lib.hid (bthen B_116.out hbb)
  have zw19 : w18.heap.size ≤ w19.heap.size := hbb.size
  have Ka_125 := Lib.hid (Ka_117.out.below hbb (by omega))
  have Kw_126 := Lib.hid (Kw_118.out.below hbb (by omega))
  have Kg_127 := Lib.hid (Kg_119.out.below hbb (by omega))
  have Rw_128 := Lib.hid (Rw_120.out.below hbb (by omega))
  have Rg_129 := Lib.hid (Rg_121.out.below hbb (by omega))
  have Rp_130 := Lib.hid (Rp_122.out.below hbb (by omega))
  have Rq_131 := Lib.hid (Rq_123.out.below hbb (by omega))
  have Rh_132 := Lib.hid (RowIn.new (show w19.ownsRow (w18.heap.size) 4 1 (.slice A19 rs.length c19) rs.length (rs.map Value.bool) by exact ho))
  clear hb hbb B_116 Ka_117 Kw_118 Kg_119 Rw_120 Rg_121 Rp_122 Rq_123 ho
  obtain ⟨fw0, fw1, fw2⟩ := Kw_126.out
  have yw : w4.heap.size < w19.heap.size := by omega
  go_wp2_with fail
  refine (eqField_same wd' hg' A19 A4 _ c19 _ c4 rs _ rfl rfl (by omega) (Rh_132.out.rd.next (below_new w19 _)) (Rw_128.out.rd.next (below_new w19 _))).mono ?_
  rintro e w20 ⟨rfl, hb⟩
  have hbb := (bthen (below_new w19 _) hb)
  have B_133 := Lib.hid (bthen B_124.out hbb)
  have zw20 : w19.heap.size < w20.heap.size := by have := hb.size; simp at this; omega
  have Ka_134 := Lib.hid (Ka_125.out.below hbb (by omega))
  have Kw_135 := Lib.hid (Kw_126.out.below hbb (by omega))
  have Kg_136 := Lib.hid (Kg_127.out.below hbb (by omega))
  have Rw_137 := Lib.hid (Rw_128.out.below hbb (by omega))
  have Rg_138 := Lib.hid (Rg_129.out.below hbb (by omega))
  have Rh_139 := Lib.hid (Rh_132.out.below hbb (by omega))
  have Kh_140 := Lib.hid ((FBox.new w19 27 wd' hg' (.slice A19 rs.length c19)).below hb (by simp))
  clear hb hbb B_124 Ka_125 Kw_126 Kg_127 Rw_128 Rg_129 Rh_132 fw0 fw1 fw2 yw
  obtain ⟨fg0, fg1, fg2⟩ := Kg_136.out
  have yg : w7.heap.size < w20.heap.size := by omega
  go_wp2_with fail
  refine (heldField_any wd' hg' A7 rs.length c7 1 _ (by omega) Rg_138.out.rd).mono ?_
  rintro e w21 ⟨rfl, hb⟩
  have hbb := hb
  have B_141 := Lib.hid (bthen B_133.out hbb)
  have zw21 : w20.heap.size ≤ w21.heap.size := hbb.size
  have Ka_142 := Lib.hid (Ka_134.out.below hbb (by omega))
  have Kw_143 := Lib.hid (Kw_135.out.below hbb (by omega))
  have Kg_144 := Lib.hid (Kg_136.out.below hbb (by omega))
  have Kh_145 := Lib.hid (Kh_140.out.below hbb (by omega))
  have Rw_146 := Lib.hid (Rw_137.out.below hbb (by omega))
  have Rg_147 := Lib.hid (Rg_138.out.below hbb (by omega))
  have Rh_148 := Lib.hid (Rh_139.out.below hbb (by omega))
  clear hb hbb B_133 Ka_134 Kw_135 Kg_136 Kh_140 Rw_137 Rg_138 Rh_139 fg0 fg1 fg2 yg
  go_wp2
  go_ret
  exact ⟨rfl, B_141.out⟩
theorem lawFlipCells (wd hg : Int) (A A' : Option Addr) (n c m c' : Nat) (bs : List Bool) (xs : List Int) (w : World) (hn : bs.length = n) (hm : n ≤ 9223372036854775807) (hr : Rd w w.heap.size A (bs.map Value.bool)) (hn' : xs.length = m) (hm' : m ≤ 9223372036854775807) (hr' : Rd w w.heap.size A' (xs.map (Value.int .i64))) :
    Calls Try.prog 13 #[.agg #[.int .i64 wd, .int .i64 hg, .slice A n c], .slice A' m c'] w fun e w' => e = .returned (.bool true) ∧ Below w.heap.size w w' := by
  subst hn hn'
  by_cases hx : xs.length ≤ 1048576
  · by_cases hs : (bs.length : Int) ≤ 1048576
    · refine lawFlip_of wd hg A A' c c' bs xs (pI (vF wd hg bs.length && listOk bs.length xs) wd) (pI (vF wd hg bs.length && listOk bs.length xs) hg) (pL (vF wd hg bs.length && listOk bs.length xs) (flips bs xs)) (vF wd hg bs.length && listOk bs.length xs) ?_ hs hx w
        (fun W P a P' a' h1 h2 => specFlip_any wd hg P P' _ a _ a' bs xs W rfl (by omega) rfl (by omega) h1 h2) (fun W P a P' a' h1 h2 => flipCells_any wd hg P P' _ a _ a' bs xs W rfl (by omega) rfl (by omega) h1 h2) hr hr'
      have h1 := flips_len bs xs
      unfold pL
      cases (vF wd hg bs.length && listOk bs.length xs) <;> simp <;> omega
    · have hneg : (-1 : Int) < 0 := by omega
      clear hr hr'
      go_enter Try.func13, Try.ntmps13
      go_wp2_with fail
      refine (szField_no wd hg A _ c 1048576 _ (by omega) (by omega) hm (by omega)).mono ?_
      rintro e w1 ⟨rfl, hb1⟩
      have B1 := Lib.hid (bthen (below_new w _) hb1)
      clear hb1
      go_wp2
      go_ret
      exact ⟨rfl, B1.out⟩
  · clear hr hr'
    go_enter Try.func13, Try.ntmps13
    go_wp2
    go_ret
    exact ⟨rfl, below_new _ _⟩
end Go.Proofs.Ytbefcfdmaafghaa
