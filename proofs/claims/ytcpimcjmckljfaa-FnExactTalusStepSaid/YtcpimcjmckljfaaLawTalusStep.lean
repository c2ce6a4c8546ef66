/- The law FnExactTalusStep answers true, whatever the sheet and the numbers. -/
import Derived.Test.YtcpimcjmckljfaaTalusN
namespace Go.Proofs.Ytcpimcjmckljfaa
open Ieee Go.RowKit
set_option maxHeartbeats 8000000 in
set_option maxRecDepth 100000 in
theorem lawTalus_of (wd hg : Int) (A : Option Addr) (c t h : Nat) (bs : List Nat) (wd' hg' : Int) (rs : List Nat) (zz : Nat) (ok : Bool) (hz : nanF .f32 zz = false) (hl : rs.length ≤ 1048576) (hs : (bs.length : Int) ≤ 1048576) (w : World)
    (cS : ∀ (W : World) (P : Option Addr) (a : Nat), Rd W W.heap.size P (bs.map (Value.float .f32)) → Calls Try.prog 25 #[.agg #[.int .i64 wd, .int .i64 hg, .slice P bs.length a], .float .f32 t, .float .f32 h] W fun e w' => GivesSFB W.heap.size wd' hg' rs zz ok e w' ∧ Below W.heap.size W w')
    (cI : ∀ (W : World) (P : Option Addr) (a : Nat), Rd W W.heap.size P (bs.map (Value.float .f32)) → Calls Try.prog 27 #[.agg #[.int .i64 wd, .int .i64 hg, .slice P bs.length a], .float .f32 t, .float .f32 h] W fun e w' => GivesSFB W.heap.size wd' hg' rs zz ok e w' ∧ Below W.heap.size W w')
    (hr : Rd w w.heap.size A (bs.map (Value.float .f32))) :
    Calls Try.prog 5 #[.agg #[.int .i64 wd, .int .i64 hg, .slice A bs.length c], .float .f32 t, .float .f32 h] w fun e w' => e = .returned (.bool true) ∧ Below w.heap.size w w' := by
  have Hr := Lib.hid hr; clear hr
  have CS := Lib.hid cS; clear cS
  have CI := Lib.hid cI; clear cI
  have hpos : ¬ (1048576 - (bs.length : Int) < 0) := by omega
  obtain ⟨r, hrr, hrn⟩ := widen zz hz
  have hcv : ∀ w, (convert 23 28 (.float .f32 zz)).run Try.prog w = .ok (.float .f64 r) w := fun w => run_convert_float_float w 23 28 .f32 .f64 zz r (by rw [Try.underlying23]; rfl) Try.underlying28 hrr
  have HSF := Lib.hid (fun W => (sameFloat_self r W hrn).mono (R' := fun e w' => e = .returned (.bool true) ∧ W = w') fun _ _ h => ⟨h.1, h.2.symm⟩)
  clear hrr hrn hz
  go_enter Try.func5, Try.ntmps5
  go_wp2_with fail
  refine (szSheet_yes wd hg A _ c 1048576 _ (by omega) hs).mono ?_
  rintro e w1 ⟨rfl, hb⟩
  have hbb := (bthen (below_new w _) hb)
  have B_1 := Lib.hid (hbb)
  have zw1 : w.heap.size < w1.heap.size := by have := hb.size; simp at this; omega
  have Ka_2 := Lib.hid ((FBox.new w 39 wd hg (.slice A bs.length c)).below hb (by simp))
  clear hb hbb 
  obtain ⟨fa0, fa1, fa2⟩ := Ka_2.out
  have ya : w.heap.size < w1.heap.size := by omega
  go_wp2_with fail
  refine (toSheet_any wd hg A _ c bs _ rfl (by omega) ((Hr.out.below B_1.out).more B_1.out.size)).mono ?_
  rintro e w2 ⟨⟨g2, c2, rfl, ho⟩, hb⟩
  have hbb := hb
  have B_3 := Lib.hid (bthen B_1.out hbb)
  have zw2 : w1.heap.size ≤ w2.heap.size := hbb.size
  have Ka_4 := Lib.hid (Ka_2.out.below hbb (by omega))
  have Rp_5 := Lib.hid (RowIn.new (show w2.ownsRow (w1.heap.size) 23 1 (.slice (some ⟨g2, 0, none⟩) bs.length c2) bs.length (bs.map (Value.float .f32)) by exact ho))
  clear hb hbb B_1 Ka_2 ho fa0 fa1 fa2 ya
  go_wp2_with fail
  refine (CS.out _ (some ⟨g2, 0, none⟩) c2 Rp_5.out.rd).mono ?_
  rintro e w4 ⟨⟨A4, c4, rfl, ho⟩, hb⟩
  have hbb := hb
  have B_6 := Lib.hid (bthen B_3.out hbb)
  have zw4 : w2.heap.size ≤ w4.heap.size := hbb.size
  have Ka_7 := Lib.hid (Ka_4.out.below hbb (by omega))
  have Rp_8 := Lib.hid (Rp_5.out.below hbb (by omega))
  have Rw_9 := Lib.hid (RowIn.new (show w4.ownsRow (w2.heap.size) 23 1 (.slice A4 rs.length c4) rs.length (rs.map (Value.float .f32)) by exact ho))
  clear hb hbb B_3 Ka_4 Rp_5 ho
  obtain ⟨fa0, fa1, fa2⟩ := Ka_7.out
  have ya : w.heap.size < w4.heap.size := by omega
  go_wp2_with fail
  refine (toSheet_any wd hg A _ c bs _ rfl (by omega) (((Hr.out.below B_6.out).more B_6.out.size).next (below_new w4 _))).mono ?_
  rintro e w5 ⟨⟨g5, c5, rfl, ho⟩, hb⟩
  have hbb := (bthen (below_new w4 _) hb)
  have B_10 := Lib.hid (bthen B_6.out hbb)
  have zw5 : w4.heap.size < w5.heap.size := by have := hb.size; simp at this; omega
  have Ka_11 := Lib.hid (Ka_7.out.below hbb (by omega))
  have Rw_12 := Lib.hid (Rw_9.out.below hbb (by omega))
  have Kw_13 := Lib.hid ((FBox.new w4 41 wd' hg' (.slice A4 rs.length c4)).below hb (by simp))
  have Rx_14 := Lib.hid (RowIn.new (show w5.ownsRow (w4.heap.size + 1) 23 1 (.slice (some ⟨g5, 0, none⟩) bs.length c5) bs.length (bs.map (Value.float .f32)) by simpa using ho))
  clear hb hbb B_6 Ka_7 Rw_9 ho fa0 fa1 fa2 ya
  go_wp2_with fail
  refine (CI.out _ (some ⟨g5, 0, none⟩) c5 (Rx_14.out.rd.next (below_new w5 _))).mono ?_
  rintro e w7 ⟨⟨A7, c7, rfl, ho⟩, hb⟩
  have hbb := (bthen (below_new w5 _) hb)
  have B_15 := Lib.hid (bthen B_10.out hbb)
  have zw7 : w5.heap.size < w7.heap.size := by have := hb.size; simp at this; omega
  have Ka_16 := Lib.hid (Ka_11.out.below hbb (by omega))
  have Kw_17 := Lib.hid (Kw_13.out.below hbb (by omega))
  have Rw_18 := Lib.hid (Rw_12.out.below hbb (by omega))
  have Rx_19 := Lib.hid (Rx_14.out.below hbb (by omega))
  have Kx_20 := Lib.hid ((FBox.new w5 41 wd hg (.slice (some ⟨g5, 0, none⟩) bs.length c5)).below hb (by simp))
  have Rg_21 := Lib.hid (RowIn.new (show w7.ownsRow (w5.heap.size + 1) 23 1 (.slice A7 rs.length c7) rs.length (rs.map (Value.float .f32)) by simpa using ho))
  clear hb hbb B_10 Ka_11 Kw_13 Rw_12 Rx_14 ho
  obtain ⟨fw0, fw1, fw2⟩ := Kw_17.out
  have yw : w4.heap.size < w7.heap.size := by omega
  go_wp2_with fail
  refine (eqSheet_same wd' hg' A7 A4 _ c7 _ c4 rs _ rfl rfl (by omega) (Rg_21.out.rd.next (below_new w7 _)) (Rw_18.out.rd.next (below_new w7 _))).mono ?_
  rintro e w8 ⟨rfl, hb⟩
  have hbb := (bthen (below_new w7 _) hb)
  have B_22 := Lib.hid (bthen B_15.out hbb)
  have zw8 : w7.heap.size < w8.heap.size := by have := hb.size; simp at this; omega
  have Ka_23 := Lib.hid (Ka_16.out.below hbb (by omega))
  have Kw_24 := Lib.hid (Kw_17.out.below hbb (by omega))
  have Kx_25 := Lib.hid (Kx_20.out.below hbb (by omega))
  have Rw_26 := Lib.hid (Rw_18.out.below hbb (by omega))
  have Rx_27 := Lib.hid (Rx_19.out.below hbb (by omega))
  have Rg_28 := Lib.hid (Rg_21.out.below hbb (by omega))
  have Kg_29 := Lib.hid ((FBox.new w7 41 wd' hg' (.slice A7 rs.length c7)).below hb (by simp))
  clear hb hbb B_15 Ka_16 Kw_17 Kx_20 Rw_18 Rx_19 Rg_21 fw0 fw1 fw2 yw
  go_wp2_with fail
  refine (HSF.out _).mono ?_
  rintro e w' ⟨rfl, rfl⟩
  have HK := Lib.hid (show w8.cell? ⟨w.heap.size, 0, none⟩ = some (.int .i64 wd) ∧ w8.cell? ⟨w.heap.size, 1, none⟩ = some (.int .i64 hg) ∧ w8.cell? ⟨w.heap.size, 2, none⟩ = some (.slice A bs.length c) ∧ w8.cell? ⟨w5.heap.size, 0, none⟩ = some (.int .i64 wd) ∧ w8.cell? ⟨w5.heap.size, 1, none⟩ = some (.int .i64 hg) ∧ w8.cell? ⟨w5.heap.size, 2, none⟩ = some (.slice (some ⟨g5, 0, none⟩) bs.length c5) from ⟨Ka_23.out.1, Ka_23.out.2.1, Ka_23.out.2.2, Kx_25.out.1, Kx_25.out.2.1, Kx_25.out.2.2⟩)
  obtain ⟨k0, k1, k2, x0, x1, x2⟩ := HK.out
  go_wp2_with fail
  go_region_held3 (fun w' => w'.cell? ⟨w.heap.size, 0, none⟩ = some (.int .i64 wd) ∧ w'.cell? ⟨w.heap.size, 1, none⟩ = some (.int .i64 hg) ∧ w'.cell? ⟨w.heap.size, 2, none⟩ = some (.slice A bs.length c) ∧ w'.cell? ⟨w5.heap.size, 0, none⟩ = some (.int .i64 wd) ∧ w'.cell? ⟨w5.heap.size, 1, none⟩ = some (.int .i64 hg) ∧ w'.cell? ⟨w5.heap.size, 2, none⟩ = some (.slice (some ⟨g5, 0, none⟩) bs.length c5)) (first | exact HK.out | exact KX.out | exact KY.out)
    (first
      | (go_at_call 26; go_must (refine (toSheet_any wd hg A _ c bs _ rfl (by omega) ((Hr.out.below (Below.drew B_22.out)).more B_22.out.size)).mono ?_); rintro e wy ⟨⟨gy, cy, rfl, hoy⟩, hbd⟩; have hby := undrew hbd; have TY := Lib.hid hby; have KX := Lib.hid (six_below hby (show w.heap.size < w8.heap.size by omega) (show w5.heap.size < w8.heap.size by omega) HK.out); have HOY := Lib.hid (Rd.own hoy); have HXY := Lib.hid (Rx_27.out.below hby (by omega)).rd)
      | (go_at_call 28; go_must (refine (eqSheet_same wd hg _ _ _ _ _ _ bs _ rfl rfl (by omega) HXY.out HOY.out).mono ?_); rintro e w9 ⟨rfl, hbz⟩; have TZ := Lib.hid (bthen TY.out hbz); have zy := TY.out.size; have KY := Lib.hid (six_below hbz (show w.heap.size < wy.heap.size by omega) (show w5.heap.size < wy.heap.size by omega) KX.out)))
  have B_30 := Lib.hid (bthen B_22.out TZ.out)
  have zw9 : w8.heap.size ≤ w9.heap.size := TZ.out.size
  have Ka_31 := Lib.hid (Ka_23.out.below TZ.out (by omega))
  have Kw_32 := Lib.hid (Kw_24.out.below TZ.out (by omega))
  have Kx_33 := Lib.hid (Kx_25.out.below TZ.out (by omega))
  have Kg_34 := Lib.hid (Kg_29.out.below TZ.out (by omega))
  have Rw_35 := Lib.hid (Rw_26.out.below TZ.out (by omega))
  have Rx_36 := Lib.hid (Rx_27.out.below TZ.out (by omega))
  have Rg_37 := Lib.hid (Rg_28.out.below TZ.out (by omega))
  clear HK TY TZ KX KY HOY HXY hoy hbd hby hbz k0 k1 k2 x0 x1 x2 B_22 Ka_23 Kw_24 Kx_25 Kg_29 Rw_26 Rx_27 Rg_28
  obtain ⟨fx0, fx1, fx2⟩ := Kx_33.out
  have yx : w5.heap.size < w9.heap.size := by omega
  go_wp2_with fail
  refine (markSheet_any wd hg (some ⟨g5, 0, none⟩) bs.length c5 1 _ _ w9 (by omega) (by omega) Rx_36.out.1).mono ?_
  rintro e w12 ⟨rfl, ho, hgr⟩
  have zw12 : w9.heap.size ≤ w12.heap.size := hgr.size
  have B_38 := Lib.hid (belowGrownR B_30.out Rx_36.out hgr B_30.out.size (by omega))
  have Ka_39 := Lib.hid (Ka_31.out.grownR Rx_36.out hgr (by omega) (by omega))
  have Kw_40 := Lib.hid (Kw_32.out.grownR Rx_36.out hgr (by omega) (by omega))
  have Kx_41 := Lib.hid (Kx_33.out.grownR Rx_36.out hgr (by omega) (by omega))
  have Kg_42 := Lib.hid (Kg_34.out.grownR Rx_36.out hgr (by omega) (by omega))
  have Rw_43 := Lib.hid (Rw_35.out.grown Rx_36.out hgr (by omega))
  have Rx_44 := Lib.hid (Rx_36.out.written ho)
  have Rg_45 := Lib.hid (Rg_37.out.grown Rx_36.out hgr (by omega))
  clear ho hgr B_30 Ka_31 Kw_32 Kx_33 Kg_34 Rw_35 Rx_36 Rg_37 fx0 fx1 fx2 yx
  obtain ⟨fg0, fg1, fg2⟩ := Kg_42.out
  have yg : w7.heap.size < w12.heap.size := by omega
  obtain ⟨fw0, fw1, fw2⟩ := Kw_40.out
  have yw : w4.heap.size < w12.heap.size := by omega
  go_wp2_with fail
  refine (eqSheet_same wd' hg' A7 A4 _ c7 _ c4 rs _ rfl rfl (by omega) Rg_45.out.rd Rw_43.out.rd).mono ?_
  rintro e w14 ⟨rfl, hb⟩
  have hbb := hb
  have B_46 := Lib.hid (bthen B_38.out hbb)
  have zw14 : w12.heap.size ≤ w14.heap.size := hbb.size
  have Ka_47 := Lib.hid (Ka_39.out.below hbb (by omega))
  have Kw_48 := Lib.hid (Kw_40.out.below hbb (by omega))
  have Kg_49 := Lib.hid (Kg_42.out.below hbb (by omega))
  have Rw_50 := Lib.hid (Rw_43.out.below hbb (by omega))
  have Rg_51 := Lib.hid (Rg_45.out.below hbb (by omega))
  clear hb hbb B_38 Ka_39 Kw_40 Kg_42 Rw_43 Rg_45 fg0 fg1 fg2 yg fw0 fw1 fw2 yw
  go_wp2_with fail
  refine (HSF.out _).mono ?_
  rintro e w' ⟨rfl, rfl⟩
  obtain ⟨fg0, fg1, fg2⟩ := Kg_49.out
  have yg : w7.heap.size < w14.heap.size := by omega
  go_wp2_with fail
  refine (markSheet_any wd' hg' A7 rs.length c7 1 _ _ w14 (by omega) (by omega) Rg_51.out.1).mono ?_
  rintro e w15 ⟨rfl, ho, hgr⟩
  have zw15 : w14.heap.size ≤ w15.heap.size := hgr.size
  have B_52 := Lib.hid (belowGrownR B_46.out Rg_51.out hgr B_46.out.size (by omega))
  have Ka_53 := Lib.hid (Ka_47.out.grownR Rg_51.out hgr (by omega) (by omega))
  have Kw_54 := Lib.hid (Kw_48.out.grownR Rg_51.out hgr (by omega) (by omega))
  have Kg_55 := Lib.hid (Kg_49.out.grownR Rg_51.out hgr (by omega) (by omega))
  have Rw_56 := Lib.hid (Rw_50.out.grown Rg_51.out hgr (by omega))
  have Rg_57 := Lib.hid (Rg_51.out.written ho)
  clear ho hgr B_46 Ka_47 Kw_48 Kg_49 Rw_50 Rg_51 fg0 fg1 fg2 yg
  obtain ⟨fg0, fg1, fg2⟩ := Kg_55.out
  have yg : w7.heap.size < w15.heap.size := by omega
  go_wp2_with fail
  refine (heldSheet_any wd' hg' A7 rs.length c7 1 _ (by omega) Rg_57.out.rd).mono ?_
  rintro e w16 ⟨rfl, hb⟩
  have hbb := hb
  have B_58 := Lib.hid (bthen B_52.out hbb)
  have zw16 : w15.heap.size ≤ w16.heap.size := hbb.size
  have Ka_59 := Lib.hid (Ka_53.out.below hbb (by omega))
  have Kw_60 := Lib.hid (Kw_54.out.below hbb (by omega))
  have Kg_61 := Lib.hid (Kg_55.out.below hbb (by omega))
  have Rw_62 := Lib.hid (Rw_56.out.below hbb (by omega))
  have Rg_63 := Lib.hid (Rg_57.out.below hbb (by omega))
  clear hb hbb B_52 Ka_53 Kw_54 Kg_55 Rw_56 Rg_57 fg0 fg1 fg2 yg
  obtain ⟨fa0, fa1, fa2⟩ := Ka_59.out
  have ya : w.heap.size < w16.heap.size := by omega
  go_wp2_with fail
  refine (toSheet_any wd hg A _ c bs _ rfl (by omega) ((Hr.out.below B_58.out).more B_58.out.size)).mono ?_
  rintro e w17 ⟨⟨g17, c17, rfl, ho⟩, hb⟩
  have hbb := hb
  have B_64 := Lib.hid (bthen B_58.out hbb)
  have zw17 : w16.heap.size ≤ w17.heap.size := hbb.size
  have Ka_65 := Lib.hid (Ka_59.out.below hbb (by omega))
  have Kw_66 := Lib.hid (Kw_60.out.below hbb (by omega))
  have Kg_67 := Lib.hid (Kg_61.out.below hbb (by omega))
  have Rw_68 := Lib.hid (Rw_62.out.below hbb (by omega))
  have Rg_69 := Lib.hid (Rg_63.out.below hbb (by omega))
  have Rp_70 := Lib.hid (RowIn.new (show w17.ownsRow (w16.heap.size) 23 1 (.slice (some ⟨g17, 0, none⟩) bs.length c17) bs.length (bs.map (Value.float .f32)) by exact ho))
  clear hb hbb B_58 Ka_59 Kw_60 Kg_61 Rw_62 Rg_63 ho fa0 fa1 fa2 ya
  go_wp2_with fail
  refine (CI.out _ (some ⟨g17, 0, none⟩) c17 Rp_70.out.rd).mono ?_
  rintro e w19 ⟨⟨A19, c19, rfl, ho⟩, hb⟩
  have hbb := hb
  have B_71 := Lib.hid (bthen B_64.out hbb)
  have zw19 : w17.heap.size ≤ w19.heap.size := hbb.size
  have Ka_72 := Lib.hid (Ka_65.out.below hbb (by omega))
  have Kw_73 := Lib.hid (Kw_66.out.below hbb (by omega))
  have Kg_74 := Lib.hid (Kg_67.out.below hbb (by omega))
  have Rw_75 := Lib.hid (Rw_68.out.below hbb (by omega))
  have Rg_76 := Lib.hid (Rg_69.out.below hbb (by omega))
  have Rp_77 := Lib.hid (Rp_70.out.below hbb (by omega))
  have Rh_78 := Lib.hid (RowIn.new (show w19.ownsRow (w17.heap.size) 23 1 (.slice A19 rs.length c19) rs.length (rs.map (Value.float .f32)) by exact ho))
  clear hb hbb B_64 Ka_65 Kw_66 Kg_67 Rw_68 Rg_69 Rp_70 ho
  obtain ⟨fw0, fw1, fw2⟩ := Kw_73.out
  have yw : w4.heap.size < w19.heap.size := by omega
  go_wp2_with fail
  refine (eqSheet_same wd' hg' A19 A4 _ c19 _ c4 rs _ rfl rfl (by omega) (Rh_78.out.rd.next (below_new w19 _)) (Rw_75.out.rd.next (below_new w19 _))).mono ?_
  rintro e w20 ⟨rfl, hb⟩
  have hbb := (bthen (below_new w19 _) hb)
  have B_79 := Lib.hid (bthen B_71.out hbb)
  have zw20 : w19.heap.size < w20.heap.size := by have := hb.size; simp at this; omega
  have Ka_80 := Lib.hid (Ka_72.out.below hbb (by omega))
  have Kw_81 := Lib.hid (Kw_73.out.below hbb (by omega))
  have Kg_82 := Lib.hid (Kg_74.out.below hbb (by omega))
  have Rw_83 := Lib.hid (Rw_75.out.below hbb (by omega))
  have Rg_84 := Lib.hid (Rg_76.out.below hbb (by omega))
  have Rh_85 := Lib.hid (Rh_78.out.below hbb (by omega))
  have Kh_86 := Lib.hid ((FBox.new w19 41 wd' hg' (.slice A19 rs.length c19)).below hb (by simp))
  clear hb hbb B_71 Ka_72 Kw_73 Kg_74 Rw_75 Rg_76 Rh_78 fw0 fw1 fw2 yw
  go_wp2_with fail
  refine (HSF.out _).mono ?_
  rintro e w' ⟨rfl, rfl⟩
  obtain ⟨fg0, fg1, fg2⟩ := Kg_82.out
  have yg : w7.heap.size < w20.heap.size := by omega
  go_wp2_with fail
  refine (heldSheet_any wd' hg' A7 rs.length c7 1 _ (by omega) Rg_84.out.rd).mono ?_
  rintro e w21 ⟨rfl, hb⟩
  have hbb := hb
  have B_87 := Lib.hid (bthen B_79.out hbb)
  have zw21 : w20.heap.size ≤ w21.heap.size := hbb.size
  have Ka_88 := Lib.hid (Ka_80.out.below hbb (by omega))
  have Kw_89 := Lib.hid (Kw_81.out.below hbb (by omega))
  have Kg_90 := Lib.hid (Kg_82.out.below hbb (by omega))
  have Kh_91 := Lib.hid (Kh_86.out.below hbb (by omega))
  have Rw_92 := Lib.hid (Rw_83.out.below hbb (by omega))
  have Rg_93 := Lib.hid (Rg_84.out.below hbb (by omega))
  have Rh_94 := Lib.hid (Rh_85.out.below hbb (by omega))
  clear hb hbb B_79 Ka_80 Kw_81 Kg_82 Kh_86 Rw_83 Rg_84 Rh_85 fg0 fg1 fg2 yg
  go_wp2
  go_ret
  exact ⟨rfl, B_87.out⟩
theorem lawTalusStep (wd hg : Int) (A : Option Addr) (n c t h : Nat) (bs : List Nat) (w : World) (hn : bs.length = n) (hm : n ≤ 9223372036854775807) (hr : Rd w w.heap.size A (bs.map (Value.float .f32))) :
    Calls Try.prog 5 #[.agg #[.int .i64 wd, .int .i64 hg, .slice A n c], .float .f32 t, .float .f32 h] w fun e w' => e = .returned (.bool true) ∧ Below w.heap.size w w' := by
  subst hn
  by_cases hs : (bs.length : Int) ≤ 1048576
  · have cs := fun (W : World) (P : Option Addr) (a : Nat) h1 => specTalus_any wd hg P _ a t h bs W rfl (by omega) h1
    have ci := fun (W : World) (P : Option Addr) (a : Nat) h1 => talus_any wd hg P _ a t h bs W rfl (by omega) h1
    cases hg' : talR wd hg bs t h with
    | none =>
      rw [hg'] at cs ci
      exact lawTalus_of wd hg A c t h bs 0 0 [] 0 false num_zero (by simp) hs w cs ci hr
    | some r =>
      obtain ⟨rb, rz⟩ := r
      rw [hg'] at cs ci
      obtain ⟨h1, h2⟩ := talR_some hg'
      exact lawTalus_of wd hg A c t h bs wd hg rb rz true h2 (by omega) hs w cs ci hr
  · have hneg : (-1 : Int) < 0 := by omega
    clear hr
    go_enter Try.func5, Try.ntmps5
    go_wp2_with fail
    refine (szSheet_no wd hg A _ c 1048576 _ (by omega) (by omega) hm (by omega)).mono ?_
    rintro e w1 ⟨rfl, hb1⟩
    have B1 := Lib.hid (bthen (below_new w _) hb1)
    clear hb1
    go_wp2
    go_ret
    exact ⟨rfl, B1.out⟩
end Go.Proofs.Ytcpimcjmckljfaa
