/- The law FnExactGapsOf answers true, whatever the list. -/
import Derived.Test.YtcpimcjmckljfaaGapsI
import Derived.Test.YtcpimcjmckljfaaGapsS
import Derived.Test.YtcpimcjmckljfaaHeld
namespace Go.Proofs.Ytcpimcjmckljfaa
open Go.RowKit
set_option maxHeartbeats 8000000 in
set_option maxRecDepth 100000 in
theorem lawGapsOf_of (A : Option Addr) (c : Nat) (ws : List Nat) (rs : List Nat) (ok : Bool) (hl : rs.length ≤ 1048576) (hs : ws.length ≤ 1048576) (w : World)
    (cS : ∀ (W : World) (P : Addr) (q : Nat), Rd W W.heap.size (some P) (ws.map (Value.float .f32)) → Calls Try.prog 41 #[.slice (some P) ws.length q] W fun e w' => GivesF W.heap.size rs ok e w' ∧ Below W.heap.size W w')
    (cI : ∀ (W : World) (P : Addr) (q : Nat), Rd W W.heap.size (some P) (ws.map (Value.float .f32)) → Calls Try.prog 42 #[.slice (some P) ws.length q] W fun e w' => GivesF W.heap.size rs ok e w' ∧ Below W.heap.size W w')
    (hr : Rd w w.heap.size A (ws.map (Value.float .f32))) :
    Calls Try.prog 10 #[.slice A ws.length c] w fun e w' => e = .returned (.bool true) ∧ Below w.heap.size w w' := by
  have Hr := Lib.hid hr; clear hr
  have CS := Lib.hid cS; clear cS
  have CI := Lib.hid cI; clear cI
  go_enter Try.func10, Try.ntmps10
  go_wp2_with fail
  refine (toFloat32S_any A _ c ws _ rfl (by omega) Hr.out).mono ?_
  rintro e w1 ⟨rfl, ho, hb⟩
  have hbb := hb
  have B_1 := Lib.hid (hbb)
  have zw1 : w.heap.size ≤ w1.heap.size := hbb.size
  have Rp_2 := Lib.hid (RowIn.new (show w1.ownsRow (w.heap.size) 23 1 (.slice (some ⟨w.heap.size, 0, none⟩) ws.length ws.length) ws.length (ws.map (Value.float .f32)) by exact ho))
  clear hb hbb ho
  go_wp2_with fail
  refine (CS.out _ ⟨w.heap.size, 0, none⟩ ws.length Rp_2.out.rd).mono ?_
  rintro e w2 ⟨⟨A2, c2, rfl, ho⟩, hb⟩
  have hbb := hb
  have B_3 := Lib.hid (bthen B_1.out hbb)
  have zw2 : w1.heap.size ≤ w2.heap.size := hbb.size
  have Rp_4 := Lib.hid (Rp_2.out.below hbb (by omega))
  have Rw_5 := Lib.hid (RowIn.new (show w2.ownsRow (w1.heap.size) 23 1 (.slice A2 rs.length c2) rs.length (rs.map (Value.float .f32)) by exact ho))
  clear hb hbb B_1 Rp_2 ho
  go_wp2_with fail
  refine (toFloat32S_any A _ c ws _ rfl (by omega) ((Hr.out.below B_3.out).more B_3.out.size)).mono ?_
  rintro e w3 ⟨rfl, ho, hb⟩
  have hbb := hb
  have B_6 := Lib.hid (bthen B_3.out hbb)
  have zw3 : w2.heap.size ≤ w3.heap.size := hbb.size
  have Rw_7 := Lib.hid (Rw_5.out.below hbb (by omega))
  have Rx_8 := Lib.hid (RowIn.new (show w3.ownsRow (w2.heap.size) 23 1 (.slice (some ⟨w2.heap.size, 0, none⟩) ws.length ws.length) ws.length (ws.map (Value.float .f32)) by exact ho))
  clear hb hbb B_3 Rw_5 ho
  go_wp2_with fail
  refine (CI.out _ ⟨w2.heap.size, 0, none⟩ ws.length Rx_8.out.rd).mono ?_
  rintro e w4 ⟨⟨A4, c4, rfl, ho⟩, hb⟩
  have hbb := hb
  have B_9 := Lib.hid (bthen B_6.out hbb)
  have zw4 : w3.heap.size ≤ w4.heap.size := hbb.size
  have Rw_10 := Lib.hid (Rw_7.out.below hbb (by omega))
  have Rx_11 := Lib.hid (Rx_8.out.below hbb (by omega))
  have Rg_12 := Lib.hid (RowIn.new (show w4.ownsRow (w3.heap.size) 23 1 (.slice A4 rs.length c4) rs.length (rs.map (Value.float .f32)) by exact ho))
  clear hb hbb B_6 Rw_7 Rx_8 ho
  go_wp2_with fail
  refine (eqFloat32S_same A4 A2 rs.length c4 rs.length c2 rs _ rfl rfl (by omega) Rg_12.out.rd Rw_10.out.rd).mono ?_
  rintro e w5 ⟨rfl, hb⟩
  have hbb := hb
  have B_13 := Lib.hid (bthen B_9.out hbb)
  have zw5 : w4.heap.size ≤ w5.heap.size := hbb.size
  have Rw_14 := Lib.hid (Rw_10.out.below hbb (by omega))
  have Rx_15 := Lib.hid (Rx_11.out.below hbb (by omega))
  have Rg_16 := Lib.hid (Rg_12.out.below hbb (by omega))
  clear hb hbb B_9 Rw_10 Rx_11 Rg_12
  go_wp2_with fail
  refine (toFloat32S_any A _ c ws _ rfl (by omega) ((Hr.out.below B_13.out).more B_13.out.size)).mono ?_
  rintro e w6 ⟨rfl, ho, hb⟩
  have hbb := hb
  have B_17 := Lib.hid (bthen B_13.out hbb)
  have zw6 : w5.heap.size ≤ w6.heap.size := hbb.size
  have Rw_18 := Lib.hid (Rw_14.out.below hbb (by omega))
  have Rx_19 := Lib.hid (Rx_15.out.below hbb (by omega))
  have Rg_20 := Lib.hid (Rg_16.out.below hbb (by omega))
  have Rt_21 := Lib.hid (RowIn.new (show w6.ownsRow (w5.heap.size) 23 1 (.slice (some ⟨w5.heap.size, 0, none⟩) ws.length ws.length) ws.length (ws.map (Value.float .f32)) by exact ho))
  clear hb hbb B_13 Rw_14 Rx_15 Rg_16 ho
  go_wp2_with fail
  refine (eqFloat32S_same (some ⟨w2.heap.size, 0, none⟩) (some ⟨w5.heap.size, 0, none⟩) ws.length ws.length ws.length ws.length ws _ rfl rfl (by omega) Rx_19.out.rd Rt_21.out.rd).mono ?_
  rintro e w7 ⟨rfl, hb⟩
  have hbb := hb
  have B_22 := Lib.hid (bthen B_17.out hbb)
  have zw7 : w6.heap.size ≤ w7.heap.size := hbb.size
  have Rw_23 := Lib.hid (Rw_18.out.below hbb (by omega))
  have Rx_24 := Lib.hid (Rx_19.out.below hbb (by omega))
  have Rg_25 := Lib.hid (Rg_20.out.below hbb (by omega))
  have Rt_26 := Lib.hid (Rt_21.out.below hbb (by omega))
  clear hb hbb B_17 Rw_18 Rx_19 Rg_20 Rt_21
  go_wp2_with fail
  refine (markFloat32S_any (some ⟨w2.heap.size, 0, none⟩) ws.length ws.length 1 _ _ w7 (by omega) Rx_24.out.1).mono ?_
  rintro e w8 ⟨rfl, ho, hgr⟩
  have zw8 : w7.heap.size ≤ w8.heap.size := hgr.size
  have B_27 := Lib.hid (belowGrownR B_22.out Rx_24.out hgr B_22.out.size (by omega))
  have Rw_28 := Lib.hid (Rw_23.out.grown Rx_24.out hgr (by omega))
  have Rx_29 := Lib.hid (Rx_24.out.written ho)
  have Rg_30 := Lib.hid (Rg_25.out.grown Rx_24.out hgr (by omega))
  clear ho hgr B_22 Rw_23 Rx_24 Rg_25
  go_wp2_with fail
  refine (eqFloat32S_same A4 A2 rs.length c4 rs.length c2 rs _ rfl rfl (by omega) Rg_30.out.rd Rw_28.out.rd).mono ?_
  rintro e w9 ⟨rfl, hb⟩
  have hbb := hb
  have B_31 := Lib.hid (bthen B_27.out hbb)
  have zw9 : w8.heap.size ≤ w9.heap.size := hbb.size
  have Rw_32 := Lib.hid (Rw_28.out.below hbb (by omega))
  have Rg_33 := Lib.hid (Rg_30.out.below hbb (by omega))
  clear hb hbb B_27 Rw_28 Rg_30
  go_wp2_with fail
  refine (markFloat32S_any A4 rs.length c4 1 _ _ w9 (by omega) Rg_33.out.1).mono ?_
  rintro e w10 ⟨rfl, ho, hgr⟩
  have zw10 : w9.heap.size ≤ w10.heap.size := hgr.size
  have B_34 := Lib.hid (belowGrownR B_31.out Rg_33.out hgr B_31.out.size (by omega))
  have Rw_35 := Lib.hid (Rw_32.out.grown Rg_33.out hgr (by omega))
  have Rg_36 := Lib.hid (Rg_33.out.written ho)
  clear ho hgr B_31 Rw_32 Rg_33
  go_wp2_with fail
  refine (heldFloat32S_any A4 rs.length c4 1 _ (by omega) Rg_36.out.rd).mono ?_
  rintro e w' ⟨rfl, rfl⟩
  go_wp2_with fail
  refine (toFloat32S_any A _ c ws _ rfl (by omega) ((Hr.out.below B_34.out).more B_34.out.size)).mono ?_
  rintro e w11 ⟨rfl, ho, hb⟩
  have hbb := hb
  have B_37 := Lib.hid (bthen B_34.out hbb)
  have zw11 : w10.heap.size ≤ w11.heap.size := hbb.size
  have Rw_38 := Lib.hid (Rw_35.out.below hbb (by omega))
  have Rg_39 := Lib.hid (Rg_36.out.below hbb (by omega))
  have Rp_40 := Lib.hid (RowIn.new (show w11.ownsRow (w10.heap.size) 23 1 (.slice (some ⟨w10.heap.size, 0, none⟩) ws.length ws.length) ws.length (ws.map (Value.float .f32)) by exact ho))
  clear hb hbb B_34 Rw_35 Rg_36 ho
  go_wp2_with fail
  refine (CI.out _ ⟨w10.heap.size, 0, none⟩ ws.length Rp_40.out.rd).mono ?_
  rintro e w12 ⟨⟨A12, c12, rfl, ho⟩, hb⟩
  have hbb := hb
  have B_41 := Lib.hid (bthen B_37.out hbb)
  have zw12 : w11.heap.size ≤ w12.heap.size := hbb.size
  have Rw_42 := Lib.hid (Rw_38.out.below hbb (by omega))
  have Rg_43 := Lib.hid (Rg_39.out.below hbb (by omega))
  have Rp_44 := Lib.hid (Rp_40.out.below hbb (by omega))
  have Rh_45 := Lib.hid (RowIn.new (show w12.ownsRow (w11.heap.size) 23 1 (.slice A12 rs.length c12) rs.length (rs.map (Value.float .f32)) by exact ho))
  clear hb hbb B_37 Rw_38 Rg_39 Rp_40 ho
  go_wp2_with fail
  refine (eqFloat32S_same A12 A2 rs.length c12 rs.length c2 rs _ rfl rfl (by omega) Rh_45.out.rd Rw_42.out.rd).mono ?_
  rintro e w13 ⟨rfl, hb⟩
  have hbb := hb
  have B_46 := Lib.hid (bthen B_41.out hbb)
  have zw13 : w12.heap.size ≤ w13.heap.size := hbb.size
  have Rw_47 := Lib.hid (Rw_42.out.below hbb (by omega))
  have Rg_48 := Lib.hid (Rg_43.out.below hbb (by omega))
  have Rh_49 := Lib.hid (Rh_45.out.below hbb (by omega))
  clear hb hbb B_41 Rw_42 Rg_43 Rh_45
  go_wp2_with fail
  refine (heldFloat32S_any A4 rs.length c4 1 _ (by omega) Rg_48.out.rd).mono ?_
  rintro e w' ⟨rfl, rfl⟩
  go_wp2
  go_ret
  exact ⟨rfl, B_46.out⟩
theorem lawGapsOf (A : Option Addr) (n c : Nat) (ws : List Nat) (w : World) (hn : ws.length = n) (hm : n ≤ 9223372036854775807) (hr : Rd w w.heap.size A (ws.map (Value.float .f32))) :
    Calls Try.prog 10 #[.slice A n c] w fun e w' => e = .returned (.bool true) ∧ Below w.heap.size w w' := by
  subst hn
  by_cases hs : ws.length ≤ 1048576
  · exact lawGapsOf_of A c ws (gapsR ws) (gapsOk ws) (gapsR_len ws hs) hs w (fun W P q h1 => specGapsOf_any P _ q ws W rfl hs h1) (fun W P q h1 => gapsOf_any P _ q ws W rfl hs h1) hr
  · clear hr
    go_enter Try.func10, Try.ntmps10
    go_wp2
    go_ret
    exact ⟨rfl, Below.refl _ _⟩
end Go.Proofs.Ytcpimcjmckljfaa
