/- The law FnExactDrawnField answers true, whatever the sides, the share and the seed. -/
import Derived.Test.YtbefcfdmaafghaaDrawn
namespace Go.Proofs.Ytbefcfdmaafghaa
open Go.RowKit
set_option maxHeartbeats 4000000 in
set_option maxRecDepth 100000 in
/-- The law, whatever the two functions give, if both give the same. -/
theorem lawDrawn_of (a b : Int) (x : Nat) (sd : Int) (wd hg z : Int) (bs : List Bool) (ok : Bool) (hl : bs.length ≤ 1048576)
    (c28 : ∀ W, Calls Try.prog 36 #[.int .i64 a, .int .i64 b, .float .f32 x, .int .i64 sd] W fun e w' => GivesFIB W.heap.size wd hg bs z ok e w' ∧ Below W.heap.size W w')
    (c29 : ∀ W, Calls Try.prog 37 #[.int .i64 a, .int .i64 b, .float .f32 x, .int .i64 sd] W fun e w' => GivesFIB W.heap.size wd hg bs z ok e w' ∧ Below W.heap.size W w') (w : World) :
    Calls Try.prog 8 #[.int .i64 a, .int .i64 b, .float .f32 x, .int .i64 sd] w fun e w' => e = .returned (.bool true) ∧ Below w.heap.size w w' := by
  have C28 := Lib.hid c28; clear c28
  have C29 := Lib.hid c29; clear c29
  go_enter Try.func8, Try.ntmps8
  go_wp2_with fail
  refine (C28.out _).mono ?_
  rintro e w1 ⟨⟨A1, c1, rfl, ho1⟩, hb1⟩
  have B1 := Lib.hid hb1
  have O1 := Lib.hid ho1
  have hBw := Lib.hid hb1.size
  clear hb1 ho1
  go_wp2_with fail
  refine (C29.out _).mono ?_
  rintro e w2 ⟨⟨A2, c2, rfl, ho2⟩, hb2⟩
  have B2 := Lib.hid (bthen B1.out (bthen (below_new w1 _) hb2))
  have X1 := Lib.hid ((FBox.new w1 27 wd hg (.slice A1 bs.length c1)).below hb2 (by simp))
  have P1 := Lib.hid (own_next O1.out (bthen (below_new w1 _) hb2))
  have L1 : Hid (∀ k, (Value.slice A1 bs.length c1).ownBlock = some k → k < w1.heap.size + 1) := fun k hk => by have := (O1.out.lt k hk).2; omega
  have z1 : w1.heap.size < w2.heap.size := by have := hb2.size; simp at this; omega
  have O2 := Lib.hid (show w2.ownsRow (w1.heap.size + 1) 4 1 (.slice A2 bs.length c2) bs.length (bs.map Value.bool) by simpa using ho2)
  clear hb2 ho2 B1 O1
  obtain ⟨x0, x1, x2⟩ := X1.out
  go_wp2_with fail
  refine (eqField_same wd hg A2 A1 _ c2 _ c1 bs _ rfl rfl (by omega) ?_ ?_).mono ?_
  · exact (Rd.own O2.out).next (below_new w2 _)
  · exact (Rd.own P1.out).next (below_new w2 _)
  rintro e w3 ⟨rfl, hb3⟩
  have B3 := Lib.hid (bthen B2.out (bthen (below_new w2 _) hb3))
  have Y1 := Lib.hid ((X1.out.below (below_new w2 _) z1).below hb3 (by simp; omega))
  have Y2 := Lib.hid ((FBox.new w2 27 wd hg (.slice A2 bs.length c2)).below hb3 (by simp))
  have P3 := Lib.hid (own_next P1.out (bthen (below_new w2 _) hb3))
  have O3 := Lib.hid (own_next O2.out (bthen (below_new w2 _) hb3))
  have L2 : Hid (∀ k, (Value.slice A2 bs.length c2).ownBlock = some k → k < w2.heap.size) := fun k hk => (O2.out.lt k hk).2
  have z3 : w2.heap.size < w3.heap.size := by have := hb3.size; simp at this; omega
  clear hb3 B2 X1 P1 O2 x0 x1 x2
  obtain ⟨y0, y1, y2⟩ := Y2.out
  go_wp2_with fail
  refine (markField_any wd hg A2 _ c2 1 _ _ w3 ?_ (by omega) O3.out).mono ?_
  · omega
  rintro e w4 ⟨rfl, ho4, hg4⟩
  have B4 := Lib.hid (B3.out.grown hg4 B3.out.size (fun k hk => by have := (O3.out.lt k hk).1; have := hBw.out; omega))
  have Z1 := Lib.hid (Y1.out.grown hg4 (by omega) (blk_ne_of_own O3.out (by omega)))
  have Z2 := Lib.hid (Y2.out.grown hg4 z3 (fun he => by have := L2.out _ he.symm; omega))
  have P4 := Lib.hid (own_grown P3.out O3.out L1.out hg4)
  have O4 := Lib.hid ho4
  have z4 : w3.heap.size ≤ w4.heap.size := hg4.size
  clear ho4 hg4 B3 Y1 Y2 P3 O3 y0 y1 y2
  obtain ⟨y0, y1, y2⟩ := Z2.out
  go_wp2_with fail
  refine (heldField_any wd hg A2 _ c2 1 w4 (by omega) (Rd.own O4.out)).mono ?_
  rintro e w5 ⟨rfl, hb5⟩
  have B5 := Lib.hid (bthen B4.out hb5)
  have V1 := Lib.hid (Z1.out.below hb5 (by omega))
  have V2 := Lib.hid (Z2.out.below hb5 (by omega))
  have P5 := Lib.hid (own_next P4.out hb5)
  have O5 := Lib.hid (own_next O4.out hb5)
  have z5 := hb5.size
  clear hb5 B4 Z1 Z2 P4 O4 y0 y1 y2
  go_wp2_with fail
  refine (C29.out _).mono ?_
  rintro e w6 ⟨⟨A6, c6, rfl, ho6⟩, hb6⟩
  have B6 := Lib.hid (bthen B5.out hb6)
  have U1 := Lib.hid (V1.out.below hb6 (by omega))
  have U2 := Lib.hid (V2.out.below hb6 (by omega))
  have P6 := Lib.hid (own_next P5.out hb6)
  have O6 := Lib.hid (own_next O5.out hb6)
  have Q6 := Lib.hid ho6
  have z6 := hb6.size
  clear hb6 ho6 B5 V1 V2 P5 O5
  have zz6 : w1.heap.size < w6.heap.size := by omega
  obtain ⟨x0, x1, x2⟩ := U1.out
  go_wp2_with fail
  refine (eqField_same wd hg A6 A1 _ c6 _ c1 bs _ rfl rfl (by omega) ?_ ?_).mono ?_
  · exact (Rd.own Q6.out).next (below_new w6 _)
  · exact (Rd.own P6.out).next (below_new w6 _)
  rintro e w7 ⟨rfl, hb7⟩
  have B7 := Lib.hid (bthen B6.out (bthen (below_new w6 _) hb7))
  have T2 := Lib.hid ((U2.out.below (below_new w6 _) (by omega)).below hb7 (by simp; omega))
  have O7 := Lib.hid (own_next O6.out (bthen (below_new w6 _) hb7))
  clear hb7 B6 U1 U2 P6 O6 Q6 x0 x1 x2
  obtain ⟨y0, y1, y2⟩ := T2.out
  go_wp2_with fail
  refine (heldField_any wd hg A2 _ c2 1 w7 (by omega) (Rd.own O7.out)).mono ?_
  rintro e w8 ⟨rfl, hb8⟩
  have B8 := Lib.hid (bthen B7.out hb8)
  clear hb8 B7 T2 O7 y0 y1 y2
  go_wp2
  go_ret
  exact ⟨rfl, B8.out⟩


theorem lawDrawnField (wd hg : Int) (x : Nat) (s : Int) (w : World) : Calls Try.prog 8 #[.int .i64 wd, .int .i64 hg, .float .f32 x, .int .i64 s] w fun e w' => e = .returned (.bool true) ∧ Below w.heap.size w w' := by
  by_cases h : drawOk wd hg x s = true
  · have h' := h
    unfold drawOk at h'
    simp only [Bool.and_eq_true] at h'
    obtain ⟨hs, hx, hq⟩ := h'
    have hs' := sidesB_iff.1 hs
    have hq' := inB_iff.1 hq
    obtain ⟨p1, p2⟩ := prod_bd hs'.1.1 hs'.1.2 hs'.2.1 hs'.2.2
    have hn : (((wd * hg).toNat : Nat) : Int) = wd * hg := by omega
    obtain ⟨r, hr⟩ := share_mul hx
    exact lawDrawn_of wd hg x s wd hg _ (dcells r s (wd * hg).toNat) true (by rw [dcells_len]; omega) (fun W => specDrawnField_yes wd hg _ x s r W hs hn hx hq'.1 hq'.2 hr) (fun W => drawnField_yes wd hg _ x s r W hs hn hx hq'.1 hq'.2 hr) w
  · exact lawDrawn_of wd hg x s 0 0 0 [] false (by simp) (fun W => specDrawnField_no wd hg x s W h) (fun W => drawnField_no wd hg x s W h) w
end Go.Proofs.Ytbefcfdmaafghaa
