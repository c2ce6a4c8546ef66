/- The law FnExactSameShapes answers true, whatever the two rows of shapes. -/
import Derived.Test.YtbefcfdmaafghaaSameShapes
namespace Go.Proofs.Ytbefcfdmaafghaa
open Go.RowKit
theorem keys_len {ss ts : List Sh} (h : ss.map Sh.key = ts.map Sh.key) : ss.length = ts.length := by
  have := congrArg List.length h
  simpa using this
theorem keys_sz {ss ts : List Sh} (h : ss.map Sh.key = ts.map Sh.key) : szN ss = szN ts := by
  have e : ∀ l : List Sh, szN l = ((l.map Sh.key).map fun k => k.1.size + k.2.2.2.length).sum := fun l => by
    unfold szN
    rw [List.map_map]
    rfl
  rw [e, e, h]
theorem keys_same {ss ts ss' ts' : List Sh} (h : ss'.map Sh.key = ss.map Sh.key) (h' : ts'.map Sh.key = ts.map Sh.key) : sameK ss' ts' = sameK ss ts := by
  unfold sameK; rw [h, h']
set_option maxHeartbeats 4000000 in
set_option maxRecDepth 100000 in
theorem lawSameShapes (A A' : Option Addr) (n c n' c' : Nat) (ss ts : List Sh) (w : World) (hn : ss.length = n) (hm : n ≤ 9223372036854775807) (hr : RdS w w.heap.size A ss) (hn' : ts.length = n') (hm' : n' ≤ 9223372036854775807) (hr' : RdS w w.heap.size A' ts) :
    Calls Try.prog 12 #[.slice A n c, .slice A' n' c'] w fun e w' => e = .returned (.bool true) ∧ Below w.heap.size w w' := by
  have Hr := Lib.hid hr; clear hr
  have Hr' := Lib.hid hr'; clear hr'
  have Hn := Lib.hid hn; clear hn
  have Hn' := Lib.hid hn'; clear hn'
  have hneg : (-1 : Int) < 0 := by omega
  by_cases hs : (n : Int) + (szN ss : Int) ≤ 1048576
  · have hpos : ¬ (1048576 - (n : Int) - (szN ss : Int) < 0) := by omega
    by_cases ht : (n' : Int) + (szN ts : Int) ≤ 1048576 - (n : Int) - (szN ss : Int)
    · have hpos' : ¬ (1048576 - (n : Int) - (szN ss : Int) - (n' : Int) - (szN ts : Int) < 0) := by omega
      have n1 : n ≤ 1048576 := by omega
      have n2 : n' ≤ 1048576 := by omega
      have s1 : szN ss ≤ 1048576 := by omega
      have s2 : szN ts ≤ 1048576 := by omega
      go_enter Try.func12, Try.ntmps12
      go_wp2_with fail
      refine (szShapeS_yes A n c ss 1048576 w Hn.out (by omega) hs Hr.out).mono ?_
      rintro e w1 ⟨rfl, hb1⟩
      have B1 := Lib.hid hb1; clear hb1
      go_wp2_with fail
      refine (szShapeS_yes A' n' c' ts _ w1 Hn'.out (by omega) ht (Hr'.out.next B1.out)).mono ?_
      rintro e w2 ⟨rfl, hb2⟩
      have B2 := Lib.hid (bthen B1.out hb2); clear hb2
      go_wp2_with fail
      refine (toShapeS_any A n c ss w2 Hn.out n1 s1 (Hr.out.next B2.out)).mono ?_
      rintro e w3 ⟨⟨g3, ss3, rfl, hr3, hk3⟩, hb3⟩
      have B3 := Lib.hid (bthen B2.out hb3); clear hb3
      have R3 := Lib.hid hr3
      have K3 := Lib.hid hk3
      clear hr3 hk3
      go_wp2_with fail
      refine (toShapeS_any A' n' c' ts w3 Hn'.out n2 s2 (Hr'.out.next B3.out)).mono ?_
      rintro e w4 ⟨⟨g4, ts4, rfl, hr4, hk4⟩, hb4⟩
      have B4 := Lib.hid (bthen B3.out hb4)
      have R34 := Lib.hid (R3.out.next hb4)
      have R4 := Lib.hid hr4
      have K4 := Lib.hid hk4
      clear hr4 hk4 hb4
      go_wp2_with fail
      refine (specSameShapes_any _ _ n _ n' _ ss3 ts4 w4 (by rw [keys_len K3.out]; exact Hn.out) (by rw [keys_len K4.out]; exact Hn'.out) n1 n2 (by rw [keys_sz K3.out]; exact s1) (by rw [keys_sz K4.out]; exact s2) R34.out R4.out).mono ?_
      rintro e w5 ⟨rfl, m5, rfl⟩
      rw [keys_same K3.out K4.out]
      obtain ⟨w5, hw5⟩ : ∃ w5, w5 = w4.drewN m5 := ⟨_, rfl⟩
      rw [← hw5]
      have B5 : Hid (Below w.heap.size w w5) := Lib.hid (by rw [hw5]; exact below_drewN B4.out _)
      clear hw5
      go_wp2_with fail
      refine (toShapeS_any A n c ss w5 Hn.out n1 s1 (Hr.out.next B5.out)).mono ?_
      rintro e w6 ⟨⟨g6, ss6, rfl, hr6, hk6⟩, hb6⟩
      have B6 := Lib.hid (bthen B5.out hb6); clear hb6
      have R6 := Lib.hid hr6
      have K6 := Lib.hid hk6
      clear hr6 hk6
      go_wp2_with fail
      refine (toShapeS_any A' n' c' ts w6 Hn'.out n2 s2 (Hr'.out.next B6.out)).mono ?_
      rintro e w7 ⟨⟨g7, ts7, rfl, hr7, hk7⟩, hb7⟩
      have B7 := Lib.hid (bthen B6.out hb7)
      have R67 := Lib.hid (R6.out.next hb7)
      have R7 := Lib.hid hr7
      have K7 := Lib.hid hk7
      clear hr7 hk7 hb7
      go_wp2_with fail
      refine (sameShapes_any _ _ n _ n' _ ss6 ts7 w7 (by rw [keys_len K6.out]; exact Hn.out) (by rw [keys_len K7.out]; exact Hn'.out) n1 n2 (by rw [keys_sz K6.out]; exact s1) (by rw [keys_sz K7.out]; exact s2) R67.out R7.out).mono ?_
      rintro e w8 ⟨rfl, hb8⟩
      rw [keys_same K6.out K7.out]
      have B8 := Lib.hid (bthen B7.out hb8)
      have R68 := Lib.hid (R67.out.next hb8)
      have R78 := Lib.hid (R7.out.next hb8)
      clear hb8
      obtain ⟨bq, hbq⟩ : ∃ bq, bq = sameK ss ts := ⟨_, rfl⟩
      rw [← hbq]
      clear hbq
      have hbb : (bq != bq) = false := by simp
      go_wp2_with fail
      refine (toShapeS_any A n c ss w8 Hn.out n1 s1 (Hr.out.next B8.out)).mono ?_
      rintro e w9 ⟨⟨g9, ss9, rfl, hr9, hk9⟩, hb9⟩
      have B9 := Lib.hid (bthen B8.out hb9)
      have R69 := Lib.hid (R68.out.next hb9)
      have R79 := Lib.hid (R78.out.next hb9)
      have R9 := Lib.hid hr9
      have K9 := Lib.hid hk9
      clear hr9 hk9 hb9
      go_wp2_with fail
      refine (eqShapeS_same _ _ n _ n _ ss6 ss9 w9 (by rw [keys_len K6.out]; exact Hn.out) rfl (by rw [K6.out, K9.out]) n1 (by rw [keys_sz K6.out]; exact s1) R69.out R9.out).mono ?_
      rintro e w10 ⟨rfl, hb10⟩
      have B10 := Lib.hid (bthen B9.out hb10)
      have R710 := Lib.hid (R79.out.next hb10)
      clear hb10
      go_wp2_with fail
      refine (toShapeS_any A' n' c' ts w10 Hn'.out n2 s2 (Hr'.out.next B10.out)).mono ?_
      rintro e w11 ⟨⟨g11, ts11, rfl, hr11, hk11⟩, hb11⟩
      have B11 := Lib.hid (bthen B10.out hb11)
      have R711 := Lib.hid (R710.out.next hb11)
      have R11 := Lib.hid hr11
      have K11 := Lib.hid hk11
      clear hr11 hk11 hb11
      go_wp2_with fail
      refine (eqShapeS_same _ _ n' _ n' _ ts7 ts11 w11 (by rw [keys_len K7.out]; exact Hn'.out) rfl (by rw [K7.out, K11.out]) n2 (by rw [keys_sz K7.out]; exact s2) R711.out R11.out).mono ?_
      rintro e w12 ⟨rfl, hb12⟩
      have B12 := Lib.hid (bthen B11.out hb12)
      clear hb12
      go_wp2
      go_ret
      exact ⟨rfl, B12.out⟩
    · go_enter Try.func12, Try.ntmps12
      go_wp2_with fail
      refine (szShapeS_yes A n c ss 1048576 w Hn.out (by omega) hs Hr.out).mono ?_
      rintro e w1 ⟨rfl, hb1⟩
      have B1 := Lib.hid hb1; clear hb1
      go_wp2_with fail
      refine (szShapeS_no A' n' c' ts _ w1 Hn'.out hm' (by omega) (by omega) (by omega) (Hr'.out.next B1.out)).mono ?_
      rintro e w2 ⟨rfl, hb2⟩
      have B2 := Lib.hid (bthen B1.out hb2); clear hb2
      go_wp2
      go_ret
      exact ⟨rfl, B2.out⟩
  · go_enter Try.func12, Try.ntmps12
    go_wp2_with fail
    refine (szShapeS_no A n c ss 1048576 w Hn.out hm (by omega) (by omega) (by omega) Hr.out).mono ?_
    rintro e w1 ⟨rfl, hb1⟩
    have B1 := Lib.hid hb1; clear hb1
    go_wp2
    go_ret
    exact ⟨rfl, B1.out⟩
end Go.Proofs.Ytbefcfdmaafghaa
