/- The law FnExactMemorySlope answers true, whatever its arguments. -/
import Derived.Test.YtcpimcjmckljfaaMemI
import Derived.Test.YtcpimcjmckljfaaMemS
import Derived.Test.YtcpimcjmckljfaaInts
namespace Go.Proofs.Ytcpimcjmckljfaa
open Go.RowKit
set_option maxHeartbeats 4000000 in
set_option maxRecDepth 100000 in
theorem lawMemorySlope (A0 : Option Addr) (n0 c0 : Nat) (xs0 : List Nat) (A1 : Option Addr) (n1 c1 : Nat) (xs1 : List Int) (w : World) (hn0 : xs0.length = n0) (hm0 : n0 ≤ 9223372036854775807) (hr0 : Rd w w.heap.size A0 (xs0.map (Value.float .f32))) (hn1 : xs1.length = n1) (hm1 : n1 ≤ 9223372036854775807) (hr1 : Rd w w.heap.size A1 (xs1.map (Value.int .i64))) (hw1 : ∀ a ∈ xs1, -9223372036854775808 ≤ a ∧ a ≤ 9223372036854775807) :
    Calls Try.prog 12 #[.slice A0 n0 c0, .slice A1 n1 c1] w fun e w' => e = .returned (.bool true) ∧ Below w.heap.size w w' := by
  have Hr0 := Lib.hid hr0; clear hr0
  have Hn0 := Lib.hid hn0; clear hn0
  have Hr1 := Lib.hid hr1; clear hr1
  have Hn1 := Lib.hid hn1; clear hn1
  have Hw1 := Lib.hid hw1; clear hw1
  by_cases hl0 : n0 ≤ 1048576
  · have hd0 : ¬ ((1048576 : Int) < (n0 : Int)) := by omega
    by_cases hl1 : n1 ≤ 1048576
    · have hd1 : ¬ ((1048576 : Int) < (n1 : Int)) := by omega
      go_enter Try.func12, Try.ntmps12
      go_wp2_with fail
      refine (toFloat32S_any A0 n0 c0 xs0 _ Hn0.out (by omega) Hr0.out).mono ?_
      rintro e w1 ⟨rfl, ho1, hb1⟩
      have B1 := Lib.hid hb1
      have O0_1 := Lib.hid ho1
      clear hb1 ho1
      go_wp2_with fail
      refine (toInt64S_any A1 n1 c1 xs1 _ Hn1.out (by omega) (Hr1.out.next B1.out)).mono ?_
      rintro e w2 ⟨rfl, ho2, hb2⟩
      have B2 := Lib.hid (bthen B1.out hb2)
      have O0_2 := Lib.hid (own_next O0_1.out hb2)
      have O1_2 := Lib.hid ho2
      clear hb2 ho2
      go_wp2_with fail
      refine (specMemory_any _ n0 n0 xs0 _ n1 n1 xs1 _ Hn0.out hl0 (Rd.own O0_2.out) Hn1.out hl1 (Rd.own O1_2.out) Hw1.out (Nat.le_refl _)).mono ?_
      rintro e w3 ⟨rfl, hb3⟩
      have B3 := Lib.hid (bthen B2.out hb3)
      clear hb3
      obtain ⟨r, hrr⟩ : ∃ r, r = memR xs0 xs1 := ⟨_, rfl⟩
      obtain ⟨bb, hbb⟩ : ∃ bb, bb = memB xs0 xs1 := ⟨_, rfl⟩
      have hnum : nanF .f32 r = false := by rw [hrr]; exact memR_num _ _
      obtain ⟨hwd, hwn⟩ := wid_num hnum
      have hcv : ∀ w, (convert 23 28 (.float .f32 r)).run Try.prog w = .ok (.float .f64 (wid r)) w := fun w => run_convert_float_float w 23 28 .f32 .f64 r _ (by rw [Try.underlying23]; rfl) Try.underlying28 hwd
      have HSF := Lib.hid (fun W => sameFloat_self (wid r) W hwn)
      have hne : (bb != bb) = false := by simp
      have HRR := Lib.hid (And.intro hrr hbb)
      rw [← hrr, ← hbb]
      clear hnum hwd hwn hrr hbb
      go_wp2_with fail
      refine (toFloat32S_any A0 n0 c0 xs0 _ Hn0.out (by omega) (Hr0.out.next B3.out)).mono ?_
      rintro e w4 ⟨rfl, ho4, hb4⟩
      have B4 := Lib.hid (bthen B3.out hb4)
      have O0_4 := Lib.hid ho4
      clear hb4 ho4
      go_wp2_with fail
      refine (toInt64S_any A1 n1 c1 xs1 _ Hn1.out (by omega) (Hr1.out.next B4.out)).mono ?_
      rintro e w5 ⟨rfl, ho5, hb5⟩
      have B5 := Lib.hid (bthen B4.out hb5)
      have O0_5 := Lib.hid (own_next O0_4.out hb5)
      have O1_5 := Lib.hid ho5
      clear hb5 ho5
      have C6 := memorySlope_any _ n0 n0 xs0 _ n1 n1 xs1 _ Hn0.out hl0 (Rd.own O0_5.out) Hn1.out hl1 (Rd.own O1_5.out) Hw1.out (Nat.le_refl _)
      rw [← HRR.out.1, ← HRR.out.2] at C6
      have HC6 := Lib.hid C6; clear C6
      go_wp2_with fail
      refine HC6.out.mono ?_
      rintro e w6 ⟨rfl, hb6⟩
      have B6 := Lib.hid (bthen B5.out hb6)
      have O0_6 := Lib.hid (own_next O0_5.out hb6)
      have O1_6 := Lib.hid (own_next O1_5.out hb6)
      clear hb6
      go_wp2_with (go_at_call 16; refine (HSF.out _).mono ?_; rintro e w' ⟨rfl, rfl⟩)
      refine (toFloat32S_any A0 n0 c0 xs0 _ Hn0.out (by omega) (Hr0.out.next B6.out)).mono ?_
      rintro e w7 ⟨rfl, ho7, hb7⟩
      have B7 := Lib.hid (bthen B6.out hb7)
      have O0_7 := Lib.hid (own_next O0_6.out hb7)
      have O1_7 := Lib.hid (own_next O1_6.out hb7)
      have P7 := Lib.hid ho7
      clear hb7 ho7
      go_wp2_with fail
      refine (eqFloat32S_same _ _ n0 _ n0 _ xs0 _ Hn0.out Hn0.out (by omega) (Rd.own O0_7.out) (Rd.own P7.out)).mono ?_
      rintro e w8 ⟨rfl, hb8⟩
      have B8 := Lib.hid (bthen B7.out hb8)
      have O0_8 := Lib.hid (own_next O0_7.out hb8)
      have O1_8 := Lib.hid (own_next O1_7.out hb8)
      clear hb8
      go_wp2_with fail
      refine (toInt64S_any A1 n1 c1 xs1 _ Hn1.out (by omega) (Hr1.out.next B8.out)).mono ?_
      rintro e w9 ⟨rfl, ho9, hb9⟩
      have B9 := Lib.hid (bthen B8.out hb9)
      have O0_9 := Lib.hid (own_next O0_8.out hb9)
      have O1_9 := Lib.hid (own_next O1_8.out hb9)
      have P9 := Lib.hid ho9
      clear hb9 ho9
      go_wp2_with fail
      refine (eqInt64S_same _ _ n1 _ n1 _ xs1 _ Hn1.out Hn1.out (by omega) (Rd.own O1_9.out) (Rd.own P9.out)).mono ?_
      rintro e w' ⟨rfl, m10, rfl⟩
      obtain ⟨w10, hw_10⟩ : ∃ x, x = World.drewN w9 m10 := ⟨_, rfl⟩
      have hb10 : Below w9.heap.size w9 w10 := by rw [hw_10]; exact below_drewN (Below.refl _ _) _
      rw [← hw_10]
      clear hw_10
      have B10 := Lib.hid (bthen B9.out hb10)
      have O0_10 := Lib.hid (own_next O0_9.out hb10)
      have O1_10 := Lib.hid (own_next O1_9.out hb10)
      clear hb10
      go_wp2
      go_ret
      exact ⟨rfl, B10.out⟩
    · have hd1 : (1048576 : Int) < (n1 : Int) := by omega
      go_enter Try.func12, Try.ntmps12
      go_wp2
      go_ret
      exact ⟨rfl, Below.refl _ _⟩
  · have hd0 : (1048576 : Int) < (n0 : Int) := by omega
    go_enter Try.func12, Try.ntmps12
    go_wp2
    go_ret
    exact ⟨rfl, Below.refl _ _⟩
end Go.Proofs.Ytcpimcjmckljfaa
