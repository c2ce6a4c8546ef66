/- The law FnExactTailSlope answers true, whatever its arguments. -/
import Derived.Test.YtcpimcjmckljfaaTailI
import Derived.Test.YtcpimcjmckljfaaTailS
import Derived.Test.YtcpimcjmckljfaaInts
namespace Go.Proofs.Ytcpimcjmckljfaa
open Go.RowKit
set_option maxHeartbeats 4000000 in
set_option maxRecDepth 100000 in
theorem lawTailSlope (A0 : Option Addr) (n0 c0 : Nat) (xs0 : List Nat) (z1 : Int) (w : World) (hn0 : xs0.length = n0) (hm0 : n0 ≤ 9223372036854775807) (hr0 : Rd w w.heap.size A0 (xs0.map (Value.float .f32))) (hz1 : -9223372036854775808 ≤ z1 ∧ z1 ≤ 9223372036854775807) :
    Calls Try.prog 11 #[.slice A0 n0 c0, .int .i64 z1] w fun e w' => e = .returned (.bool true) ∧ Below w.heap.size w w' := by
  have Hr0 := Lib.hid hr0; clear hr0
  have Hn0 := Lib.hid hn0; clear hn0
  obtain ⟨z0_1, z1_1⟩ := hz1
  by_cases hl0 : n0 ≤ 1048576
  · have hd0 : ¬ ((1048576 : Int) < (n0 : Int)) := by omega
    go_enter Try.func11, Try.ntmps11
    go_wp2_with fail
    refine (toFloat32S_any A0 n0 c0 xs0 _ Hn0.out (by omega) Hr0.out).mono ?_
    rintro e w1 ⟨rfl, ho1, hb1⟩
    have B1 := Lib.hid hb1
    have O0_1 := Lib.hid ho1
    clear hb1 ho1
    go_wp2_with fail
    refine (specTail_any _ n0 n0 xs0 z1 _ Hn0.out hl0 (Rd.own O0_1.out) ⟨z0_1, z1_1⟩).mono ?_
    rintro e w2 ⟨rfl, hb2⟩
    have B2 := Lib.hid (bthen B1.out hb2)
    clear hb2
    obtain ⟨r, hrr⟩ : ∃ r, r = tailR xs0 z1 := ⟨_, rfl⟩
    obtain ⟨bb, hbb⟩ : ∃ bb, bb = tailB xs0 z1 := ⟨_, rfl⟩
    have hnum : nanF .f32 r = false := by rw [hrr]; exact tailR_num _ _
    obtain ⟨hwd, hwn⟩ := wid_num hnum
    have hcv : ∀ w, (convert 23 28 (.float .f32 r)).run Try.prog w = .ok (.float .f64 (wid r)) w := fun w => run_convert_float_float w 23 28 .f32 .f64 r _ (by rw [Try.underlying23]; rfl) Try.underlying28 hwd
    have HSF := Lib.hid (fun W => sameFloat_self (wid r) W hwn)
    have hne : (bb != bb) = false := by simp
    have HRR := Lib.hid (And.intro hrr hbb)
    rw [← hrr, ← hbb]
    clear hnum hwd hwn hrr hbb
    go_wp2_with fail
    refine (toFloat32S_any A0 n0 c0 xs0 _ Hn0.out (by omega) (Hr0.out.next B2.out)).mono ?_
    rintro e w3 ⟨rfl, ho3, hb3⟩
    have B3 := Lib.hid (bthen B2.out hb3)
    have O0_3 := Lib.hid ho3
    clear hb3 ho3
    have C4 := tailSlope_any _ n0 n0 xs0 z1 _ Hn0.out hl0 (Rd.own O0_3.out) ⟨z0_1, z1_1⟩
    rw [← HRR.out.1, ← HRR.out.2] at C4
    have HC4 := Lib.hid C4; clear C4
    go_wp2_with fail
    refine HC4.out.mono ?_
    rintro e w4 ⟨rfl, hb4⟩
    have B4 := Lib.hid (bthen B3.out hb4)
    have O0_4 := Lib.hid (own_next O0_3.out hb4)
    clear hb4
    go_wp2_with (go_at_call 16; refine (HSF.out _).mono ?_; rintro e w' ⟨rfl, rfl⟩)
    refine (toFloat32S_any A0 n0 c0 xs0 _ Hn0.out (by omega) (Hr0.out.next B4.out)).mono ?_
    rintro e w5 ⟨rfl, ho5, hb5⟩
    have B5 := Lib.hid (bthen B4.out hb5)
    have O0_5 := Lib.hid (own_next O0_4.out hb5)
    have P5 := Lib.hid ho5
    clear hb5 ho5
    go_wp2_with fail
    refine (eqFloat32S_same _ _ n0 _ n0 _ xs0 _ Hn0.out Hn0.out (by omega) (Rd.own O0_5.out) (Rd.own P5.out)).mono ?_
    rintro e w6 ⟨rfl, hb6⟩
    have B6 := Lib.hid (bthen B5.out hb6)
    have O0_6 := Lib.hid (own_next O0_5.out hb6)
    clear hb6
    go_wp2
    go_ret
    exact ⟨rfl, B6.out⟩
  · have hd0 : (1048576 : Int) < (n0 : Int) := by omega
    go_enter Try.func11, Try.ntmps11
    go_wp2
    go_ret
    exact ⟨rfl, Below.refl _ _⟩
end Go.Proofs.Ytcpimcjmckljfaa
