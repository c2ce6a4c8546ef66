/- Lists of ints that lie between bounds: the program's test. -/
import Derived.Test.YtcpimcjmckljfaaPred
namespace Go.Proofs.Ytcpimcjmckljfaa
open Go.RowKit
/-- no number of a list lies outside -/
def rngI (lo hi : Int) (xs : List Int) : Bool := !xs.any fun x => !inB x lo hi
set_option maxHeartbeats 1000000 in
theorem withinFn_any (x lo hi : Int) (b b' : Nat) (W : World) (h0 : W.cell? ⟨b, 0, none⟩ = some (.int .i64 lo)) (h1 : W.cell? ⟨b', 0, none⟩ = some (.int .i64 hi)) :
    Calls Try.prog 108 #[.int .i64 x, .pointer (some ⟨b, 0, none⟩), .pointer (some ⟨b', 0, none⟩)] W fun e w' => e = .returned (.bool (!inB x lo hi)) ∧ Below W.heap.size W w' := by
  go_enter Try.func108, Try.ntmps108
  go_wp2_with fail
  refine (within_any x lo hi _).mono ?_
  rintro e w' ⟨rfl, rfl⟩
  go_wp2
  go_ret
  exact ⟨rfl, Below.refl _ _⟩
set_option maxHeartbeats 1000000 in
theorem areWithin_any (A : Option Addr) (n c : Nat) (xs : List Int) (lo hi : Int) (w : World) (hn : xs.length = n) (hm : n ≤ 140737488351232) (hr : Rd w w.heap.size A (xs.map (Value.int .i64))) :
    Calls Try.prog 89 #[.slice A n c, .int .i64 lo, .int .i64 hi] w fun e w' => e = .returned (.bool (rngI lo hi xs)) ∧ Below w.heap.size w w' := by
  have eg := enters_of (P := Try.prog) Try.func108 (by kernel_rfl) rfl
  have hb0 := bthen (below_new w (.cells #[.int .i64 lo] 2)) (below_new _ (.cells #[.int .i64 hi] 2))
  have C := containsFunc_i64 108 #[.pointer (some ⟨w.heap.size, 0, none⟩), .pointer (some ⟨w.heap.size + 1, 0, none⟩)] eg (fun x => !inB x lo hi) A n c xs ((w.alloc (.cells #[.int .i64 lo] 2)).alloc (.cells #[.int .i64 hi] 2)) hn hm (hr.next hb0)
    (fun W x _ hb => withinFn_any x lo hi _ _ W ((hb.cell (p := ⟨w.heap.size, 0, none⟩) (by simp; omega)).trans (by simp [go_sem])) ((hb.cell (p := ⟨w.heap.size + 1, 0, none⟩) (by simp)).trans (by simp [go_sem])))
  have HC := Lib.hid C
  have HB0 := Lib.hid hb0
  clear C hb0 hr hn eg
  have hmf : ∀ (fn : Fn) (first cap : Array Value) (w : World), (Instr.makeFunc fn first cap).run Try.prog w = .ok (.func fn first cap) w := fun _ _ _ _ => rfl
  go_enter Try.func89, Try.ntmps89
  go_wp2_with fail
  refine HC.out.mono ?_
  rintro e w' ⟨rfl, hb⟩
  have HB := Lib.hid (bthen HB0.out hb); clear hb
  go_wp2
  go_ret
  exact ⟨rfl, HB.out⟩
end Go.Proofs.Ytcpimcjmckljfaa
