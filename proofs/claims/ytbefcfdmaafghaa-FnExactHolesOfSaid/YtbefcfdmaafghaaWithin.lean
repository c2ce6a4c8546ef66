/- Lists of ints that increase, and lists of ints that lie between bounds: the program's tests. -/
import Derived.Test.YtbefcfdmaafghaaPred
namespace Go.Proofs.Ytbefcfdmaafghaa
open Go.RowKit
/-- each number of the first k is greater than the one before -/
def IncTo (xs : List Int) (k : Nat) : Prop := ∀ j, j + 1 < k → xs.getD j 0 < xs.getD (j + 1) 0
def incI (xs : List Int) : Bool := (List.range (xs.length - 1)).all fun j => decide (xs.getD j 0 < xs.getD (j + 1) 0)
theorem incI_iff (xs : List Int) : incI xs = true ↔ IncTo xs xs.length := by
  unfold incI IncTo
  rw [List.all_eq_true]
  simp only [List.mem_range, decide_eq_true_eq]
  exact ⟨fun h j hj => h j (by omega), fun h j hj => h j (by omega)⟩
theorem getD_at {xs : List Int} {k : Nat} (h : k < xs.length) : xs.getD k 0 = xs[k] := by simp [List.getD, h]
theorem inc_step {xs : List Int} {k : Nat} (h : IncTo xs (k + 1)) (hk : k + 1 < xs.length) (hx : xs[k] < xs[k + 1]) : IncTo xs (k + 2) := by
  intro j hj
  by_cases e : j = k
  · subst e
    rw [getD_at (by omega), getD_at hk]
    exact hx
  · exact h j (by omega)
theorem inc_one (xs : List Int) : IncTo xs 1 := fun j hj => by omega
theorem inc_zero (xs : List Int) : IncTo xs 0 := fun j hj => by omega
theorem inc_bad {xs : List Int} {k : Nat} (hk : k + 1 < xs.length) (hx : ¬ xs[k] < xs[k + 1]) : incI xs = false := by
  rw [← Bool.not_eq_true, incI_iff]
  intro h
  have := h k hk
  rw [getD_at (by omega), getD_at hk] at this
  exact hx this
theorem inc_good {xs : List Int} {k : Nat} (hk : xs.length ≤ k) (h : IncTo xs k) : incI xs = true := by
  rw [incI_iff]
  exact fun j hj => h j (by omega)

set_option maxHeartbeats 1000000 in
theorem isIncreasing_any (A : Option Addr) (n c : Nat) (xs : List Int) (w : World) (hn : xs.length = n) (hm : n ≤ 1099511627776) (hr : Rd w w.heap.size A (xs.map (Value.int .i64))) :
    Calls Try.prog 99 #[.slice A n c] w fun e w' => e = .returned (.bool (incI xs)) ∧ ∃ m, w' = w.drewN m := by
  have Hn := Lib.hid hn; clear hn
  have Hr := Lib.hid hr; clear hr
  go_enter Try.func99, Try.ntmps99
  go_wp2
  go_loopw [3, 6] (fun _ i wr => ∃ k : Nat, k ≤ n ∧ i = .int .i64 k ∧ Hid (IncTo xs k) ∧ ∃ m, wr = w.drewN m) (fun _ i _ => n - (intOf i).toNat)
  case atStart => exact ⟨0, Nat.zero_le _, rfl, Lib.hid (inc_zero xs), 0, rfl⟩
  case round =>
    obtain ⟨k, hk, rfl, HA, m, rfl⟩ := hrel
    by_cases hlt : k < n
    · rcases k with _ | k
      · go_wp2
        go_quiet (fail)
        go_wp2
        go_roundw
        case rel => exact ⟨1, by omega, by go_num, Lib.hid (inc_one xs), _, rfl⟩
        case measure => simp [intOf]; omega
      · have hka : k + 1 < xs.length := by rw [Hn.out]; exact hlt
        obtain ⟨ad, rfl, hab, hcell⟩ := Hr.out.at_ (k := k + 1) (by rw [List.length_map]; exact hka)
        obtain ⟨ad', had', hab', hcell'⟩ := Hr.out.at_ (k := k) (by rw [List.length_map]; omega)
        obtain rfl : ad' = ad := (Option.some.inj had').symm
        rw [List.getElem_map] at hcell hcell'
        rw [show ad'.add (k + 1) = ⟨ad'.block, ad'.off + (k + 1), none⟩ from by simp [Addr.add]] at hcell
        by_cases hx : xs[k] < xs[k + 1]
        · have HS := Lib.hid (inc_step HA.out hka hx)
          have hd : decide (xs[k + 1] ≤ xs[k]) = false := by simp; omega
          obtain ⟨x, hxe⟩ : ∃ x, x = xs[k] := ⟨_, rfl⟩
          obtain ⟨y, hye⟩ : ∃ y, y = xs[k + 1] := ⟨_, rfl⟩
          rw [← hxe] at hcell' hd
          rw [← hye] at hcell hd
          clear hx hxe hye had'
          have g1 : (k : Int) + 1 < (n : Int) := by omega
          have g3 : (0 : Int) ≤ (k : Int) + 1 := by omega
          have g4 : ((k : Int) + 1).toNat = k + 1 := by omega
          have g2 : IntKind.i64.wrap ((k : Int) + 1 - 1) = (k : Int) := by rw [IntKind.wrap_i64]; omega
          go_wp2
          go_quiet (fail)
          go_wp2
          go_roundw
          case rel => exact ⟨k + 2, by omega, by go_num, HS.out, _, rfl⟩
          case measure => simp [intOf]; omega
        · have HS := Lib.hid (inc_bad hka hx)
          have hd : decide (xs[k + 1] ≤ xs[k]) = true := by simp; omega
          obtain ⟨x, hxe⟩ : ∃ x, x = xs[k] := ⟨_, rfl⟩
          obtain ⟨y, hye⟩ : ∃ y, y = xs[k + 1] := ⟨_, rfl⟩
          rw [← hxe] at hcell' hd
          rw [← hye] at hcell hd
          clear hx hxe hye had'
          have g1 : (k : Int) + 1 < (n : Int) := by omega
          have g3 : (0 : Int) ≤ (k : Int) + 1 := by omega
          have g4 : ((k : Int) + 1).toNat = k + 1 := by omega
          have g2 : IntKind.i64.wrap ((k : Int) + 1 - 1) = (k : Int) := by rw [IntKind.wrap_i64]; omega
          go_wp2
          go_quiet (fail)
          go_wp2
          go_ret
          exact ⟨ret_bool HS.out.symm, _, World.drewN_drewN ..⟩
    · have HS := Lib.hid (inc_good (show xs.length ≤ k by rw [Hn.out]; omega) HA.out)
      go_wp2
      go_ret
      exact ⟨ret_bool HS.out.symm, _, rfl⟩
/-- no number of a list lies outside -/
def rngI (lo hi : Int) (xs : List Int) : Bool := !xs.any fun x => !inB x lo hi
set_option maxHeartbeats 1000000 in
theorem withinFn_any (x lo hi : Int) (b b' : Nat) (W : World) (h0 : W.cell? ⟨b, 0, none⟩ = some (.int .i64 lo)) (h1 : W.cell? ⟨b', 0, none⟩ = some (.int .i64 hi)) :
    Calls Try.prog 126 #[.int .i64 x, .pointer (some ⟨b, 0, none⟩), .pointer (some ⟨b', 0, none⟩)] W fun e w' => e = .returned (.bool (!inB x lo hi)) ∧ Below W.heap.size W w' := by
  go_enter Try.func126, Try.ntmps126
  go_wp2_with fail
  refine (within_any x lo hi _).mono ?_
  rintro e w' ⟨rfl, rfl⟩
  go_wp2
  go_ret
  exact ⟨rfl, Below.refl _ _⟩
set_option maxHeartbeats 1000000 in
theorem areWithin_any (A : Option Addr) (n c : Nat) (xs : List Int) (lo hi : Int) (w : World) (hn : xs.length = n) (hm : n ≤ 140737488351232) (hr : Rd w w.heap.size A (xs.map (Value.int .i64))) :
    Calls Try.prog 100 #[.slice A n c, .int .i64 lo, .int .i64 hi] w fun e w' => e = .returned (.bool (rngI lo hi xs)) ∧ Below w.heap.size w w' := by
  have eg := enters_of (P := Try.prog) Try.func126 (by kernel_rfl) rfl
  have hb0 := bthen (below_new w (.cells #[.int .i64 lo] 2)) (below_new _ (.cells #[.int .i64 hi] 2))
  have C := containsFunc_i64 126 #[.pointer (some ⟨w.heap.size, 0, none⟩), .pointer (some ⟨w.heap.size + 1, 0, none⟩)] eg (fun x => !inB x lo hi) A n c xs ((w.alloc (.cells #[.int .i64 lo] 2)).alloc (.cells #[.int .i64 hi] 2)) hn hm (hr.next hb0)
    (fun W x _ hb => withinFn_any x lo hi _ _ W ((hb.cell (p := ⟨w.heap.size, 0, none⟩) (by simp; omega)).trans (by simp [go_sem])) ((hb.cell (p := ⟨w.heap.size + 1, 0, none⟩) (by simp)).trans (by simp [go_sem])))
  have HC := Lib.hid C
  have HB0 := Lib.hid hb0
  clear C hb0 hr hn eg
  have hmf : ∀ (fn : Fn) (first cap : Array Value) (w : World), (Instr.makeFunc fn first cap).run Try.prog w = .ok (.func fn first cap) w := fun _ _ _ _ => rfl
  go_enter Try.func100, Try.ntmps100
  go_wp2_with fail
  refine HC.out.mono ?_
  rintro e w' ⟨rfl, hb⟩
  have HB := Lib.hid (bthen HB0.out hb); clear hb
  go_wp2
  go_ret
  exact ⟨rfl, HB.out⟩
end Go.Proofs.Ytbefcfdmaafghaa
