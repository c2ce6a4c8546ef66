/- slices.IndexFunc and slices.ContainsFunc of ints and of floats, for whatever predicate that turns nothing. -/
import Derived.Test.YtbefcfdmaafghaaSmall
import Derived.Shelf.Abstract
namespace Go.Proofs.Ytbefcfdmaafghaa
open Go.RowKit
theorem any_step {α : Type} {xs : List α} {p : α → Bool} {k : Nat} (hk : k < xs.length) (h : (xs.take k).any p = false) (hx : p xs[k] = false) : (xs.take (k + 1)).any p = false := by
  rw [List.take_succ_eq_append_getElem hk, List.any_append, h]
  simp [hx]
theorem any_found {α : Type} {xs : List α} {p : α → Bool} {k : Nat} (hk : k < xs.length) (hx : p xs[k] = true) : xs.any p = true :=
  List.any_eq_true.2 ⟨_, List.getElem_mem hk, hx⟩
theorem any_none {α : Type} {xs : List α} {p : α → Bool} {k : Nat} (hk : xs.length ≤ k) (h : (xs.take k).any p = false) : xs.any p = false := by
  rwa [List.take_of_length_le hk] at h
/-- e is a place, or -1 if there is none -/
def FoundI (b : Bool) (e : Ending) : Prop := ∃ r : Int, e = .returned (.int .i64 r) ∧ decide (0 ≤ r) = b

set_option maxHeartbeats 1000000 in
theorem indexFunc_i64 (g : Nat) (lb : Array Value) (eg : ∀ args w, (callFunc g args).run Try.prog w = .ok (.enter g args) w) (p : Int → Bool) (A : Option Addr) (n c : Nat) (xs : List Int) (w : World) (hn : xs.length = n) (hm : n ≤ 140737488351232)
    (hr : Rd w w.heap.size A (xs.map (Value.int .i64))) (hp : ∀ (W : World) (x : Int), x ∈ xs → Below w.heap.size w W → Calls Try.prog g (#[(Value.int .i64) x] ++ lb) W fun e w' => e = .returned (.bool (p x)) ∧ Below W.heap.size W w') :
    Calls Try.prog 142 #[.slice A n c, .func (.func g) #[] lb] w fun e w' => FoundI (xs.any p) e ∧ Below w.heap.size w w' := by
  have Hn := Lib.hid hn; clear hn
  have Hr := Lib.hid hr; clear hr
  have HP := Lib.hid hp; clear hp
  go_enter Try.func142, Try.ntmps142
  go_wp2
  go_loopw [5, 8] (fun _ i wr => ∃ k : Nat, k ≤ n ∧ i = .int .i64 k ∧ Hid ((xs.take k).any p = false) ∧ Below w.heap.size w wr) (fun _ i _ => n - (intOf i).toNat)
  case atStart => exact ⟨0, Nat.zero_le _, rfl, Lib.hid rfl, Below.refl _ _⟩
  case round =>
    obtain ⟨k, hk, rfl, HA, hb⟩ := hrel
    have HB := Lib.hid hb; clear hb
    by_cases hlt : k < n
    · have hka : k < xs.length := by rw [Hn.out]; exact hlt
      obtain ⟨ad, rfl, _, hcell⟩ := (Hr.out.below HB.out).at_ (k := k) (by rw [List.length_map]; exact hka)
      rw [List.getElem_map] at hcell
      have hc := HP.out wr xs[k] (List.getElem_mem hka) HB.out
      obtain ⟨x, hx⟩ : ∃ x, x = xs[k] := ⟨_, rfl⟩
      rw [← hx] at hcell hc
      cases hq : p x
      · have HS := Lib.hid (any_step hka HA.out (by rw [← hx]; exact hq))
        rw [hq] at hc
        have HC := Lib.hid hc
        clear hc hq hx
        go_wp2_with (go_at_fn g; refine HC.out.mono ?_; rintro e w' ⟨rfl, hb⟩)
        have HB2 := Lib.hid (HB.out.trans (hb.mono HB.out.size)); clear hb
        go_wp2
        go_roundw
        case rel => exact ⟨k + 1, by omega, by go_num, HS.out, HB2.out⟩
        case measure => simp [intOf]; omega
      · have HS := Lib.hid (any_found (p := p) hka (by rw [← hx]; exact hq))
        rw [hq] at hc
        have HC := Lib.hid hc
        clear hc hq hx
        go_wp2_with (go_at_fn g; refine HC.out.mono ?_; rintro e w' ⟨rfl, hb⟩)
        have HB2 := Lib.hid (HB.out.trans (hb.mono HB.out.size)); clear hb
        go_wp2
        go_ret
        exact ⟨⟨(k : Int), rfl, by rw [HS.out]; simp⟩, HB2.out⟩
    · have HS := Lib.hid (any_none (p := p) (k := k) (show xs.length ≤ k by rw [Hn.out]; omega) HA.out)
      go_wp2
      go_ret
      exact ⟨⟨-1, rfl, by rw [HS.out]; simp⟩, HB.out⟩
set_option maxHeartbeats 1000000 in
theorem containsFunc_i64 (g : Nat) (lb : Array Value) (eg : ∀ args w, (callFunc g args).run Try.prog w = .ok (.enter g args) w) (p : Int → Bool) (A : Option Addr) (n c : Nat) (xs : List Int) (w : World) (hn : xs.length = n) (hm : n ≤ 140737488351232)
    (hr : Rd w w.heap.size A (xs.map (Value.int .i64))) (hp : ∀ (W : World) (x : Int), x ∈ xs → Below w.heap.size w W → Calls Try.prog g (#[(Value.int .i64) x] ++ lb) W fun e w' => e = .returned (.bool (p x)) ∧ Below W.heap.size W w') :
    Calls Try.prog 125 #[.slice A n c, .func (.func g) #[] lb] w fun e w' => e = .returned (.bool (xs.any p)) ∧ Below w.heap.size w w' := by
  have HC := Lib.hid (indexFunc_i64 g lb eg p A n c xs w hn hm hr hp)
  clear hn hr hp
  go_enter Try.func125, Try.ntmps125
  go_wp2_with fail
  refine HC.out.mono ?_
  rintro e w' ⟨⟨r, rfl, hd⟩, hb⟩
  have HB := Lib.hid hb; clear hb
  have HD := Lib.hid hd; clear hd
  go_wp2
  go_ret
  exact ⟨ret_bool HD.out, HB.out⟩

set_option maxHeartbeats 1000000 in
theorem indexFunc_f32 (g : Nat) (lb : Array Value) (eg : ∀ args w, (callFunc g args).run Try.prog w = .ok (.enter g args) w) (p : Nat → Bool) (A : Option Addr) (n c : Nat) (xs : List Nat) (w : World) (hn : xs.length = n) (hm : n ≤ 140737488351232)
    (hr : Rd w w.heap.size A (xs.map (Value.float .f32))) (hp : ∀ (W : World) (x : Nat), x ∈ xs → Below w.heap.size w W → Calls Try.prog g (#[(Value.float .f32) x] ++ lb) W fun e w' => e = .returned (.bool (p x)) ∧ Below W.heap.size W w') :
    Calls Try.prog 149 #[.slice A n c, .func (.func g) #[] lb] w fun e w' => FoundI (xs.any p) e ∧ Below w.heap.size w w' := by
  have Hn := Lib.hid hn; clear hn
  have Hr := Lib.hid hr; clear hr
  have HP := Lib.hid hp; clear hp
  go_enter Try.func149, Try.ntmps149
  go_wp2
  go_loopw [5, 8] (fun _ i wr => ∃ k : Nat, k ≤ n ∧ i = .int .i64 k ∧ Hid ((xs.take k).any p = false) ∧ Below w.heap.size w wr) (fun _ i _ => n - (intOf i).toNat)
  case atStart => exact ⟨0, Nat.zero_le _, rfl, Lib.hid rfl, Below.refl _ _⟩
  case round =>
    obtain ⟨k, hk, rfl, HA, hb⟩ := hrel
    have HB := Lib.hid hb; clear hb
    by_cases hlt : k < n
    · have hka : k < xs.length := by rw [Hn.out]; exact hlt
      obtain ⟨ad, rfl, _, hcell⟩ := (Hr.out.below HB.out).at_ (k := k) (by rw [List.length_map]; exact hka)
      rw [List.getElem_map] at hcell
      have hc := HP.out wr xs[k] (List.getElem_mem hka) HB.out
      obtain ⟨x, hx⟩ : ∃ x, x = xs[k] := ⟨_, rfl⟩
      rw [← hx] at hcell hc
      cases hq : p x
      · have HS := Lib.hid (any_step hka HA.out (by rw [← hx]; exact hq))
        rw [hq] at hc
        have HC := Lib.hid hc
        clear hc hq hx
        go_wp2_with (go_at_fn g; refine HC.out.mono ?_; rintro e w' ⟨rfl, hb⟩)
        have HB2 := Lib.hid (HB.out.trans (hb.mono HB.out.size)); clear hb
        go_wp2
        go_roundw
        case rel => exact ⟨k + 1, by omega, by go_num, HS.out, HB2.out⟩
        case measure => simp [intOf]; omega
      · have HS := Lib.hid (any_found (p := p) hka (by rw [← hx]; exact hq))
        rw [hq] at hc
        have HC := Lib.hid hc
        clear hc hq hx
        go_wp2_with (go_at_fn g; refine HC.out.mono ?_; rintro e w' ⟨rfl, hb⟩)
        have HB2 := Lib.hid (HB.out.trans (hb.mono HB.out.size)); clear hb
        go_wp2
        go_ret
        exact ⟨⟨(k : Int), rfl, by rw [HS.out]; simp⟩, HB2.out⟩
    · have HS := Lib.hid (any_none (p := p) (k := k) (show xs.length ≤ k by rw [Hn.out]; omega) HA.out)
      go_wp2
      go_ret
      exact ⟨⟨-1, rfl, by rw [HS.out]; simp⟩, HB.out⟩
set_option maxHeartbeats 1000000 in
theorem containsFunc_f32 (g : Nat) (lb : Array Value) (eg : ∀ args w, (callFunc g args).run Try.prog w = .ok (.enter g args) w) (p : Nat → Bool) (A : Option Addr) (n c : Nat) (xs : List Nat) (w : World) (hn : xs.length = n) (hm : n ≤ 140737488351232)
    (hr : Rd w w.heap.size A (xs.map (Value.float .f32))) (hp : ∀ (W : World) (x : Nat), x ∈ xs → Below w.heap.size w W → Calls Try.prog g (#[(Value.float .f32) x] ++ lb) W fun e w' => e = .returned (.bool (p x)) ∧ Below W.heap.size W w') :
    Calls Try.prog 144 #[.slice A n c, .func (.func g) #[] lb] w fun e w' => e = .returned (.bool (xs.any p)) ∧ Below w.heap.size w w' := by
  have HC := Lib.hid (indexFunc_f32 g lb eg p A n c xs w hn hm hr hp)
  clear hn hr hp
  go_enter Try.func144, Try.ntmps144
  go_wp2_with fail
  refine HC.out.mono ?_
  rintro e w' ⟨⟨r, rfl, hd⟩, hb⟩
  have HB := Lib.hid hb; clear hb
  have HD := Lib.hid hd; clear hd
  go_wp2
  go_ret
  exact ⟨ret_bool HD.out, HB.out⟩
end Go.Proofs.Ytbefcfdmaafghaa
