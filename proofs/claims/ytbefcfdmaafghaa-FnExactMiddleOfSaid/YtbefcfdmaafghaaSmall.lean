/- The small functions of the field laws: bounds, copies of a list of bools, their comparison. -/
import Derived.Test.YtbefcfdmaafghaaWords
namespace Go.Proofs.Ytbefcfdmaafghaa
open Go.RowKit

/-- low to high -/
def inB (n lo hi : Int) : Bool := decide (lo ≤ n ∧ n ≤ hi)
theorem inB_t {n lo hi : Int} (h1 : lo ≤ n) (h2 : n ≤ hi) : inB n lo hi = true := by simp [inB, h1, h2]
theorem inB_f {n lo hi : Int} (h : ¬ (lo ≤ n ∧ n ≤ hi)) : inB n lo hi = false := by simp only [inB, decide_eq_false_iff_not]; exact h

set_option maxHeartbeats 400000 in
theorem within_any (n lo hi : Int) (w : World) :
    Calls Try.prog 105 #[.int .i64 n, .int .i64 lo, .int .i64 hi] w fun e w' => e = .returned (.bool (inB n lo hi)) ∧ w = w' := by
  by_cases h1 : lo ≤ n <;> by_cases h2 : n ≤ hi
  all_goals
    go_enter Try.func105, Try.ntmps105
    go_wp2
    go_ret
    exact ⟨ret_bool (by simp [inB]; omega), rfl⟩

set_option maxHeartbeats 400000 in
theorem l00In_any (n lo hi : Int) (w : World) :
    Calls Try.prog 98 #[.int .i64 n, .int .i64 lo, .int .i64 hi] w fun e w' => e = .returned (.bool (inB n lo hi)) ∧ w = w' := by
  by_cases h1 : lo ≤ n <;> by_cases h2 : n ≤ hi
  all_goals
    go_enter Try.func98, Try.ntmps98
    go_wp2
    go_ret
    exact ⟨ret_bool (by simp [inB]; omega), rfl⟩

set_option maxHeartbeats 1000000 in
theorem toBoolS_any (A : Option Addr) (n c : Nat) (bs : List Bool) (w : World) (hn : bs.length = n) (hc : n ≤ 140737488351232) (hr : Rd w w.heap.size A (bs.map Value.bool)) :
    Calls Try.prog 25 #[.slice A n c] w fun e w' => e = .returned (.slice (some ⟨w.heap.size, 0, none⟩) n n) ∧
      w'.ownsRow w.heap.size 4 1 (.slice (some ⟨w.heap.size, 0, none⟩) n n) n (bs.map Value.bool) ∧ Below w.heap.size w w' := by
  obtain ⟨i0, hi, hz0, hz1, hz2⟩ := info_parts Try.info4
  have Hn := Lib.hid hn; clear hn
  go_enter Try.func25, Try.ntmps25
  go_wp2_with (at_make; refine wpList_make_full _ rfl _ _ 22 rfl w.heap.size 4 i0 (.bool false) 1 Try.underlying22 hi hz0 hz1 _ _ _ _ n rfl rfl rfl rfl ?_ ?_ ?_ ?_)
  · rw [hz2]; omega
  · unfold maxLen; omega
  · exact Nat.le_refl _
  · intro w1 hown hgrow
    have HB := (Below.refl w.heap.size w).grown hgrow (Nat.le_refl _) (fun k hk => by cases hk)
    clear hgrow
    have HO : w1.ownsRow w.heap.size 4 1 (.slice (some ⟨w.heap.size, 0, none⟩) n n) n (((bs.take 0).map Value.bool) ++ List.replicate (n - 0) (.bool false)) := by
      simpa [toList_madeCells_one, Value.cells] using hown
    clear hown
    go_wp2
    go_loopw [4] (fun i wr => ∃ k : Nat, k ≤ n ∧ i = .int .i64 k ∧ wr.ownsRow w.heap.size 4 1 (.slice (some ⟨w.heap.size, 0, none⟩) n n) n (((bs.take k).map Value.bool) ++ List.replicate (n - k) (.bool false)) ∧ Below w.heap.size w wr) (fun i _ => n - (intOf i).toNat)
    case atStart => exact ⟨0, Nat.zero_le _, rfl, HO, HB⟩
    case round =>
      obtain ⟨k, hk, rfl, ho, hb⟩ := hrel
      by_cases hlt : k < n
      · obtain ⟨ad, rfl, hab, hcell⟩ := (hr.below hb).at_ (k := k) (by rw [List.length_map, Hn.out]; exact hlt)
        have hkl : k < bs.length := by rw [Hn.out]; exact hlt
        rw [List.getElem_map] at hcell
        have hst : wr.cell? ⟨w.heap.size, k, none⟩ = some ((((bs.take k).map Value.bool) ++ List.replicate (n - k) (.bool false))[k]'(by rw [List.length_append, List.length_map, List.length_take, List.length_replicate]; omega)) := by
          rw [ho.cellAt k (by omega)]; exact List.getElem?_eq_getElem _
        have hfz := ho.frozenAt k
        have hs := (ho.stored k (.bool bs[k])).1
        rw [show n - k = bs.length - k from by rw [Hn.out], fill_step Value.bool (.bool false) bs k hkl, Hn.out] at hs
        have hb2 := hb.setCell (p := ⟨w.heap.size, k, none⟩) (Nat.le_refl _) (.bool bs[k])
        have HS := Lib.hid hs; clear hs
        have HB2 := Lib.hid hb2; clear hb2
        clear HO HB
        go_wp2
        go_roundw
        case rel => exact ⟨k + 1, by omega, by go_num, HS.out, HB2.out⟩
        case measure => simp [intOf]; omega
      · go_wp2
        go_ret
        have : k = n := by omega
        subst this
        rw [List.take_of_length_le (by rw [Hn.out]; omega), Nat.sub_self, List.replicate_zero, List.append_nil] at ho
        exact ⟨rfl, ho, hb⟩

theorem take_snoc_ne {α : Type} {xs ys : List α} {k : Nat} (h1 : k < xs.length) (h2 : k < ys.length) (hne : xs[k] ≠ ys[k]) : xs ≠ ys := by
  rintro rfl; exact hne rfl
theorem take_snoc_eq {α : Type} {xs ys : List α} {k : Nat} (h : xs.take k = ys.take k) (h1 : k < xs.length) (h2 : k < ys.length) (he : xs[k] = ys[k]) : xs.take (k + 1) = ys.take (k + 1) := by
  rw [List.take_succ_eq_append_getElem h1, List.take_succ_eq_append_getElem h2, h, he]
/-- two lists of bools are the same -/
def sameL (xs ys : List Bool) : Bool := decide (xs = ys)
theorem sameL_self (xs : List Bool) : sameL xs xs = true := by simp [sameL]
theorem sameL_ne {xs ys : List Bool} (h : xs ≠ ys) : sameL xs ys = false := by simpa [sameL] using h

set_option maxHeartbeats 1000000 in
theorem eqBoolS_any (A A' : Option Addr) (n c n' c' : Nat) (xs ys : List Bool) (w : World) (hn : xs.length = n) (hn' : ys.length = n') (hc : n ≤ 140737488351232) (hc' : n' ≤ 140737488351232)
    (hr : Rd w w.heap.size A (xs.map Value.bool)) (hr' : Rd w w.heap.size A' (ys.map Value.bool)) :
    Calls Try.prog 27 #[.slice A n c, .slice A' n' c'] w fun e w' => e = .returned (.bool (sameL xs ys)) ∧ ∃ m, w' = w.drewN m := by
  by_cases hl : n = n'
  · subst hl
    have Hn := Lib.hid hn; clear hn
    have Hn' := Lib.hid hn'; clear hn'
    go_enter Try.func27, Try.ntmps27
    go_wp2
    go_loopw [5] (fun i wr => ∃ k : Nat, k ≤ n ∧ i = .int .i64 k ∧ xs.take k = ys.take k ∧ ∃ m, wr = w.drewN m) (fun i _ => n - (intOf i).toNat)
    case atStart => exact ⟨0, Nat.zero_le _, rfl, rfl, 0, rfl⟩
    case round =>
      obtain ⟨k, hk, rfl, ht, m, rfl⟩ := hrel
      have HT := Lib.hid ht; clear ht
      by_cases hlt : k < n
      · have hka : k < xs.length := by rw [Hn.out]; exact hlt
        have hkb : k < ys.length := by rw [Hn'.out]; exact hlt
        obtain ⟨ad, rfl, hab, hcell⟩ := hr.at_ (k := k) (by rw [List.length_map]; exact hka)
        obtain ⟨ad', rfl, hab', hcell'⟩ := hr'.at_ (k := k) (by rw [List.length_map]; exact hkb)
        rw [List.getElem_map] at hcell hcell'
        by_cases hx : xs[k] = ys[k]
        · have hbb : (xs[k] == ys[k]) = true := by simp [hx]
          have HX := Lib.hid hx; clear hx
          go_wp2
          go_quiet (fail)
          go_wp2
          go_roundw
          case rel => exact ⟨k + 1, by omega, by go_num, take_snoc_eq HT.out hka hkb HX.out, _, rfl⟩
          case measure => simp [intOf]; omega
        · have hbb : (xs[k] == ys[k]) = false := by simp [hx]
          have HX := Lib.hid (sameL_ne (take_snoc_ne hka hkb hx)); clear hx
          go_wp2
          go_quiet (fail)
          go_wp2
          go_ret
          exact ⟨ret_bool HX.out.symm, _, World.drewN_drewN ..⟩
      · go_wp2
        go_ret
        have : k = n := by omega
        subst this
        have h1 := HT.out
        rw [List.take_of_length_le (by rw [Hn.out]; omega), List.take_of_length_le (by rw [Hn'.out]; omega)] at h1
        exact ⟨ret_bool (by rw [h1, sameL_self]), _, rfl⟩
  · have hne : sameL xs ys = false := sameL_ne (by rintro rfl; omega)
    have HX := Lib.hid hne; clear hne
    clear hn hn' hr hr'
    go_enter Try.func27, Try.ntmps27
    go_wp2
    go_ret
    exact ⟨ret_bool HX.out.symm, 0, rfl⟩
end Go.Proofs.Ytbefcfdmaafghaa
