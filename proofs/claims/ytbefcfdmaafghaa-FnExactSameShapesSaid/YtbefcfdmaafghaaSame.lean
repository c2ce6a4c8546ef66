/- SameField, both ways. -/
import Derived.Test.YtbefcfdmaafghaaCopies
namespace Go.Proofs.Ytbefcfdmaafghaa
open Go.RowKit
set_option maxHeartbeats 1000000 in
theorem slicesEqual_any (A A' : Option Addr) (n c n' c' : Nat) (xs ys : List Bool) (w : World) (hn : xs.length = n) (hn' : ys.length = n') (hc : n ≤ 140737488351232) (hc' : n' ≤ 140737488351232)
    (hr : Rd w w.heap.size A (xs.map Value.bool)) (hr' : Rd w w.heap.size A' (ys.map Value.bool)) :
    Calls Try.prog 82 #[.slice A n c, .slice A' n' c'] w fun e w' => e = .returned (.bool (sameL xs ys)) ∧ ∃ m, w' = w.drewN m := by
  by_cases hl : n = n'
  · subst hl
    have Hn := Lib.hid hn; clear hn
    have Hn' := Lib.hid hn'; clear hn'
    go_enter Try.func82, Try.ntmps82
    go_wp2
    go_loopw [13] (fun i wr => ∃ k : Nat, k ≤ n ∧ i = .int .i64 k ∧ xs.take k = ys.take k ∧ ∃ m, wr = w.drewN m) (fun i _ => n - (intOf i).toNat)
    case atStart => exact ⟨0, Nat.zero_le _, rfl, rfl, 0, rfl⟩
    case round =>
      obtain ⟨k, hk, rfl, ht, m, rfl⟩ := hrel
      have HT := Lib.hid ht; clear ht
      by_cases hlt : k < n
      · have hka : k < xs.length := by rw [Hn.out]; exact hlt
        have hkb : k < ys.length := by rw [Hn'.out]; exact hlt
        obtain ⟨ad, rfl, hab, hcell⟩ := hr.at_ (k := k) (by rw [List.length_map]; exact hka)
        obtain ⟨ad', rfl, hab', hcell'⟩ := hr'.at_ (k := k) (by rw [List.length_map]; exact hkb)
        rw [List.getElem_map] at hcell hcell'
        by_cases hx : xs[k] = ys[k]
        · have hbb : (xs[k] == ys[k]) = true := by simp [hx]
          have HX := Lib.hid hx; clear hx
          go_wp2
          go_quiet (fail)
          go_wp2
          go_roundw
          case rel => exact ⟨k + 1, by omega, by go_num, take_snoc_eq HT.out hka hkb HX.out, _, rfl⟩
          case measure => simp [intOf]; omega
        · have hbb : (xs[k] == ys[k]) = false := by simp [hx]
          have HX := Lib.hid (sameL_ne (take_snoc_ne hka hkb hx)); clear hx
          go_wp2
          go_quiet (fail)
          go_wp2
          go_ret
          exact ⟨ret_bool HX.out.symm, _, World.drewN_drewN ..⟩
      · go_wp2
        go_ret
        have : k = n := by omega
        subst this
        have h1 := HT.out
        rw [List.take_of_length_le (by rw [Hn.out]; omega), List.take_of_length_le (by rw [Hn'.out]; omega)] at h1
        exact ⟨ret_bool (by rw [h1, sameL_self]), _, rfl⟩
  · have hne : sameL xs ys = false := sameL_ne (by rintro rfl; omega)
    have HX := Lib.hid hne; clear hne
    clear hn hn' hr hr'
    go_enter Try.func82, Try.ntmps82
    go_wp2
    go_ret
    exact ⟨ret_bool HX.out.symm, 0, rfl⟩

/-- two fields are the same -/
def sameF (wd hg : Int) (xs : List Bool) (wd' hg' : Int) (ys : List Bool) : Bool := decide (wd = wd' ∧ hg = hg') && sameL xs ys

set_option maxHeartbeats 1000000 in
theorem sameField_any (wd hg wd' hg' : Int) (A A' : Option Addr) (n c n' c' : Nat) (xs ys : List Bool) (w : World) (hn : xs.length = n) (hn' : ys.length = n') (hc : n ≤ 140737488351232) (hc' : n' ≤ 140737488351232)
    (hr : Rd w w.heap.size A (xs.map Value.bool)) (hr' : Rd w w.heap.size A' (ys.map Value.bool)) :
    Calls Try.prog 33 #[.agg #[.int .i64 wd, .int .i64 hg, .slice A n c], .agg #[.int .i64 wd', .int .i64 hg', .slice A' n' c']] w fun e w' => e = .returned (.bool (sameF wd hg xs wd' hg' ys)) ∧ Below w.heap.size w w' := by
  have HR := Lib.hid (hr.next (bthen (below_new w (.cells #[.int .i64 wd, .int .i64 hg, .slice A n c] 27)) (below_new _ (.cells #[.int .i64 wd', .int .i64 hg', .slice A' n' c'] 27))))
  have HR' := Lib.hid (hr'.next (bthen (below_new w (.cells #[.int .i64 wd, .int .i64 hg, .slice A n c] 27)) (below_new _ (.cells #[.int .i64 wd', .int .i64 hg', .slice A' n' c'] 27))))
  clear hr hr'
  have Hn := Lib.hid hn; clear hn
  have Hn' := Lib.hid hn'; clear hn'
  by_cases h1 : wd = wd'
  · by_cases h2 : hg = hg'
    · subst h1; subst h2
      have hX : sameF wd hg xs wd hg ys = sameL xs ys := by simp [sameF]
      have HX := Lib.hid hX; clear hX
      go_enter Try.func33, Try.ntmps33
      go_wp2_with fail
      refine (slicesEqual_any A A' n c n' c' xs ys _ Hn.out Hn'.out hc hc' HR.out HR'.out).mono ?_
      rintro e w1 ⟨rfl, m, rfl⟩
      go_wp2
      go_ret
      exact ⟨ret_bool HX.out.symm, below_drewN (bthen (below_new _ _) (below_new _ _)) _⟩
    · have hb1 : (wd == wd') = true := by simp [h1]
      have hb2 : (hg == hg') = false := by simp [h2]
      have hX : sameF wd hg xs wd' hg' ys = false := by simp [sameF, h2]
      have HX := Lib.hid hX; clear hX h1 h2
      go_enter Try.func33, Try.ntmps33
      go_wp2
      go_ret
      exact ⟨ret_bool HX.out.symm, bthen (below_new _ _) (below_new _ _)⟩
  · have hb1 : (wd == wd') = false := by simp [h1]
    have hX : sameF wd hg xs wd' hg' ys = false := by simp [sameF, h1]
    have HX := Lib.hid hX; clear hX h1
    go_enter Try.func33, Try.ntmps33
    go_wp2
    go_ret
    exact ⟨ret_bool HX.out.symm, bthen (below_new _ _) (below_new _ _)⟩

set_option maxHeartbeats 4000000 in
set_option maxRecDepth 100000 in
theorem l07Same_any (wd hg wd' hg' : Int) (A A' : Option Addr) (n c n' c' b b' : Nat) (xs ys : List Bool) (w : World) (hn : xs.length = n) (hn' : ys.length = n') (hc : n ≤ 140737488351232) (hc' : n' ≤ 140737488351232)
    (hx : FBox w b wd hg (.slice A n c)) (hy : FBox w b' wd' hg' (.slice A' n' c'))
    (hr : Rd w w.heap.size A (xs.map Value.bool)) (hr' : Rd w w.heap.size A' (ys.map Value.bool)) :
    Calls Try.prog 81 #[.pointer (some ⟨b, 0, none⟩), .pointer (some ⟨b', 0, none⟩)] w fun e w' => e = .returned (.bool (sameF wd hg xs wd' hg' ys)) ∧ ∃ m, w' = w.drewN m := by
  obtain ⟨x0, x1, x2⟩ := hx
  obtain ⟨y0, y1, y2⟩ := hy
  by_cases h1 : wd = wd'
  · by_cases h2 : hg = hg'
    · by_cases hl : n = n'
      · subst h1; subst h2; subst hl
        have Hn := Lib.hid hn; clear hn
        have Hn' := Lib.hid hn'; clear hn'
        have hX : sameF wd hg xs wd hg ys = sameL xs ys := by simp [sameF]
        have HXF := Lib.hid hX; clear hX
        go_enter Try.func81, Try.ntmps81
        go_wp2
        go_quiet (fail)
        go_wp2
        go_loopw [44] (fun i wr => ∃ k : Nat, k ≤ n ∧ i = .int .i64 k ∧ xs.take k = ys.take k ∧ ∃ m, wr = w.drewN m) (fun i _ => n - (intOf i).toNat)
        case atStart => exact ⟨0, Nat.zero_le _, rfl, rfl, _, rfl⟩
        case round =>
          obtain ⟨k, hk, rfl, ht, m, rfl⟩ := hrel
          have HT := Lib.hid ht; clear ht
          by_cases hlt : k < n
          · have hka : k < xs.length := by rw [Hn.out]; exact hlt
            have hkb : k < ys.length := by rw [Hn'.out]; exact hlt
            obtain ⟨ad, rfl, hab, hcell⟩ := hr.at_ (k := k) (by rw [List.length_map]; exact hka)
            obtain ⟨ad', rfl, hab', hcell'⟩ := hr'.at_ (k := k) (by rw [List.length_map]; exact hkb)
            rw [List.getElem_map] at hcell hcell'
            by_cases hx : xs[k] = ys[k]
            · have hbb : (xs[k] == ys[k]) = true := by simp [hx]
              have HX := Lib.hid hx; clear hx
              go_wp2
              go_quiet (fail)
              go_wp2
              go_roundw
              case rel => exact ⟨k + 1, by omega, by go_num, take_snoc_eq HT.out hka hkb HX.out, _, rfl⟩
              case measure => simp [intOf]; omega
            · have hbb : (xs[k] == ys[k]) = false := by simp [hx]
              have HX := Lib.hid (sameL_ne (take_snoc_ne hka hkb hx)); clear hx
              go_wp2
              go_quiet (fail)
              go_wp2
              go_ret
              exact ⟨ret_bool (by rw [HXF.out, HX.out]), _, World.drewN_drewN ..⟩
          · go_wp2
            go_ret
            have : k = n := by omega
            subst this
            have h1 := HT.out
            rw [List.take_of_length_le (by rw [Hn.out]; omega), List.take_of_length_le (by rw [Hn'.out]; omega)] at h1
            exact ⟨ret_bool (by rw [HXF.out, h1, sameL_self]), _, rfl⟩
      · subst h1; subst h2
        have hX : sameF wd hg xs wd hg ys = false := by
          have : sameL xs ys = false := sameL_ne (by rintro rfl; omega)
          simp [sameF, this]
        have hb3 : ((n : Int) == (n' : Int)) = false := by rw [beq_eq_false_iff_ne]; omega
        have hb4 : ((n : Int) != (n' : Int)) = true := by rw [bne_iff_ne]; omega
        have HX := Lib.hid hX; clear hX hr hr' hn hn' hl
        go_enter Try.func81, Try.ntmps81
        go_wp2
        go_quiet (fail)
        go_wp2
        go_ret
        exact ⟨ret_bool HX.out.symm, _, rfl⟩
    · subst h1
      have hb2 : (hg == hg') = false := by simp [h2]
      have hb3 : (hg != hg') = true := by simp [h2]
      have hX : sameF wd hg xs wd hg' ys = false := by simp [sameF, h2]
      have HX := Lib.hid hX; clear hX h2 hr hr' hn hn'
      go_enter Try.func81, Try.ntmps81
      go_wp2
      go_quiet (fail)
      go_wp2
      go_ret
      exact ⟨ret_bool HX.out.symm, _, rfl⟩
  · have hb1 : (wd == wd') = false := by simp [h1]
    have hb2 : (wd != wd') = true := by simp [h1]
    have hX : sameF wd hg xs wd' hg' ys = false := by simp [sameF, h1]
    have HX := Lib.hid hX; clear hX h1 hr hr' hn hn'
    go_enter Try.func81, Try.ntmps81
    go_wp2
    go_quiet (fail)
    go_wp2
    go_ret
    exact ⟨ret_bool HX.out.symm, _, rfl⟩
set_option maxHeartbeats 1000000 in
theorem specSameField_any (wd hg wd' hg' : Int) (A A' : Option Addr) (n c n' c' : Nat) (xs ys : List Bool) (w : World) (hn : xs.length = n) (hn' : ys.length = n') (hc : n ≤ 140737488351232) (hc' : n' ≤ 140737488351232)
    (hr : Rd w w.heap.size A (xs.map Value.bool)) (hr' : Rd w w.heap.size A' (ys.map Value.bool)) :
    Calls Try.prog 32 #[.agg #[.int .i64 wd, .int .i64 hg, .slice A n c], .agg #[.int .i64 wd', .int .i64 hg', .slice A' n' c']] w fun e w' => e = .returned (.bool (sameF wd hg xs wd' hg' ys)) ∧ Below w.heap.size w w' := by
  have hb := bthen (below_new w (.cells #[.int .i64 wd, .int .i64 hg, .slice A n c] 27)) (below_new _ (.cells #[.int .i64 wd', .int .i64 hg', .slice A' n' c'] 27))
  have C := l07Same_any wd hg wd' hg' A A' n c n' c' w.heap.size (w.heap.size + 1) xs ys (hn := hn) (hn' := hn') (hc := hc) (hc' := hc') (w := (w.alloc (.cells #[.int .i64 wd, .int .i64 hg, .slice A n c] 27)).alloc (.cells #[.int .i64 wd', .int .i64 hg', .slice A' n' c'] 27))
    (hx := ⟨by simp [go_sem], by simp [go_sem], by simp [go_sem]⟩) (hy := ⟨by simp [go_sem], by simp [go_sem], by simp [go_sem]⟩) (hr := hr.next hb) (hr' := hr'.next hb)
  have HC := Lib.hid C
  clear C hr hr' hn hn' hb
  go_enter Try.func32, Try.ntmps32
  go_wp2_with fail
  refine HC.out.mono ?_
  rintro e w1 ⟨rfl, m, rfl⟩
  go_wp2
  go_ret
  exact ⟨rfl, below_drewN (bthen (below_new _ _) (below_new _ _)) _⟩
end Go.Proofs.Ytbefcfdmaafghaa
