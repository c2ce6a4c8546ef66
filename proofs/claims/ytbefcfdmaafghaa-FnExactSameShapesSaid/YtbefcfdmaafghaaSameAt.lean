/- The comparison of two fields, the reference's way, wherever they lie. -/
import Derived.Test.YtbefcfdmaafghaaSame
namespace Go.Proofs.Ytbefcfdmaafghaa
open Go.RowKit
set_option maxHeartbeats 4000000 in
set_option maxRecDepth 100000 in
theorem l07Same_at (wd hg wd' hg' : Int) (A A' : Option Addr) (n c n' c' b b' o o' : Nat) (xs ys : List Bool) (w : World) (hn : xs.length = n) (hn' : ys.length = n') (hc : n ≤ 140737488351232) (hc' : n' ≤ 140737488351232)
    (x0 : w.cell? ⟨b, o, none⟩ = some (.int .i64 wd)) (x1 : w.cell? ⟨b, o + 1, none⟩ = some (.int .i64 hg)) (x2 : w.cell? ⟨b, o + 2, none⟩ = some (.slice A n c))
    (y0 : w.cell? ⟨b', o', none⟩ = some (.int .i64 wd')) (y1 : w.cell? ⟨b', o' + 1, none⟩ = some (.int .i64 hg')) (y2 : w.cell? ⟨b', o' + 2, none⟩ = some (.slice A' n' c'))
    (hr : Rd w w.heap.size A (xs.map Value.bool)) (hr' : Rd w w.heap.size A' (ys.map Value.bool)) :
    Calls Try.prog 81 #[.pointer (some ⟨b, o, none⟩), .pointer (some ⟨b', o', none⟩)] w fun e w' => e = .returned (.bool (sameF wd hg xs wd' hg' ys)) ∧ ∃ m, w' = w.drewN m := by
  by_cases h1 : wd = wd'
  · by_cases h2 : hg = hg'
    · by_cases hl : n = n'
      · subst h1; subst h2; subst hl
        have Hn := Lib.hid hn; clear hn
        have Hn' := Lib.hid hn'; clear hn'
        have hX : sameF wd hg xs wd hg ys = sameL xs ys := by simp [sameF]
        have HXF := Lib.hid hX; clear hX
        go_enter Try.func81, Try.ntmps81
        go_wp2
        go_quiet (fail)
        go_wp2
        go_loopw [44] (fun i wr => ∃ k : Nat, k ≤ n ∧ i = .int .i64 k ∧ xs.take k = ys.take k ∧ ∃ m, wr = w.drewN m) (fun i _ => n - (intOf i).toNat)
        case atStart => exact ⟨0, Nat.zero_le _, rfl, rfl, _, rfl⟩
        case round =>
          obtain ⟨k, hk, rfl, ht, m, rfl⟩ := hrel
          have HT := Lib.hid ht; clear ht
          by_cases hlt : k < n
          · have hka : k < xs.length := by rw [Hn.out]; exact hlt
            have hkb : k < ys.length := by rw [Hn'.out]; exact hlt
            obtain ⟨ad, rfl, hab, hcell⟩ := hr.at_ (k := k) (by rw [List.length_map]; exact hka)
            obtain ⟨ad', rfl, hab', hcell'⟩ := hr'.at_ (k := k) (by rw [List.length_map]; exact hkb)
            rw [List.getElem_map] at hcell hcell'
            by_cases hx : xs[k] = ys[k]
            · have hbb : (xs[k] == ys[k]) = true := by simp [hx]
              have HX := Lib.hid hx; clear hx
              go_wp2
              go_quiet (fail)
              go_wp2
              go_roundw
              case rel => exact ⟨k + 1, by omega, by go_num, take_snoc_eq HT.out hka hkb HX.out, _, rfl⟩
              case measure => simp [intOf]; omega
            · have hbb : (xs[k] == ys[k]) = false := by simp [hx]
              have HX := Lib.hid (sameL_ne (take_snoc_ne hka hkb hx)); clear hx
              go_wp2
              go_quiet (fail)
              go_wp2
              go_ret
              exact ⟨ret_bool (by rw [HXF.out, HX.out]), _, World.drewN_drewN ..⟩
          · go_wp2
            go_ret
            have : k = n := by omega
            subst this
            have h1 := HT.out
            rw [List.take_of_length_le (by rw [Hn.out]; omega), List.take_of_length_le (by rw [Hn'.out]; omega)] at h1
            exact ⟨ret_bool (by rw [HXF.out, h1, sameL_self]), _, rfl⟩
      · subst h1; subst h2
        have hX : sameF wd hg xs wd hg ys = false := by
          have : sameL xs ys = false := sameL_ne (by rintro rfl; omega)
          simp [sameF, this]
        have hb3 : ((n : Int) == (n' : Int)) = false := by rw [beq_eq_false_iff_ne]; omega
        have hb4 : ((n : Int) != (n' : Int)) = true := by rw [bne_iff_ne]; omega
        have HX := Lib.hid hX; clear hX hr hr' hn hn' hl
        go_enter Try.func81, Try.ntmps81
        go_wp2
        go_quiet (fail)
        go_wp2
        go_ret
        exact ⟨ret_bool HX.out.symm, _, rfl⟩
    · subst h1
      have hb2 : (hg == hg') = false := by simp [h2]
      have hb3 : (hg != hg') = true := by simp [h2]
      have hX : sameF wd hg xs wd hg' ys = false := by simp [sameF, h2]
      have HX := Lib.hid hX; clear hX h2 hr hr' hn hn'
      go_enter Try.func81, Try.ntmps81
      go_wp2
      go_quiet (fail)
      go_wp2
      go_ret
      exact ⟨ret_bool HX.out.symm, _, rfl⟩
  · have hb1 : (wd == wd') = false := by simp [h1]
    have hb2 : (wd != wd') = true := by simp [h1]
    have hX : sameF wd hg xs wd' hg' ys = false := by simp [sameF, h1]
    have HX := Lib.hid hX; clear hX h1 hr hr' hn hn'
    go_enter Try.func81, Try.ntmps81
    go_wp2
    go_quiet (fail)
    go_wp2
    go_ret
    exact ⟨ret_bool HX.out.symm, _, rfl⟩
end Go.Proofs.Ytbefcfdmaafghaa
