/- CountCells, both ways: how many cells are full. -/
import Derived.Test.YtbefcfdmaafghaaCopies
namespace Go.Proofs.Ytbefcfdmaafghaa
open Go.RowKit
/-- how many are true -/
def cnt : List Bool → Nat
  | [] => 0
  | b :: r => (if b then 1 else 0) + cnt r
theorem cnt_append (x y : List Bool) : cnt (x ++ y) = cnt x + cnt y := by
  induction x with
  | nil => simp [cnt]
  | cons b r ih => simp only [List.cons_append, cnt, ih]; omega
theorem cnt_le (l : List Bool) : cnt l ≤ l.length := by
  induction l with
  | nil => simp [cnt]
  | cons b r ih => simp only [cnt, List.length_cons]; split <;> omega
theorem cnt_snoc {l : List Bool} {k : Nat} (h : k < l.length) : cnt (l.take (k + 1)) = cnt (l.take k) + if l[k] then 1 else 0 := by
  rw [List.take_succ_eq_append_getElem h, cnt_append]
  simp [cnt]
theorem ret_ib {a a' : Int} {b b' : Bool} (h : a = a') (h' : b = b') : Ending.returned (.tuple #[.int .i64 a, .bool b]) = .returned (.tuple #[.int .i64 a', .bool b']) := by rw [h, h']
def cntR (wd hg : Int) (bs : List Bool) : Int := if vF wd hg bs.length = true then (cnt bs : Int) else 0

set_option maxHeartbeats 2000000 in
theorem countCells_any (wd hg : Int) (A : Option Addr) (n c : Nat) (bs : List Bool) (w : World) (hn : bs.length = n) (hc : n ≤ 140737488351232) (hr : Rd w w.heap.size A (bs.map Value.bool)) :
    Calls Try.prog 35 #[.agg #[.int .i64 wd, .int .i64 hg, .slice A n c]] w fun e w' => e = .returned (.tuple #[.int .i64 (cntR wd hg bs), .bool (vF wd hg bs.length)]) ∧ Below w.heap.size w w' := by
  subst hn
  have Hr := Lib.hid hr; clear hr
  by_cases hv : vF wd hg bs.length = true
  · have hX : cntR wd hg bs = (cnt bs : Int) := by simp [cntR, hv]
    have HX := Lib.hid hX; clear hX
    go_enter Try.func35, Try.ntmps35
    go_wp2_with fail
    refine (validField_any wd hg A _ c _ hc).mono ?_
    rintro e w1 ⟨rfl, hb1⟩
    have B1 := Lib.hid (bthen (below_new w _) hb1)
    have R1 := Lib.hid ((Hr.out.next (below_new w _)).next hb1)
    obtain ⟨k0, k1, k2⟩ := (FBox.new w 27 wd hg (.slice A bs.length c)).below hb1 (by simp)
    clear hb1
    go_wp2
    go_loop [4, 13] (fun s i => ∃ k : Nat, k ≤ bs.length ∧ i = .int .i64 k ∧ s = .int .i64 (cnt (bs.take k))) (fun _ i => bs.length - (intOf i).toNat)
    case atStart => exact ⟨0, Nat.zero_le _, rfl, rfl⟩
    case round =>
      obtain ⟨k, hk, rfl, rfl⟩ := hrel
      have hcl := cnt_le (bs.take k)
      rw [List.length_take] at hcl
      by_cases hlt : k < bs.length
      · obtain ⟨ad, rfl, _, hx⟩ := R1.out.at_ (k := k) (by simpa using hlt)
        rw [List.getElem_map] at hx
        have HS := Lib.hid (cnt_snoc hlt)
        cases hb : bs[k]
        · rw [hb] at hx HS
          clear hb
          go_wp2
          go_round
          case rel => exact ⟨k + 1, by omega, by go_num, by rw [HS.out]; simp⟩
          case measure => simp [intOf]; omega
        · rw [hb] at hx HS
          clear hb
          go_wp2
          go_round
          case rel => exact ⟨k + 1, by omega, by go_num, by rw [HS.out]; simp⟩
          case measure => simp [intOf]; omega
      · have hke : k = bs.length := by omega
        have HK : Hid (cnt (bs.take k) = cnt bs) := by rw [hke, List.take_of_length_le (Nat.le_refl _)]; rfl
        clear hke
        go_wp2
        go_ret2
        exact ⟨ret_ib (by rw [HX.out, HK.out]) (by first | rfl | exact hv.symm), B1.out⟩
  · have hv0 : vF wd hg bs.length = false := by simpa using hv
    have hX : cntR wd hg bs = 0 := by simp [cntR, hv0]
    have HX := Lib.hid hX; clear hX hv
    go_enter Try.func35, Try.ntmps35
    go_wp2_with fail
    refine (validField_any wd hg A _ c _ hc).mono ?_
    rintro e w1 ⟨rfl, hb1⟩
    have B1 := Lib.hid (bthen (below_new w _) hb1); clear hb1
    go_wp2
    go_ret2
    exact ⟨ret_ib HX.out.symm (by first | rfl | exact hv0.symm), B1.out⟩

set_option maxHeartbeats 2000000 in
theorem specCountCells_any (wd hg : Int) (A : Option Addr) (n c : Nat) (bs : List Bool) (w : World) (hn : bs.length = n) (hc : n ≤ 140737488351232) (hr : Rd w w.heap.size A (bs.map Value.bool)) :
    Calls Try.prog 34 #[.agg #[.int .i64 wd, .int .i64 hg, .slice A n c]] w fun e w' => e = .returned (.tuple #[.int .i64 (cntR wd hg bs), .bool (vF wd hg bs.length)]) ∧ Below w.heap.size w w' := by
  subst hn
  have Hr := Lib.hid hr; clear hr
  by_cases hv : vF wd hg bs.length = true
  · have hX : cntR wd hg bs = (cnt bs : Int) := by simp [cntR, hv]
    have HX := Lib.hid hX; clear hX
    go_enter Try.func34, Try.ntmps34
    go_wp2_with fail
    refine (l07Is_any wd hg A _ c w.heap.size _ hc (FBox.new w 27 wd hg (.slice A bs.length c))).mono ?_
    rintro e w1 ⟨rfl, m, rfl⟩
    have B1 := Lib.hid (below_drewN (below_new w (.cells #[.int .i64 wd, .int .i64 hg, .slice A bs.length c] 27)) m)
    have R1 := Lib.hid (Hr.out.next B1.out)
    go_wp2
    go_loop [4, 11] (fun s i => ∃ k : Nat, k ≤ bs.length ∧ i = .int .i64 k ∧ s = .int .i64 (cnt (bs.take k))) (fun _ i => bs.length - (intOf i).toNat)
    case atStart => exact ⟨0, Nat.zero_le _, rfl, rfl⟩
    case round =>
      obtain ⟨k, hk, rfl, rfl⟩ := hrel
      have hcl := cnt_le (bs.take k)
      rw [List.length_take] at hcl
      by_cases hlt : k < bs.length
      · obtain ⟨ad, rfl, hab, hx⟩ := R1.out.at_ (k := k) (by simpa using hlt)
        rw [List.getElem_map] at hx
        have HS := Lib.hid (cnt_snoc hlt)
        cases hb : bs[k]
        · rw [hb] at hx HS
          clear hb
          go_wp2
          go_round
          case rel => exact ⟨k + 1, by omega, by go_num, by rw [HS.out]; simp⟩
          case measure => simp [intOf]; omega
        · rw [hb] at hx HS
          clear hb
          go_wp2
          go_round
          case rel => exact ⟨k + 1, by omega, by go_num, by rw [HS.out]; simp⟩
          case measure => simp [intOf]; omega
      · have hke : k = bs.length := by omega
        have HK : Hid (cnt (bs.take k) = cnt bs) := by rw [hke, List.take_of_length_le (Nat.le_refl _)]; rfl
        clear hke
        go_wp2
        go_ret2
        exact ⟨ret_ib (by rw [HX.out, HK.out]) (by first | rfl | exact hv.symm), B1.out⟩
  · have hv0 : vF wd hg bs.length = false := by simpa using hv
    have hX : cntR wd hg bs = 0 := by simp [cntR, hv0]
    have HX := Lib.hid hX; clear hX hv
    go_enter Try.func34, Try.ntmps34
    go_wp2_with fail
    refine (l07Is_any wd hg A _ c w.heap.size _ hc (FBox.new w 27 wd hg (.slice A bs.length c))).mono ?_
    rintro e w1 ⟨rfl, m, rfl⟩
    have B1 := Lib.hid (below_drewN (below_new w (.cells #[.int .i64 wd, .int .i64 hg, .slice A bs.length c] 27)) m)
    go_wp2
    go_ret2
    exact ⟨ret_ib HX.out.symm (by first | rfl | exact hv0.symm), B1.out⟩
end Go.Proofs.Ytbefcfdmaafghaa
