/- The law FnExactPackCells answers true, whatever the cells. -/
import Derived.Test.YtbefcfdmaafghaaPackWalk
import Derived.Deep.RegionHeld3
namespace Go.Proofs.Ytbefcfdmaafghaa
open Go.RowKit
/-- both packings give one text -/
def packT (bs : List Bool) : ByteArray := if bs.length ≤ 256 then strOfNums (packL bs) else ⟨#[]⟩
def packOk (bs : List Bool) : Bool := decide (bs.length ≤ 256)
theorem packCells_any (A : Option Addr) (n c : Nat) (bs : List Bool) (w : World) (hn : bs.length = n) (hm : n ≤ 140737488351232) (hr : Rd w w.heap.size A (bs.map Value.bool)) :
    Calls Try.prog 26 #[.slice A n c] w fun e w' => e = .returned (.tuple #[.string (packT bs), .bool (packOk bs)]) ∧ Below w.heap.size w w' := by
  by_cases h : n ≤ 256
  · have e1 : packT bs = strOfNums (packL bs) := by simp [packT, hn, h]
    have e2 : packOk bs = true := by simp [packOk, hn, h]
    rw [e1, e2]
    exact packCells_yes A n c bs w hn h hr
  · have e1 : packT bs = ⟨#[]⟩ := by simp [packT, hn, h]
    have e2 : packOk bs = false := by simp [packOk, hn]; omega
    rw [e1, e2]
    exact packCells_no A n c w (by omega) hm
theorem specPackCells_any (A : Option Addr) (n c : Nat) (bs : List Bool) (w : World) (hn : bs.length = n) (hm : n ≤ 140737488351232) (hr : Rd w w.heap.size A (bs.map Value.bool)) :
    Calls Try.prog 24 #[.slice A n c] w fun e w' => e = .returned (.tuple #[.string (packT bs), .bool (packOk bs)]) ∧ Below w.heap.size w w' := by
  by_cases h : n ≤ 256
  · have e1 : packT bs = strOfNums (packL bs) := by simp [packT, hn, h]
    have e2 : packOk bs = true := by simp [packOk, hn, h]
    rw [e1, e2]
    exact specPackCells_yes A n c bs w hn h hr
  · have e1 : packT bs = ⟨#[]⟩ := by simp [packT, hn, h]
    have e2 : packOk bs = false := by simp [packOk, hn]; omega
    rw [e1, e2]
    exact specPackCells_no A n c w (by omega) hm

set_option maxHeartbeats 2000000 in
theorem lawPackCells (A : Option Addr) (n c : Nat) (bs : List Bool) (w : World) (hn : bs.length = n) (hm : n ≤ 9223372036854775807) (hr : Rd w w.heap.size A (bs.map Value.bool)) :
    Calls Try.prog 4 #[.slice A n c] w fun e w' => e = .returned (.bool true) ∧ Below w.heap.size w w' := by
  subst hn
  have Hr := Lib.hid hr; clear hr
  by_cases hs : bs.length ≤ 1048576
  · have hc : bs.length ≤ 140737488351232 := by omega
    go_enter Try.func4, Try.ntmps4
    go_wp2_with fail
    refine (toBoolS_any A _ c bs _ rfl hc Hr.out).mono ?_
    rintro e w1 ⟨rfl, ho1, hb1⟩
    have B1 := Lib.hid hb1; clear hb1
    have C := specPackCells_any _ _ bs.length bs w1 rfl hc (Rd.own ho1)
    have HC := Lib.hid C; clear C ho1
    go_wp2_with fail
    refine HC.out.mono ?_
    rintro e w2 ⟨rfl, hb2⟩
    have B2 := Lib.hid (bthen B1.out hb2); clear hb2 B1
    go_wp2_with fail
    refine (toBoolS_any A _ c bs _ rfl hc ((Hr.out.below B2.out).more B2.out.size)).mono ?_
    rintro e w3 ⟨rfl, ho3, hb3⟩
    have B3 := Lib.hid (bthen B2.out hb3); clear hb3 B2
    have HO3 := Lib.hid ho3; clear ho3
    go_wp2_with fail
    refine (packCells_any _ _ bs.length bs w3 rfl hc (Rd.own HO3.out)).mono ?_
    rintro e w4 ⟨rfl, hb4⟩
    have B4 := Lib.hid (bthen B3.out hb4)
    have HO4 := Lib.hid (own_next HO3.out hb4)
    clear hb4 B3
    go_wp2_with fail
    refine (toBoolS_any A _ c bs _ rfl hc ((Hr.out.below B4.out).more B4.out.size)).mono ?_
    rintro e w5 ⟨rfl, ho5, hb5⟩
    have B5 := Lib.hid (bthen B4.out hb5)
    have HO5 := Lib.hid (Rd.own (own_next HO4.out hb5))
    have HO6 := Lib.hid (Rd.own ho5)
    clear hb5 B4 ho5
    go_wp2_with fail
    refine (eqBoolS_any _ _ _ bs.length _ bs.length bs bs w5 rfl rfl hc hc HO5.out HO6.out).mono ?_
    rintro e w6 ⟨rfl, m, rfl⟩
    rw [sameL_self]
    go_wp2
    go_ret
    exact ⟨rfl, below_drewN B5.out _⟩
  · go_enter Try.func4, Try.ntmps4
    go_wp2
    go_ret
    exact ⟨rfl, Below.refl _ _⟩
end Go.Proofs.Ytbefcfdmaafghaa
