/- The marks that the laws lay into a list of bools, and the look whether they are still there. -/
import Derived.Test.YtbefcfdmaafghaaCopies
namespace Go.Proofs.Ytbefcfdmaafghaa
open Go.RowKit

theorem World.grownBy.trans' {a b c : World} {r : Option Nat} (h : a.grownBy b r) (k : b.grownBy c r) : a.grownBy c r :=
  ⟨k.os.trans h.os, k.tape.trans h.tape, k.output.trans h.output, Nat.le_trans h.size k.size, fun i hi hne => (k.block i (Nat.lt_of_lt_of_le hi h.size) hne).trans (h.block i hi hne)⟩

/-- A round of filling: place j gets f j. -/
theorem fillF_step (f : Nat → Value) (xs : List Value) (j : Nat) (hj : j < xs.length) :
    ((List.range j).map f ++ xs.drop j).set j (f j) = (List.range (j + 1)).map f ++ xs.drop (j + 1) := by
  have e1 : ((List.range j).map f).length = j := by simp
  have e2 : xs.drop j = xs[j] :: xs.drop (j + 1) := by rw [List.drop_eq_getElem_cons hj]
  rw [List.set_append_right _ _ (by omega), e1, Nat.sub_self, e2, List.set_cons_zero, List.range_succ, List.map_append]
  simp

/-- the mark of place i, from k on -/
def mkB (k : Nat) (i : Nat) : Value := .bool (((k : Int) + (i : Int)) % 3 == 0)

set_option maxHeartbeats 1000000 in
theorem markBoolS_any (A : Option Addr) (n c k B : Nat) (xs : List Value) (w : World) (hk : k + n ≤ 1099511627776) (ho : w.ownsRow B 4 1 (.slice A n c) n xs) :
    Calls Try.prog 47 #[.slice A n c, .int .i64 k] w fun e w' => e = .returned (.int .i64 ((k + n : Nat) : Int)) ∧ w'.ownsRow B 4 1 (.slice A n c) n ((List.range n).map (mkB k)) ∧ w.grownBy w' (Value.slice A n c).ownBlock := by
  have hxl : xs.length = n := by have := ho.1; omega
  have Hx := Lib.hid hxl; clear hxl
  go_enter Try.func47, Try.ntmps47
  go_wp2
  go_loopw [1, 5] (fun kk i wr => ∃ j : Nat, j ≤ n ∧ i = .int .i64 j ∧ kk = .int .i64 ((k + j : Nat) : Int) ∧ wr.ownsRow B 4 1 (.slice A n c) n ((List.range j).map (mkB k) ++ xs.drop j) ∧ w.grownBy wr (Value.slice A n c).ownBlock) (fun _ i _ => n - (intOf i).toNat)
  case atStart => exact ⟨0, Nat.zero_le _, rfl, rfl, by simpa using ho, World.grownBy.refl _ _⟩
  case round =>
    obtain ⟨j, hj, rfl, rfl, hr, hg⟩ := hrel
    by_cases hlt : j < n
    · obtain ⟨g, rfl⟩ : ∃ g, A = some ⟨g, 0, none⟩ := by
        rcases hr.2 with ⟨hv, hn⟩ | ⟨g, cap, cur, hv, _⟩
        · omega
        · exact ⟨g, by injection hv⟩
      have hjx : j < xs.length := by rw [Hx.out]; exact hlt
      have hc : wr.cell? ⟨g, j, none⟩ = some xs[j] := by
        rw [hr.cellAt j (by omega), List.getElem?_append_right (by simp)]
        simp [List.getElem?_eq_getElem hjx]
      have hf := hr.frozenAt j
      have hs := hr.stored j (mkB k j)
      have HS := Lib.hid hs.1
      have HG := Lib.hid (World.grownBy.trans' hg hs.2)
      rw [fillF_step _ _ _ hjx] at HS
      unfold mkB at HG
      have hkj : ((k + j : Nat) : Int) = (k : Int) + (j : Int) := by omega
      rw [hkj]
      clear hs hg hr hkj
      go_wp2
      go_roundw
      case rel => exact ⟨j + 1, by omega, by go_num, by go_num, by (have := HS.out; unfold mkB at this ⊢; exact this), HG.out⟩
      case measure => simp [intOf]; omega
    · have hjn : j = n := by omega
      subst hjn
      rw [List.drop_eq_nil_of_le (by rw [Hx.out]; omega), List.append_nil] at hr
      go_wp2
      go_ret
      exact ⟨rfl, hr, hg⟩

set_option maxHeartbeats 1000000 in
theorem heldBoolS_any (A : Option Addr) (n c k : Nat) (w : World) (hk : k + n ≤ 1099511627776) (hr : Rd w w.heap.size A ((List.range n).map (mkB k))) :
    Calls Try.prog 48 #[.slice A n c, .int .i64 k] w fun e w' => e = .returned (.int .i64 ((k + n : Nat) : Int)) ∧ w = w' := by
  have Hr := Lib.hid hr; clear hr
  go_enter Try.func48, Try.ntmps48
  go_wp2
  go_loop [1, 5] (fun kk i => ∃ j : Nat, j ≤ n ∧ i = .int .i64 j ∧ kk = .int .i64 ((k + j : Nat) : Int)) (fun _ i => n - (intOf i).toNat)
  case atStart => exact ⟨0, Nat.zero_le _, rfl, rfl⟩
  case round =>
    obtain ⟨j, hj, rfl, rfl⟩ := hrel
    by_cases hlt : j < n
    · obtain ⟨ad, rfl, _, hx⟩ := Hr.out.at_ (k := j) (by simpa using hlt)
      rw [List.getElem_map, List.getElem_range] at hx
      unfold mkB at hx
      have hkj : ((k + j : Nat) : Int) = (k : Int) + (j : Int) := by omega
      rw [hkj]
      clear hkj
      go_wp2
      go_round
      case rel => exact ⟨j + 1, by omega, by go_num, by go_num⟩
      case measure => simp [intOf]; omega
    · have hjn : j = n := by omega
      subst hjn
      go_wp2
      go_ret
      exact ⟨rfl, rfl⟩

set_option maxHeartbeats 400000 in
theorem markField_any (wd hg : Int) (A : Option Addr) (n c k B : Nat) (xs : List Value) (w : World) (_hB : B ≤ w.heap.size) (hk : k + n ≤ 1099511627776) (ho : w.ownsRow B 4 1 (.slice A n c) n xs) :
    Calls Try.prog 30 #[.agg #[.int .i64 wd, .int .i64 hg, .slice A n c], .int .i64 k] w fun e w' => e = .returned (.int .i64 ((k + n : Nat) : Int)) ∧ w'.ownsRow B 4 1 (.slice A n c) n ((List.range n).map (mkB k)) ∧ w.grownBy w' (Value.slice A n c).ownBlock := by
  have HO := Lib.hid (ho.alloc (.cells #[.int .i64 wd, .int .i64 hg, .slice A n c] 27)); clear ho
  go_enter Try.func30, Try.ntmps30
  go_wp2_with fail
  refine (markBoolS_any A n c k B xs _ hk HO.out).mono ?_
  rintro e w1 ⟨rfl, ho1, hg1⟩
  have H1 := Lib.hid ho1; clear ho1
  have HG := Lib.hid (World.grownBy.trans' (World.grownBy_alloc w _ _) hg1); clear hg1
  go_wp2
  go_ret
  exact ⟨rfl, H1.out, HG.out⟩
set_option maxHeartbeats 400000 in
theorem heldField_any (wd hg : Int) (A : Option Addr) (n c k : Nat) (w : World) (hk : k + n ≤ 1099511627776) (hr : Rd w w.heap.size A ((List.range n).map (mkB k))) :
    Calls Try.prog 31 #[.agg #[.int .i64 wd, .int .i64 hg, .slice A n c], .int .i64 k] w fun e w' => e = .returned (.int .i64 ((k + n : Nat) : Int)) ∧ Below w.heap.size w w' := by
  have HR := Lib.hid (hr.next (below_new w (.cells #[.int .i64 wd, .int .i64 hg, .slice A n c] 27))); clear hr
  go_enter Try.func31, Try.ntmps31
  go_wp2_with fail
  refine (heldBoolS_any A n c k _ hk HR.out).mono ?_
  rintro e w1 ⟨rfl, rfl⟩
  go_wp2
  go_ret
  exact ⟨rfl, below_new _ _⟩
end Go.Proofs.Ytbefcfdmaafghaa
