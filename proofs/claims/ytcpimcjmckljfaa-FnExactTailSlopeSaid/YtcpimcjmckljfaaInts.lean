/- Lists of ints: their copies, the comparison of two equal ones, the marks that the laws lay. -/
import Derived.Test.YtcpimcjmckljfaaBase
namespace Go.Proofs.Ytcpimcjmckljfaa
open Go.RowKit

set_option maxHeartbeats 1000000 in
theorem toInt64S_any (A : Option Addr) (n c : Nat) (bs : List Int) (w : World) (hn : bs.length = n) (hc : n ≤ 17592186044416) (hr : Rd w w.heap.size A (bs.map (Value.int .i64))) :
    Calls Try.prog 14 #[.slice A n c] w fun e w' => e = .returned (.slice (some ⟨w.heap.size, 0, none⟩) n n) ∧
      w'.ownsRow w.heap.size 2 1 (.slice (some ⟨w.heap.size, 0, none⟩) n n) n (bs.map (Value.int .i64)) ∧ Below w.heap.size w w' := by
  obtain ⟨i0, hi, hz0, hz1, hz2⟩ := info_parts Try.info2
  have Hn := Lib.hid hn; clear hn
  go_enter Try.func14, Try.ntmps14
  go_wp2_with (at_make; refine wpList_make_full _ rfl _ _ 22 rfl w.heap.size 2 i0 (.int .i64 0) 1 Try.underlying22 hi hz0 hz1 _ _ _ _ n rfl rfl rfl rfl ?_ ?_ ?_ ?_)
  · rw [hz2]; omega
  · unfold maxLen; omega
  · exact Nat.le_refl _
  · intro w1 hown hgrow
    have HB := (Below.refl w.heap.size w).grown hgrow (Nat.le_refl _) (fun k hk => by cases hk)
    clear hgrow
    have HO : w1.ownsRow w.heap.size 2 1 (.slice (some ⟨w.heap.size, 0, none⟩) n n) n (((bs.take 0).map (Value.int .i64)) ++ List.replicate (n - 0) (.int .i64 0)) := by
      simpa [toList_madeCells_one, Value.cells] using hown
    clear hown
    go_wp2
    go_loopw [4] (fun i wr => ∃ k : Nat, k ≤ n ∧ i = .int .i64 k ∧ wr.ownsRow w.heap.size 2 1 (.slice (some ⟨w.heap.size, 0, none⟩) n n) n (((bs.take k).map (Value.int .i64)) ++ List.replicate (n - k) (.int .i64 0)) ∧ Below w.heap.size w wr) (fun i _ => n - (intOf i).toNat)
    case atStart => exact ⟨0, Nat.zero_le _, rfl, HO, HB⟩
    case round =>
      obtain ⟨k, hk, rfl, ho, hb⟩ := hrel
      by_cases hlt : k < n
      · obtain ⟨ad, rfl, hab, hcell⟩ := (hr.below hb).at_ (k := k) (by rw [List.length_map, Hn.out]; exact hlt)
        have hkl : k < bs.length := by rw [Hn.out]; exact hlt
        rw [List.getElem_map] at hcell
        have hst : wr.cell? ⟨w.heap.size, k, none⟩ = some ((((bs.take k).map (Value.int .i64)) ++ List.replicate (n - k) (.int .i64 0))[k]'(by rw [List.length_append, List.length_map, List.length_take, List.length_replicate]; omega)) := by
          rw [ho.cellAt k (by omega)]; exact List.getElem?_eq_getElem _
        have hfz := ho.frozenAt k
        have hs := (ho.stored k ((Value.int .i64) bs[k])).1
        rw [show n - k = bs.length - k from by rw [Hn.out], fill_step (Value.int .i64) (.int .i64 0) bs k hkl, Hn.out] at hs
        have hb2 := hb.setCell (p := ⟨w.heap.size, k, none⟩) (Nat.le_refl _) ((Value.int .i64) bs[k])
        have HS := Lib.hid hs; clear hs
        have HB2 := Lib.hid hb2; clear hb2
        clear HO HB
        go_wp2
        go_roundw
        case rel => exact ⟨k + 1, by omega, by go_num, HS.out, HB2.out⟩
        case measure => simp [intOf]; omega
      · go_wp2
        go_ret
        have : k = n := by omega
        subst this
        rw [List.take_of_length_le (by rw [Hn.out]; omega), Nat.sub_self, List.replicate_zero, List.append_nil] at ho
        exact ⟨rfl, ho, hb⟩

/-- two lists of ints are the same -/
def sameI (xs ys : List Int) : Bool := decide (xs = ys)
theorem sameI_self (xs : List Int) : sameI xs xs = true := by simp [sameI]
set_option maxHeartbeats 1000000 in
theorem eqInt64S_same (A A' : Option Addr) (n c n' c' : Nat) (xs : List Int) (w : World) (hn : xs.length = n) (hn' : xs.length = n') (hc : n ≤ 140737488351232)
    (hr : Rd w w.heap.size A (xs.map (Value.int .i64))) (hr' : Rd w w.heap.size A' (xs.map (Value.int .i64))) :
    Calls Try.prog 17 #[.slice A n c, .slice A' n' c'] w fun e w' => e = .returned (.bool true) ∧ ∃ m, w' = w.drewN m := by
  obtain rfl : n = n' := by omega
  have Hn := Lib.hid hn; clear hn hn'
  have Hr := Lib.hid hr; clear hr
  have Hr' := Lib.hid hr'; clear hr'
  go_enter Try.func17, Try.ntmps17
  go_wp2
  go_loopw [5] (fun i wr => ∃ k : Nat, k ≤ n ∧ i = .int .i64 k ∧ ∃ m, wr = w.drewN m) (fun i _ => n - (intOf i).toNat)
  case atStart => exact ⟨0, Nat.zero_le _, rfl, 0, rfl⟩
  case round =>
    obtain ⟨k, hk, rfl, m, rfl⟩ := hrel
    by_cases hlt : k < n
    · have hka : k < xs.length := by rw [Hn.out]; exact hlt
      obtain ⟨ad, rfl, hab, hcell⟩ := Hr.out.at_ (k := k) (by rw [List.length_map]; exact hka)
      obtain ⟨ad', rfl, hab', hcell'⟩ := Hr'.out.at_ (k := k) (by rw [List.length_map]; exact hka)
      rw [List.getElem_map] at hcell hcell'
      obtain ⟨x, hx⟩ : ∃ x, x = xs[k] := ⟨_, rfl⟩
      rw [← hx] at hcell hcell'
      clear hx
      go_wp2
      go_quiet (fail)
      go_wp2
      go_roundw
      case rel => exact ⟨k + 1, by omega, by go_num, _, rfl⟩
      case measure => simp [intOf]; omega
    · go_wp2
      go_ret
      exact ⟨rfl, _, rfl⟩

/-- the mark of place i, from k on -/
def mkI (k : Nat) (i : Nat) : Value := .int .i64 ((k : Int) + (i : Int))
set_option maxHeartbeats 1000000 in
theorem markInt64S_any (A : Option Addr) (n c k B : Nat) (xs : List Value) (w : World) (hk : k + n ≤ 1099511627776) (ho : w.ownsRow B 2 1 (.slice A n c) n xs) :
    Calls Try.prog 39 #[.slice A n c, .int .i64 k] w fun e w' => e = .returned (.int .i64 ((k + n : Nat) : Int)) ∧ w'.ownsRow B 2 1 (.slice A n c) n ((List.range n).map (mkI k)) ∧ w.grownBy w' (Value.slice A n c).ownBlock := by
  have hxl : xs.length = n := by have := ho.1; omega
  have Hx := Lib.hid hxl; clear hxl
  go_enter Try.func39, Try.ntmps39
  go_wp2
  go_loopw [1, 5] (fun kk i wr => ∃ j : Nat, j ≤ n ∧ i = .int .i64 j ∧ kk = .int .i64 ((k + j : Nat) : Int) ∧ wr.ownsRow B 2 1 (.slice A n c) n ((List.range j).map (mkI k) ++ xs.drop j) ∧ w.grownBy wr (Value.slice A n c).ownBlock) (fun _ i _ => n - (intOf i).toNat)
  case atStart => exact ⟨0, Nat.zero_le _, rfl, rfl, by simpa using ho, World.grownBy.refl _ _⟩
  case round =>
    obtain ⟨j, hj, rfl, rfl, hr, hg⟩ := hrel
    by_cases hlt : j < n
    · obtain ⟨g, rfl⟩ : ∃ g, A = some ⟨g, 0, none⟩ := by
        rcases hr.2 with ⟨hv, hn⟩ | ⟨g, cap, cur, hv, _⟩
        · omega
        · exact ⟨g, by injection hv⟩
      have hjx : j < xs.length := by rw [Hx.out]; exact hlt
      have hc : wr.cell? ⟨g, j, none⟩ = some xs[j] := by
        rw [hr.cellAt j (by omega), List.getElem?_append_right (by simp)]
        simp [List.getElem?_eq_getElem hjx]
      have hf := hr.frozenAt j
      have hs := hr.stored j (mkI k j)
      have HS := Lib.hid hs.1
      have HG := Lib.hid (World.grownBy.trans' hg hs.2)
      rw [fillF_step _ _ _ hjx] at HS
      unfold mkI at HG
      have hkj : ((k + j : Nat) : Int) = (k : Int) + (j : Int) := by omega
      rw [hkj]
      clear hs hg hr hkj
      go_wp2
      go_roundw
      case rel => exact ⟨j + 1, by omega, by go_num, by go_num, by (have := HS.out; unfold mkI at this ⊢; exact this), HG.out⟩
      case measure => simp [intOf]; omega
    · have hjn : j = n := by omega
      subst hjn
      rw [List.drop_eq_nil_of_le (by rw [Hx.out]; omega), List.append_nil] at hr
      go_wp2
      go_ret
      exact ⟨rfl, hr, hg⟩
set_option maxHeartbeats 1000000 in
theorem heldInt64S_any (A : Option Addr) (n c k : Nat) (w : World) (hk : k + n ≤ 1099511627776) (hr : Rd w w.heap.size A ((List.range n).map (mkI k))) :
    Calls Try.prog 40 #[.slice A n c, .int .i64 k] w fun e w' => e = .returned (.int .i64 ((k + n : Nat) : Int)) ∧ w = w' := by
  have Hr := Lib.hid hr; clear hr
  go_enter Try.func40, Try.ntmps40
  go_wp2
  go_loop [1, 5] (fun kk i => ∃ j : Nat, j ≤ n ∧ i = .int .i64 j ∧ kk = .int .i64 ((k + j : Nat) : Int)) (fun _ i => n - (intOf i).toNat)
  case atStart => exact ⟨0, Nat.zero_le _, rfl, rfl⟩
  case round =>
    obtain ⟨j, hj, rfl, rfl⟩ := hrel
    by_cases hlt : j < n
    · obtain ⟨ad, rfl, _, hx⟩ := Hr.out.at_ (k := j) (by simpa using hlt)
      rw [List.getElem_map, List.getElem_range] at hx
      unfold mkI at hx
      have hkj : ((k + j : Nat) : Int) = (k : Int) + (j : Int) := by omega
      rw [hkj]
      clear hkj
      go_wp2
      go_round
      case rel => exact ⟨j + 1, by omega, by go_num, by go_num⟩
      case measure => simp [intOf]; omega
    · have hjn : j = n := by omega
      subst hjn
      go_wp2
      go_ret
      exact ⟨rfl, rfl⟩
end Go.Proofs.Ytcpimcjmckljfaa
