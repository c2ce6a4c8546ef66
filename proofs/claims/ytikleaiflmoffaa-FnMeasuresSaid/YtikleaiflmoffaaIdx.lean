/- Where a box stands in a list of boxes. -/
import Derived.Test.YtikleaiflmoffaaBxp
import Derived.BigQuiet
import Derived.Deep.DeepCutAuto
namespace Go.Proofs.Ytikleaiflmoffaa
open Ieee Go.RowKit
def bxV (p : Int × Int) : Value := .agg #[.int .i64 p.1, .int .i64 p.2]
/-- boxes in a block's cells -/
def RdB (w : World) (B g : Nat) (L : List (Int × Int)) : Prop := L = [] ∨ (g < B ∧ ∀ k (h : k < L.length), w.cell? ⟨g, k * 2, none⟩ = some (.int .i64 L[k].1) ∧ w.cell? ⟨g, k * 2 + 1, none⟩ = some (.int .i64 L[k].2))
theorem RdB.below {w w' : World} {B g : Nat} {L : List (Int × Int)} (h : RdB w B g L) (hb : Below B w w') : RdB w' B g L := by
  rcases h with h | ⟨h1, h2⟩
  · exact .inl h
  · exact .inr ⟨h1, fun k hk => ⟨(hb.cell (p := ⟨g, k * 2, none⟩) h1).trans (h2 k hk).1, (hb.cell (p := ⟨g, k * 2 + 1, none⟩) h1).trans (h2 k hk).2⟩⟩
theorem RdB.at_ {w : World} {B g k : Nat} {L : List (Int × Int)} (h : RdB w B g L) (hk : k < L.length) : w.cell? ⟨g, k * 2, none⟩ = some (.int .i64 L[k].1) ∧ w.cell? ⟨g, k * 2 + 1, none⟩ = some (.int .i64 L[k].2) := by
  rcases h with h | ⟨_, h2⟩
  · subst h; simp at hk
  · exact h2 k hk
/-- i is a place of p in L, or -1 -/
def Fnd (L : List (Int × Int)) (p : Int × Int) (i : Int) : Prop := (i = -1 ∧ p ∉ L) ∨ ∃ k, ∃ h : k < L.length, i = (k : Int) ∧ L[k] = p
theorem run_eqB (x y a b : Int) : ∀ (W : World), (binOp .eql 69 (.agg #[.int .i64 x, .int .i64 y]) (.agg #[.int .i64 a, .int .i64 b])).run Try.prog W = .ok (.bool (x == a && y == b)) W := by
  intro W
  have u2 := Try.underlying2
  have a2 := Try.isAgg2
  have z2 := Try.sizeOf2
  have hS : Try.prog.underlying 69 = some (.struct (Try.prog.fieldsOf 69)) := by kernel_rfl
  have hp : Try.prog.stoodInHeld 69 = false := by kernel_rfl
  rw [run_eql_struct, show (10000 : Nat) = 9999 + 1 from rfl, run_equalIn_agg W 9999 69 _ _ hS hp]
  simp only [Program.fieldsOf, Try.underlying69]
  go_simp
  by_cases h1 : x = a <;> by_cases h2 : y = b <;> simp [h1, h2]
set_option maxRecDepth 100000 in
set_option maxHeartbeats 4000000 in
theorem index_any (g n c : Nat) (L : List (Int × Int)) (p : Int × Int) (w : World) (hL : L.length = n) (hm : n ≤ 256) (hr : RdB w w.heap.size g L) :
    Calls Try.prog 32 #[.slice (some ⟨g, 0, none⟩) n c, bxV p] w fun e w' => (∃ i, e = .returned (.int .i64 i) ∧ Fnd L p i) ∧ Below w.heap.size w w' := by
  have HL := Lib.hid hL
  obtain ⟨x, y⟩ := p
  unfold bxV
  dsimp only
  have HW1 : Hid (RdB (w.alloc (.cells #[.int .i64 x, .int .i64 y] 69)) w.heap.size g L ∧ Below w.heap.size w (w.alloc (.cells #[.int .i64 x, .int .i64 y] 69))) := Lib.hid ⟨hr.below (below_new w _), below_new w _⟩
  have hx0 : (w.alloc (.cells #[.int .i64 x, .int .i64 y] 69)).cell? ⟨w.heap.size, 0, none⟩ = some (.int .i64 x) := by simp [go_sem]
  have hy0 : (w.alloc (.cells #[.int .i64 x, .int .i64 y] 69)).cell? ⟨w.heap.size, 1, none⟩ = some (.int .i64 y) := by simp [go_sem]
  have HXY := Lib.hid (And.intro hx0 hy0)
  clear hL hr hx0 hy0
  go_enter Try.func32, Try.ntmps32
  go_wp2_with fail
  obtain ⟨w1, hw1⟩ : ∃ W, W = w.alloc (.cells #[.int .i64 x, .int .i64 y] 69) := ⟨_, rfl⟩
  rw [← hw1] at HW1 HXY ⊢
  clear hw1
  go_loopw [5, 8] (fun _ i wr => ∃ k : Nat, k ≤ n ∧ i = .int .i64 k ∧ Hid (∀ j (h : j < L.length), j < k → L[j] ≠ (x, y)) ∧ ∃ m, wr = w1.drewN m) (fun _ i _ => n - (intOf i).toNat)
  case atStart => exact ⟨0, Nat.zero_le _, rfl, Lib.hid (fun j _ h => by omega), 0, rfl⟩
  case round =>
    obtain ⟨k, hk, rfl, HNO, hwr⟩ := hrel
    have HXY2 : Hid (wr.cell? ⟨w.heap.size, 0, none⟩ = some (.int .i64 x) ∧ wr.cell? ⟨w.heap.size, 1, none⟩ = some (.int .i64 y)) := Lib.hid (by obtain ⟨m, rfl⟩ := hwr; exact HXY.out)
    have HRB : Hid (RdB wr w.heap.size g L) := Lib.hid (by obtain ⟨m, rfl⟩ := hwr; exact HW1.out.1)
    have HWR := Lib.hid hwr
    clear hwr
    by_cases hlt : k < n
    · have hkl : k < L.length := by rw [HL.out]; exact hlt
      obtain ⟨c1, c2⟩ := HRB.out.at_ hkl
      obtain ⟨hx1, hy1⟩ := HXY2.out
      have HLK : Hid (L[k] = (L[k].1, L[k].2)) := Lib.hid rfl
      obtain ⟨a, ha⟩ : ∃ a, a = L[k].1 := ⟨_, rfl⟩
      obtain ⟨b, hb⟩ : ∃ b, b = L[k].2 := ⟨_, rfl⟩
      rw [← ha] at c1 HLK
      rw [← hb] at c2 HLK
      have HE := run_eqB x y a b
      have hkn : (k : Int) < (n : Int) := by omega
      clear ha hb
      cases hq : (x == a && y == b)
      · rw [hq] at HE
        have HNE : Hid (L[k] ≠ (x, y)) := Lib.hid (by
          rw [HLK.out]
          intro h
          injection h with h1 h2
          rw [h1, h2] at hq
          simp at hq)
        clear hq
        go_upto_region 4 with fail
        go_quiet (fail)
        go_wp2_with fail
        go_roundw
        case rel => exact ⟨k + 1, by omega, by go_num, Lib.hid (fun j hj hjk => by
          by_cases h : j = k
          · subst h; exact HNE.out
          · exact HNO.out j hj (by omega)), drw_trans HWR.out ⟨_, rfl⟩⟩
        case measure => simp [intOf]; omega
      · rw [hq] at HE
        have HEQ : Hid (L[k] = (x, y)) := Lib.hid (by
          rw [HLK.out]
          simp only [Bool.and_eq_true, beq_iff_eq] at hq
          rw [hq.1, hq.2])
        clear hq
        go_upto_region 4 with fail
        go_quiet (fail)
        go_wp2_with fail
        go_ret
        exact ⟨⟨(k : Int), rfl, .inr ⟨k, hkl, rfl, HEQ.out⟩⟩, below_drw HW1.out.2 (drw_trans HWR.out ⟨_, rfl⟩)⟩
    · obtain rfl : k = n := by omega
      have HNI : Hid ((x, y) ∉ L) := Lib.hid (by
        intro h
        obtain ⟨j, hj, he⟩ := List.mem_iff_getElem.1 h
        exact HNO.out j hj (by rw [← HL.out]; exact hj) he)
      go_wp2
      go_ret
      exact ⟨⟨-1, rfl, .inl ⟨rfl, HNI.out⟩⟩, below_drw HW1.out.2 HWR.out⟩
end Go.Proofs.Ytikleaiflmoffaa
